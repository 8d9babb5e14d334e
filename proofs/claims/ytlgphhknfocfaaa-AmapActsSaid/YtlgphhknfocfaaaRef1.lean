import Derived.Test.YtlgphhknfocfaaaAmap12
import Derived.Test.YtlgphhknfocfaaaCovers0
namespace Go.Proofs.Ytlgphhknfocfaaa
open Go.Sl

/-- The reference's counts. -/
def rcB (b : Nat) (c : List Int) : HP := fun m => ∃ v : Value, (c.length ≤ 4096 ∧ ∀ x ∈ c, 0 ≤ x ∧ x ≤ 1000000) ∧ big [pts b (.cells [v].toArray 95 (0, 0)), vec v c.length 1 3 (c.map intC)] m
theorem rcB_open (b : Nat) (c : List Int) : ∀ m, rcB b c m → ∃ v : Value, ((c.length ≤ 4096 ∧ ∀ x ∈ c, 0 ≤ x ∧ x ≤ 1000000) ∧ ∃ a k, v = .slice a c.length k) ∧ big [pts b (.cells [v].toArray 95 (0, 0)), vec v c.length 1 3 (c.map intC)] m :=
  fun _ ⟨v, h1, h⟩ => ⟨v, ⟨h1, big_fact vec_is (big_tail h)⟩, h⟩
theorem rcB_shut (b : Nat) (c : List Int) (v : Value) (h : c.length ≤ 4096 ∧ ∀ x ∈ c, 0 ≤ x ∧ x ≤ 1000000) : ∀ m, big [pts b (.cells [v].toArray 95 (0, 0)), vec v c.length 1 3 (c.map intC)] m → rcB b c m := fun _ h' => ⟨v, h, h'⟩
theorem rcNew_spec (n : Int) (h0 : 1 ≤ n) (hn : n ≤ 4096) : Tri Try.prog 39 [.int .i64 n] [] (fun u L' => ∃ b, u = .pointer (some ⟨b, 0, none⟩) ∧ L' = [rcB b (List.replicate n.toNat 0)]) := by
  refine tri_intro Try.func39 rfl Try.results39 Try.ntmps39 rfl (by kernel_rfl) fun R => ?_
  repeat (refine go rfl ?_)
  refine SXG.split rfl (fun h1 => by omega) (fun h1 => ?_)
  repeat (refine go rfl ?_)
  refine SXB.split (fun h2 => by omega) (fun h2 => ?_)
  repeat (refine go rfl ?_)
  refine SXR.make (n := n) (cap := n) rfl rfl (by decide) (by omega) (Int.le_refl _) (by omega) (by omega) fun bv => ?_
  repeat (first | refine go rfl ?_ | intro _)
  rename_i b
  rw [zerosL_one, show List.replicate n.toNat (Value.int .i64 0) = (List.replicate n.toNat (0 : Int)).map intC by simp]
  refine Fin.shutB _ bv (vec_lit (n := n.toNat) (sz := 1) (T := 3) (by simp)) ?_
  refine Fin.shut (cs := [pts b (.cells [.slice (some ⟨bv, 0, none⟩) n.toNat n.toNat].toArray 95 (0, 0)), vec (.slice (some ⟨bv, 0, none⟩) n.toNat n.toNat) n.toNat 1 3 ((List.replicate n.toNat (0 : Int)).map intC)]) _ (fun m hm => rcB_shut b (List.replicate n.toNat 0) (.slice (some ⟨bv, 0, none⟩) n.toNat n.toNat) ⟨by simp; omega, fun x hx => by rw [List.eq_of_mem_replicate hx]; omega⟩ m (by rw [List.length_replicate]; exact hm)) ?_
  exact fin_ret (.tmp rfl .nil) ⟨b, rfl, rfl⟩
theorem rcAt_spec (b : Nat) (c : List Int) (i : Int) : Tri Try.prog 41 [.pointer (some ⟨b, 0, none⟩), .int .i64 i] [rcB b c] (fun u l => u = .int .i64 (if 0 ≤ i ∧ i < c.length then gf c i else -1) ∧ l = [rcB b c]) := by
  refine tri_intro Try.func41 rfl Try.results41 Try.ntmps41 rfl (by kernel_rfl) fun R => ?_
  refine SXC.open (rcB b c) (rcB_open b c) ?_
  rintro _ ⟨hc, a0, k0, rfl⟩
  repeat (refine go rfl ?_)
  refine SXG.split rfl (fun h1 => ?_) (fun h1 => ?_)
  · repeat (refine go rfl ?_)
    refine Fin.shut _ (rcB_shut b c (.slice a0 c.length k0) hc) ?_
    exact fin_ret (.tmp rfl .nil) ⟨by rw [if_neg (by omega)], rfl⟩
  · repeat (refine go rfl ?_)
    refine SXB.split (fun h2 => ?_) (fun h2 => ?_)
    · repeat (refine go rfl ?_)
      refine Fin.shut _ (rcB_shut b c (.slice a0 c.length k0) hc) ?_
      exact fin_ret (.tmp rfl .nil) ⟨by rw [if_neg (by omega)], rfl⟩
    · refine SXC.vec (v := .slice a0 c.length k0) (n := c.length) (sz := 1) (T := 3) (cs := c.map intC) (fun _ h _ => absurd h (by omega)) ?_
      rintro bv cap sp he hcap hsp hl
      cases he
      repeat (refine go rfl ?_)
      refine SXR.index i.toNat rfl (by omega) (by omega) (by omega) ?_
      repeat (refine go rfl ?_)
      refine SXL.row (ints_get sp (i := i.toNat) (by omega)) ?_
      rw [show ((i.toNat : Nat) : Int) = i by omega]
      repeat (refine go rfl ?_)
      refine Fin.shutB _ bv (vec_shut (T := 3) hl hcap hsp) ?_
      refine Fin.shut _ (rcB_shut b c (.slice (some ⟨bv, 0, none⟩) c.length k0) hc) ?_
      exact fin_ret (.tmp rfl .nil) ⟨by rw [if_pos (by omega)], rfl⟩
theorem rcSum_spec (b : Nat) (c : List Int) : Tri Try.prog 42 [.pointer (some ⟨b, 0, none⟩)] [rcB b c] (fun u l => u = .int .i64 c.sum ∧ l = [rcB b c]) := by
  refine tri_intro Try.func42 rfl Try.results42 Try.ntmps42 rfl (by kernel_rfl) fun R => ?_
  refine SXC.open (rcB b c) (rcB_open b c) ?_
  rintro _ ⟨hc, a0, k0, rfl⟩
  repeat (refine go rfl ?_)
  refine SXC.loop (fun i : Nat => i ≤ c.length) (fun i => [(3, .int .i64 (c.take i).sum), (9, .slice a0 c.length k0), (10, .int .i64 c.length), (11, .int .i64 i)])
    (fun i => [vec (.slice a0 c.length k0) c.length 1 3 (c.map intC)]) (fun i => c.length - i) 0 (Nat.zero_le _) ⟨rfl, rfl, rfl, rfl, trivial⟩ ?_
  intro i hi'
  repeat (refine go rfl ?_)
  refine SXB.split (fun hlt => ?_) (fun hge => ?_)
  · have hil : i < c.length := by omega
    refine SXC.vec (v := .slice a0 c.length k0) (n := c.length) (sz := 1) (T := 3) (cs := c.map intC) (fun _ h _ => absurd h (by omega)) ?_
    rintro bv cap sp he hcap hsp hl
    cases he
    repeat (refine go rfl ?_)
    refine SXR.index i rfl (by omega) (by omega) (by omega) ?_
    repeat (refine go rfl ?_)
    refine SXL.row (ints_get sp hil) ?_
    repeat (refine go rfl ?_)
    have hs := sum_take hil
    have h1 := sum_le (m := 1000000) (C := c.take i) fun x hx => hc.2 x (List.mem_of_mem_take hx)
    have h2 := sum_nn (C := c.take i) fun x hx => (hc.2 x (List.mem_of_mem_take hx)).1
    have h3 := hc.2 (gf c i) (gf_in (by omega) (by omega))
    have h4 : ((c.take i).length : Int) ≤ 4096 := by rw [List.length_take]; omega
    rw [show IntKind.i64.wrap ((c.take i).sum + gf c i) = (c.take (i + 1)).sum by rw [hs]; exact IntWalk.i64_in _ ⟨by omega, by omega⟩]
    refine Fin.shutB _ bv (vec_shut (T := 3) hl hcap hsp) ?_
    exact fin_round (i + 1) (by omega) (by omega) ⟨rfl, rfl, rfl, by rw [wrap_succ (by omega)], trivial⟩
  · have hil : i = c.length := by omega
    subst hil
    rw [List.take_length]
    repeat (refine go rfl ?_)
    refine Fin.shut _ (rcB_shut b c (.slice a0 c.length k0) hc) ?_
    exact fin_ret (.tmp rfl .nil) ⟨rfl, rfl⟩
theorem goneC_stepD {c : List Int} {lo d : Int} {k : Nat} (h0 : lo ≤ k) : goneC c lo ((k : Int) + 1) d = goneC c lo k d ++ (if d ≠ 0 ∧ d = -gf c k then [(k : Int)] else []) := by
  unfold goneC
  rw [irange_succ h0, List.filter_append]
  congr 1
  by_cases h : d ≠ 0 ∧ d = -gf c k <;> simp [List.filter_cons, h]
set_option maxRecDepth 4000 in
set_option maxHeartbeats 4000000 in
theorem rcAdd_spec (b : Nat) (c : List Int) (lo hi d : Int) (hc : 0 < c.length) (hd : -1000000000 ≤ d ∧ d ≤ 1000000000) : Tri Try.prog 40 [.pointer (some ⟨b, 0, none⟩), .int .i64 lo, .int .i64 hi, .int .i64 d] [rcB b c]
    (fun u L' => (badC c lo hi d ∧ u = .tuple #[.slice none 0 0, .int .i64 2] ∧ L' = [rcB b c]) ∨
      (¬ badC c lo hi d ∧ ∃ v, u = .tuple #[v, .int .i64 0] ∧ L' = [rcB b (addC c lo hi d), vec v (goneC c lo hi d).length 1 3 ((goneC c lo hi d).map intC)])) := by
  refine tri_intro Try.func40 rfl Try.results40 Try.ntmps40 rfl (by kernel_rfl) fun R => ?_
  refine SXC.open (rcB b c) (rcB_open b c) ?_
  rintro _ ⟨hb, a0, k0, rfl⟩
  repeat (refine go rfl ?_)
  refine SXG.split rfl (fun h1 => ?_) (fun h1 => ?_)
  · repeat (refine go rfl ?_)
    refine Fin.shut _ (rcB_shut b c (.slice a0 c.length k0) hb) ?_
    exact fin_ret (.tmp rfl (.tmp rfl .nil)) (.inl ⟨.inl h1, rfl, rfl⟩)
  repeat (refine go rfl ?_)
  refine SXG.split rfl (fun h2 => ?_) (fun h2 => ?_)
  · repeat (refine go rfl ?_)
    refine Fin.shut _ (rcB_shut b c (.slice a0 c.length k0) hb) ?_
    exact fin_ret (.tmp rfl (.tmp rfl .nil)) (.inl ⟨.inr (.inl h2), rfl, rfl⟩)
  repeat (refine go rfl ?_)
  refine SXB.split (fun h3 => ?_) (fun h3 => ?_)
  · repeat (refine go rfl ?_)
    refine Fin.shut _ (rcB_shut b c (.slice a0 c.length k0) hb) ?_
    exact fin_ret (.tmp rfl (.tmp rfl .nil)) (.inl ⟨.inr (.inr (.inl h3)), rfl, rfl⟩)
  refine SXC.vec (v := .slice a0 c.length k0) (n := c.length) (sz := 1) (T := 3) (cs := c.map intC) (fun _ h _ => absurd h (by omega)) ?_
  rintro bv cap sp he hcap hsp hl
  cases he
  repeat (refine go rfl ?_)
  refine SXR.sliceLoHi lo.toNat hi.toNat (if k0 = lo.toNat then 0 else 0 + lo.toNat * 1) rfl rfl (by omega) (by omega) (by omega) (by omega) rfl ?_
  generalize ho : (if k0 = lo.toNat then 0 else 0 + lo.toNat * 1) = o
  have ho' : lo < hi → o = lo.toNat := fun h => by rw [← ho, if_neg (by omega)]; omega
  clear ho
  repeat (refine go rfl ?_)
  refine SXC.loop (fun i : Nat => i ≤ hi.toNat - lo.toNat ∧ ∀ j, lo ≤ j → j < lo + i → ¬ (d < -gf c j ∨ 1000000 - gf c j < d)) (fun i => [(0, .pointer (some ⟨b, 0, none⟩)), (1, .int .i64 lo), (2, .int .i64 hi), (3, .int .i64 d), (38, .slice (some ⟨bv, o, none⟩) (hi.toNat - lo.toNat) (k0 - lo.toNat)), (39, .int .i64 (hi.toNat - lo.toNat : Nat)), (40, .int .i64 i)])
    (fun i => [pts bv (.cells (c.map intC ++ sp).toArray 3 (0, 0)), pts b (.cells [.slice (some ⟨bv, 0, none⟩) c.length k0].toArray 95 (0, 0))]) (fun i => hi.toNat - lo.toNat - i) 0 ⟨Nat.zero_le _, fun j h1 h2 => by omega⟩ ⟨rfl, rfl, rfl, rfl, rfl, rfl, rfl, trivial⟩ ?_
  rintro i ⟨hi', hok⟩
  repeat (refine go rfl ?_)
  refine SXB.split (fun hlt => ?_) (fun hge => ?_)
  · have ho2 := ho' (by omega)
    repeat (refine go rfl ?_)
    refine SXR.index (lo.toNat + i) rfl (by omega) (by omega) (by omega) ?_
    repeat (refine go rfl ?_)
    refine SXL.row (ints_get sp (i := lo.toNat + i) (by omega)) ?_
    rw [show ((lo.toNat + i : Nat) : Int) = lo + i by omega]
    have h3 := hb.2 (gf c (lo + i)) (gf_in (by omega) (by omega))
    repeat (refine go rfl ?_)
    rw [show IntKind.i64.wrap (0 - gf c (lo + i)) = -gf c (lo + i) by rw [IntWalk.i64_in _ ⟨by omega, by omega⟩]; omega]
    refine SXG.split rfl (fun hb1 => ?_) (fun hb1 => ?_)
    · repeat (refine go rfl ?_)
      refine Fin.shutB _ bv (vec_shut (T := 3) hl hcap hsp) ?_
      refine Fin.shut _ (rcB_shut b c (.slice (some ⟨bv, 0, none⟩) c.length k0) hb) ?_
      exact fin_ret (.tmp rfl (.tmp rfl .nil)) (.inl ⟨.inr (.inr (.inr ⟨lo + i, by omega, by omega, .inl hb1⟩)), rfl, rfl⟩)
    repeat (refine go rfl ?_)
    rw [show IntKind.i64.wrap (1000000 - gf c (lo + i)) = 1000000 - gf c (lo + i) from IntWalk.i64_in _ ⟨by omega, by omega⟩]
    refine SXB.split (fun hb2 => ?_) (fun hb2 => ?_)
    · repeat (refine go rfl ?_)
      refine Fin.shutB _ bv (vec_shut (T := 3) hl hcap hsp) ?_
      refine Fin.shut _ (rcB_shut b c (.slice (some ⟨bv, 0, none⟩) c.length k0) hb) ?_
      exact fin_ret (.tmp rfl (.tmp rfl .nil)) (.inl ⟨.inr (.inr (.inr ⟨lo + i, by omega, by omega, .inr hb2⟩)), rfl, rfl⟩)
    repeat (refine go rfl ?_)
    refine fin_round (i + 1) ⟨by omega, fun j h1 h2 => ?_⟩ (by omega) ⟨rfl, rfl, rfl, rfl, rfl, rfl, by rw [wrap_succ (by omega)], trivial⟩
    by_cases hj : j < lo + i
    · exact hok j h1 hj
    · rw [show j = lo + i by omega]
      rintro (h | h)
      · exact hb1 h
      · exact hb2 h
  have hnb : ∀ j, lo ≤ j → j < hi → ¬ (d < -gf c j ∨ 1000000 - gf c j < d) := fun j h1 h2 => hok j h1 (by omega)
  have hgood : ¬ badC c lo hi d := by
    rintro (h | h | h | ⟨j, h1, h2, h⟩)
    · exact h1 h
    · exact h2 h
    · exact h3 h
    · exact hnb j h1 h2 h
  clear hok hge
  repeat (first | refine go rfl ?_ | intro _)
  rename_i b2
  refine SXR.shutB _ b2 (vec_lit (n := 0) (sz := 1) (T := 3) (cs := []) rfl) ?_
  refine SXR.append (n := 0) (m := c.length) (sz := 1) (e := 3) (ys := c.map intC) rfl (.refl _) rfl (fun w hw => ?_) (by simp) one_ints (by omega) (by omega) fun v' => ?_
  · exact RdS.of_pts (b := bv) (off := 0) (vs := c.map intC ++ sp) (by simp) (by simp) hw
  rw [Nat.zero_add, List.nil_append]
  refine SXR.facts vec_is ?_
  rintro ⟨a1, c1, rfl⟩
  repeat (refine go rfl ?_)
  have hlo : ((lo.toNat : Nat) : Int) = lo := by omega
  have e1 : c = addC c lo (((lo.toNat, Value.slice none 0 0) : Nat × Value).1 : Nat) d := by show c = addC c lo ((lo.toNat : Nat) : Int) d; rw [hlo, addC_self]
  refine SXC.ent (big_add (A := vec (lo.toNat, Value.slice none 0 0).2 (goneC c lo ((lo.toNat, Value.slice none 0 0) : Nat × Value).1 d).length 1 3 ((goneC c lo ((lo.toNat, Value.slice none 0 0) : Nat × Value).1 d).map intC)) (by
    show ∀ m, vec (Value.slice none 0 0) (goneC c lo ((lo.toNat : Nat) : Int) d).length 1 3 ((goneC c lo ((lo.toNat : Nat) : Int) d).map intC) m
    rw [hlo, goneC_self]; exact vec_nil)) ?_
  rw [show vec (.slice a1 c.length c1) c.length 1 3 (c.map intC) = vec (.slice a1 c.length c1) c.length 1 3 ((addC c lo ((lo.toNat, Value.slice none 0 0) : Nat × Value).1 d).map intC) from congrArg (fun l => vec (.slice a1 c.length c1) c.length 1 3 (l.map intC)) e1]
  refine SXC.loop (fun x : Nat × Value => lo ≤ x.1 ∧ (x.1 : Int) ≤ hi) (fun x => [(0, .pointer (some ⟨b, 0, none⟩)), (2, .int .i64 hi), (3, .int .i64 d), (12, .slice a1 c.length c1), (13, x.2), (14, .int .i64 x.1)])
    (fun x => [vec (.slice a1 c.length c1) c.length 1 3 ((addC c lo x.1 d).map intC), vec x.2 (goneC c lo x.1 d).length 1 3 ((goneC c lo x.1 d).map intC)]) (fun x => (hi - x.1).toNat) (lo.toNat, .slice none 0 0) ⟨by omega, by omega⟩ ⟨rfl, rfl, rfl, rfl, rfl, by rw [show ((lo.toNat : Nat) : Int) = lo by omega], trivial⟩ ?_
  rintro ⟨j, g⟩ ⟨hj1, hj2⟩
  dsimp only at hj1 hj2 ⊢
  repeat (refine go rfl ?_)
  refine SXB.split (fun hlt => ?_) (fun hge => ?_)
  · have hjl : j < c.length := by omega
    have hgl := goneC_len c lo j d
    have hst := goneC_stepD (c := c) (d := d) hj1
    have hbj := hb.2 (gf c j) (gf_in (by omega) (by omega))
    have hnj := hnb j hj1 hlt
    refine SXC.vec (v := .slice a1 c.length c1) (n := c.length) (sz := 1) (T := 3) (cs := (addC c lo j d).map intC) (fun _ h _ => absurd h (by omega)) ?_
    rintro bl capl spl he hcapl hspl hll
    cases he
    repeat (refine go rfl ?_)
    refine SXR.index j rfl (by omega) (by omega) (by omega) ?_
    repeat (refine go rfl ?_)
    refine SXL.row (ints_get spl (i := j) (by rw [addC_len]; omega)) ?_
    rw [gf_addC_at hjl]
    repeat (refine go rfl ?_)
    refine SXR.index j rfl (by omega) (by omega) (by omega) ?_
    repeat (refine go rfl ?_)
    refine SXL.row (ints_get spl (i := j) (by rw [addC_len]; omega)) ?_
    rw [gf_addC_at hjl]
    repeat (refine go rfl ?_)
    rw [show IntKind.i64.wrap (gf c j + d) = gf c j + d from IntWalk.i64_in _ ⟨by omega, by omega⟩]
    refine SXR.index j rfl (by omega) (by omega) (by omega) ?_
    repeat (refine go rfl ?_)
    refine SXS.row rfl (by rw [List.length_append, List.length_map, addC_len]; omega) ?_
    rw [ints_set spl (by rw [addC_len]; omega), addC_step hj1 hjl]
    repeat (refine go rfl ?_)
    have hlast := gf_addC_last (C := c) (lo := lo) (d := d) hj1 hjl
    refine SXG.split rfl (fun hz => ?_) (fun hz => ?_)
    · repeat (refine go rfl ?_)
      refine SXR.index j rfl (by omega) (by omega) (by omega) ?_
      repeat (refine go rfl ?_)
      refine SXL.row (ints_get spl (i := j) (by rw [addC_len]; omega)) ?_
      rw [show (((j : Nat) : Int) + 1) = ((j + 1 : Nat) : Int) by omega] at hlast hst ⊢
      rw [hlast]
      repeat (refine go rfl ?_)
      refine SXB.split (fun hy => ?_) (fun hy => ?_)
      · rw [if_pos (by omega)] at hst
        repeat (first | refine go rfl ?_ | intro bx)
        refine SXR.append (n := (goneC c lo j d).length) (m := 1) (sz := 1) (e := 3) (ys := [intC j]) rfl (pk (vec g (goneC c lo j d).length 1 3 ((goneC c lo j d).map intC))) rfl (fun w hw => RdS.of_pts (b := bx) (off := 0) (vs := [intC j]) (T := 3) (fr := (0, 0)) (Nat.le_refl 1) rfl hw) rfl (by simp [Value.oneCell']) (by omega) (by omega) fun v'' => ?_
        rw [show (goneC c lo j d).map intC ++ [intC j] = (goneC c lo ((j + 1 : Nat) : Int) d).map intC by rw [hst, List.map_append]; rfl, show (goneC c lo j d).length + 1 = (goneC c lo ((j + 1 : Nat) : Int) d).length by rw [hst]; simp]
        repeat (refine go rfl ?_)
        refine Fin.shutB _ bl (vec_shut (n := c.length) (sz := 1) (T := 3) (by simp [addC_len]) hcapl hspl) ?_
        exact fin_round (j + 1, v'') ⟨by show lo ≤ ((j + 1 : Nat) : Int); omega, by show ((j + 1 : Nat) : Int) ≤ hi; omega⟩ (by show (hi - ((j + 1 : Nat) : Int)).toNat < (hi - (j : Int)).toNat; omega) ⟨rfl, rfl, rfl, rfl, rfl, by rw [wrap_succ (by omega)], trivial⟩
      · rw [if_neg (by omega), List.append_nil] at hst
        rw [← hst]
        repeat (refine go rfl ?_)
        refine Fin.shutB _ bl (vec_shut (n := c.length) (sz := 1) (T := 3) (by simp [addC_len]) hcapl hspl) ?_
        exact fin_round (j + 1, g) ⟨by show lo ≤ ((j + 1 : Nat) : Int); omega, by show ((j + 1 : Nat) : Int) ≤ hi; omega⟩ (by show (hi - ((j + 1 : Nat) : Int)).toNat < (hi - (j : Int)).toNat; omega) ⟨rfl, rfl, rfl, rfl, rfl, by rw [wrap_succ (by omega)], trivial⟩
    · rw [if_neg (by omega), List.append_nil] at hst
      rw [show (((j : Nat) : Int) + 1) = ((j + 1 : Nat) : Int) by omega] at hst ⊢
      rw [← hst]
      repeat (refine go rfl ?_)
      refine Fin.shutB _ bl (vec_shut (n := c.length) (sz := 1) (T := 3) (by simp [addC_len]) hcapl hspl) ?_
      exact fin_round (j + 1, g) ⟨by show lo ≤ ((j + 1 : Nat) : Int); omega, by show ((j + 1 : Nat) : Int) ≤ hi; omega⟩ (by show (hi - ((j + 1 : Nat) : Int)).toNat < (hi - (j : Int)).toNat; omega) ⟨rfl, rfl, rfl, rfl, rfl, by rw [wrap_succ (by omega)], trivial⟩
  · have hje : (j : Int) = hi := by omega
    rw [hje]
    repeat (refine go rfl ?_)
    refine Fin.shut (cs := [pts b (.cells [.slice a1 c.length c1].toArray 95 (0, 0)), vec (.slice a1 c.length c1) c.length 1 3 ((addC c lo hi d).map intC)]) _ (fun m hm => rcB_shut b (addC c lo hi d) (.slice a1 c.length c1) ⟨by rw [addC_len]; exact hb.1, fun x hx => ?_⟩ m (by rw [addC_len]; exact hm)) ?_
    · obtain ⟨k, hk, rfl⟩ := List.mem_iff_getElem.1 hx
      rw [addC_len] at hk
      rw [← gf_get (by rw [addC_len]; exact hk), gf_addC (by omega) (by omega)]
      have h5 := hb.2 (gf c k) (gf_in (by omega) (by omega))
      unfold addF
      split
      · rename_i hcc
        have := hnb k hcc.1 hcc.2
        omega
      · exact h5
    · exact fin_ret (.tmp rfl (.tmp rfl .nil)) (.inr ⟨hgood, g, rfl, rfl⟩)
end Go.Proofs.Ytlgphhknfocfaaa
