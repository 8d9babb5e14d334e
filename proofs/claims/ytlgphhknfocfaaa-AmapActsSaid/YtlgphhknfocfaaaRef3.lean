import Derived.Test.YtlgphhknfocfaaaRef2
namespace Go.Proofs.Ytlgphhknfocfaaa.Ref
open Go.Sl

theorem pool_at {bp : Nat} {p : Pl} {bs : List (Option Nat)} {id : Int} {a : Am} (h : p.get id = some a) : ∀ m, poolB bp p bs m → (∃ b, At bs id b) ∧ a.ok := fun m hm => by
  obtain ⟨b, hb, hm2⟩ := pool_open bp p bs id a h m hm
  exact ⟨⟨b, hb⟩, big_fact (A := oneH b a) (p := a.ok) (fun _ ⟨_, h, _⟩ => h) hm2⟩
theorem new_spec (most : Int) : Tri Try.prog 16 [.int .i64 most] [] (fun u l => ((most < 0 ∨ 4096 < most) ∧ u = .pointer none ∧ l = []) ∨ (¬ (most < 0 ∨ 4096 < most) ∧ ∃ bp, u = .pointer (some ⟨bp, 0, none⟩) ∧ l = [poolB bp ⟨most, []⟩ []])) := by
  refine tri_intro Try.func16 rfl Try.results16 Try.ntmps16 rfl (by kernel_rfl) fun R => ?_
  repeat (refine go rfl ?_)
  refine SXG.split rfl (fun h1 => ?_) (fun h1 => ?_)
  · repeat (refine go rfl ?_)
    exact fin_ret (.tmp rfl .nil) (.inl ⟨.inl h1, rfl, rfl⟩)
  repeat (refine go rfl ?_)
  refine SXB.split (fun h2 => ?_) (fun h2 => ?_)
  · repeat (refine go rfl ?_)
    exact fin_ret (.tmp rfl .nil) (.inl ⟨.inr h2, rfl, rfl⟩)
  repeat (first | refine go rfl ?_ | intro _)
  rename_i bp
  refine Fin.shutB (poolB bp ⟨most, []⟩ []) bp (fun m hm => ⟨.slice none 0 0, ⟨rfl, by show (0 : Int) ≤ most; omega, by show most ≤ 4096; omega⟩, ?_⟩) ?_
  · have h2 : big [big (List.zipWith oneO [] ([] : List (Option Am)))] m := big_pack (L1 := []) (L2 := []) trivial
    have h3 := big_add (A := vec (.slice none 0 0) 0 1 54 []) vec_nil m h2
    exact ⟨m, fun _ => none, .refl _, (fun _ _ h => by cases h), (fun _ => .inr rfl), hm, big_add (A := vec (.slice none 0 0) 0 1 54 []) vec_nil _ (big_pack (L1 := []) (L2 := []) trivial)⟩
  exact fin_ret (.tmp rfl .nil) (.inr ⟨by omega, bp, rfl, rfl⟩)
theorem set_spec (bp : Nat) (p : Pl) (bs : List (Option Nat)) (id s x : Int) : Tri Try.prog 18 [.pointer (some ⟨bp, 0, none⟩), .int .i64 id, .int .i64 s, .int .i64 x] [poolB bp p bs]
    (fun u l => u = .tuple #[.int .i64 (p.set id s x).1, .int .i64 (p.set id s x).2.1] ∧ l = [poolB bp (p.set id s x).2.2 bs]) := by
  refine tri_intro Try.func18 rfl Try.results18 Try.ntmps18 rfl (by kernel_rfl) fun R => ?_
  repeat (refine go rfl ?_)
  refine SXR.callF (of_spec bp p bs id) rfl ?_
  cases h : p.get id with
  | none =>
    refine SXR.facts (pool_none h) (fun hp => ?_)
    have hs : p.set id s x = (0, 7, p) := by simp [Pl.set, h]
    rw [hp, hs]
    repeat (refine go rfl ?_)
    exact fin_ret (.tmp rfl (.tmp rfl .nil)) ⟨rfl, rfl⟩
  | some a =>
    refine SXR.facts (pool_at h) ?_
    rintro ⟨⟨b, hb⟩, _⟩
    rw [hb.2]
    repeat (refine go rfl ?_)
    refine SXR.callF (cover_spec bp p bs id s) rfl ?_
    repeat (refine go rfl ?_)
    refine SXG.split rfl (fun h1 => ?_) (fun h1 => ?_)
    · have hs : p.set id s x = (0, 2, p) := by simp [Pl.set, h, h1]
      rw [hs]
      repeat (refine go rfl ?_)
      exact fin_ret (.tmp rfl (.tmp rfl .nil)) ⟨rfl, rfl⟩
    · repeat (refine go rfl ?_)
      refine SXB.split (fun h2 => ?_) (fun h2 => ?_)
      · have hs : p.set id s x = (0, 2, p) := by simp [Pl.set, h, h2]
        rw [hs]
        repeat (refine go rfl ?_)
        exact fin_ret (.tmp rfl (.tmp rfl .nil)) ⟨rfl, rfl⟩
      · have hs : p.set id s x = (gf a.a s, 0, p.upd id ⟨a.c, a.a.set s.toNat x⟩) := by
          simp only [Pl.set, h]; exact if_neg (by rintro (hh | hh); exact h1 hh; exact h2 hh)
        rw [hs]
        have hr : 0 ≤ s ∧ s < a.c.length := by
          apply Classical.byContradiction
          intro hn
          exact h1 (by simp only [Pl.cover, h]; rw [if_neg hn]; rfl)
        repeat (refine go rfl ?_)
        refine SXR.callF (get_spec bp p bs id s) rfl ?_
        repeat (refine go rfl ?_)
        refine SXR.callF (of_spec bp p bs id) rfl ?_
        rw [hb.2]
        refine SXR.open (poolB bp p bs) (pool_open bp p bs id a h) ?_
        intro b2 hb2
        obtain rfl : b2 = b := by have := hb2.1; rw [hb.1] at this; cases this; rfl
        refine SXR.open (oneH b2 a) (oneH_open b2 a) ?_
        rintro ⟨bc, v⟩ hok
        dsimp only
        have hal := hok.1
        have hal2 := hok.2.2.1
        have hat : p.at id s = gf a.a s := by simp only [Pl.at, h]; rw [if_pos (by omega)]
        rw [hat]
        refine SXR.vec (v := v) (n := a.a.length) (sz := 1) (T := 3) (cs := a.a.map intC) (fun _ h _ => absurd h (by omega)) ?_
        rintro bv cap sp rfl hcap hsp hl
        repeat (refine go rfl ?_)
        refine SXR.index s.toNat rfl (by omega) (by omega) (by omega) ?_
        repeat (refine go rfl ?_)
        refine SXS.row rfl (by rw [List.length_append, List.length_map]; omega) ?_
        rw [ints_set sp (by omega)]
        repeat (refine go rfl ?_)
        refine Fin.shutB _ bv (vec_shut (n := a.a.length) (sz := 1) (T := 3) (by simp) hcap hsp) ?_
        rw [show a.a.length = (a.a.set s.toNat x).length by simp]
        refine Fin.shut (cs := [pts b2 (.cells [.pointer (some ⟨bc, 0, none⟩), .slice (some ⟨bv, 0, none⟩) (a.a.set s.toNat x).length cap].toArray 58 (0, 0)), rcB bc a.c, vec (.slice (some ⟨bv, 0, none⟩) (a.a.set s.toNat x).length cap) (a.a.set s.toNat x).length 1 3 ((a.a.set s.toNat x).map intC)]) _ (oneH_shut b2 ⟨a.c, a.a.set s.toNat x⟩ bc (.slice (some ⟨bv, 0, none⟩) (a.a.set s.toNat x).length cap) ⟨by simp [hal], hok.2.1, hok.2.2.1, fun y hy => ?_⟩) ?_
        · rcases List.mem_or_eq_of_mem_set hy with hy | hy
          · exact hok.2.2.2 y hy
          · omega
        refine Fin.shut _ (pool_close bp p bs id b2 a ⟨a.c, a.a.set s.toNat x⟩ h hb2) ?_
        exact fin_ret (.tmp rfl (.tmp rfl .nil)) ⟨rfl, rfl⟩
set_option maxRecDepth 4000 in
set_option maxHeartbeats 1000000 in
theorem hold_spec (bp : Nat) (p : Pl) (bs : List (Option Nat)) (id lo hi : Int) : Tri Try.prog 19 [.pointer (some ⟨bp, 0, none⟩), .int .i64 id, .int .i64 lo, .int .i64 hi] [poolB bp p bs]
    (fun u l => u = .int .i64 (p.hold id lo hi).1 ∧ l = [poolB bp (p.hold id lo hi).2 bs]) := by
  refine tri_intro Try.func19 rfl Try.results19 Try.ntmps19 rfl (by kernel_rfl) fun R => ?_
  repeat (refine go rfl ?_)
  refine SXR.callF (of_spec bp p bs id) rfl ?_
  cases h : p.get id with
  | none =>
    refine SXR.facts (pool_none h) (fun hp => ?_)
    have hs : p.hold id lo hi = (7, p) := by simp [Pl.hold, h]
    rw [hp, hs]
    repeat (refine go rfl ?_)
    exact fin_ret (.tmp rfl .nil) ⟨rfl, rfl⟩
  | some a =>
    refine SXR.open (poolB bp p bs) (pool_open bp p bs id a h) ?_
    intro b hb
    rw [hb.2]
    refine SXR.open (oneH b a) (oneH_open b a) ?_
    rintro ⟨bc, v⟩ hok
    dsimp only
    have hal := hok.1
    have hal2 := hok.2.2.1
    have hbad2 : a.within lo hi = false → p.hold id lo hi = (2, p) := fun hw => by simp [Pl.hold, h, hw]
    repeat (refine go rfl ?_)
    refine SXG.split rfl (fun h1 => ?_) (fun h1 => ?_)
    · rw [hbad2 (decide_eq_false (by omega))]
      repeat (refine go rfl ?_)
      refine Fin.shut _ (oneH_shut b a bc v hok) ?_
      refine Fin.shut _ (pool_same bp p bs id b a h hb) ?_
      exact fin_ret (.tmp rfl .nil) ⟨rfl, rfl⟩
    repeat (refine go rfl ?_)
    refine SXG.split rfl (fun h2 => ?_) (fun h2 => ?_)
    · rw [hbad2 (decide_eq_false (by omega))]
      repeat (refine go rfl ?_)
      refine Fin.shut _ (oneH_shut b a bc v hok) ?_
      refine Fin.shut _ (pool_same bp p bs id b a h hb) ?_
      exact fin_ret (.tmp rfl .nil) ⟨rfl, rfl⟩
    repeat (refine go rfl ?_)
    refine SXR.lenRd (n := a.a.length) (cs := a.a.map intC) rfl (fun w hw => RdS.of_vec (sz := 1) (T := 3) hw) ?_
    repeat (refine go rfl ?_)
    refine SXB.split (fun h3 => ?_) (fun h3 => ?_)
    · rw [hbad2 (decide_eq_false (by omega))]
      repeat (refine go rfl ?_)
      refine Fin.shut _ (oneH_shut b a bc v hok) ?_
      refine Fin.shut _ (pool_same bp p bs id b a h hb) ?_
      exact fin_ret (.tmp rfl .nil) ⟨rfl, rfl⟩
    have hw : a.within lo hi = true := decide_eq_true (by omega)
    clear hbad2
    repeat (refine go rfl ?_)
    refine SXC.loop (fun i : Nat => lo ≤ i ∧ (i : Int) ≤ hi ∧ ∀ k, lo ≤ k → k < i → gf a.c k ≠ 0) (fun i => [(9, .pointer (some ⟨b, 0, none⟩)), (2, .int .i64 lo), (3, .int .i64 hi), (10, .int .i64 i)])
      (fun i => [rcB bc a.c, pts b (.cells [.pointer (some ⟨bc, 0, none⟩), v].toArray 58 (0, 0))]) (fun i => (hi - i).toNat) lo.toNat ⟨by omega, by omega, fun k h1 h2 => by omega⟩ ⟨rfl, rfl, rfl, by rw [show ((lo.toNat : Nat) : Int) = lo by omega], trivial⟩ ?_
    rintro i ⟨hi1, hi2, hno⟩
    repeat (refine go rfl ?_)
    refine SXB.split (fun hlt => ?_) (fun hge => ?_)
    · repeat (refine go rfl ?_)
      refine SXR.callF (rcAt_spec bc a.c i) rfl ?_
      rw [if_pos (by omega)]
      repeat (refine go rfl ?_)
      refine SXB.split (fun hz => ?_) (fun hz => ?_)
      · have hs : p.hold id lo hi = (2, p) := by
          simp only [Pl.hold, h]; rw [if_neg (by simp [hw]), if_pos ⟨(i : Int), by omega, by omega, hz⟩]
        rw [hs]
        repeat (refine go rfl ?_)
        refine Fin.shut _ (oneH_shut b a bc v hok) ?_
        refine Fin.shut _ (pool_same bp p bs id b a h hb) ?_
        exact fin_ret (.tmp rfl .nil) ⟨rfl, rfl⟩
      · repeat (refine go rfl ?_)
        refine fin_round (i + 1) ⟨by omega, by omega, fun k h1 h2 => ?_⟩ (by omega) ⟨rfl, rfl, rfl, by rw [wrap_succ (by omega)], trivial⟩
        by_cases hk : k < i
        · exact hno k h1 hk
        · rw [show k = i by omega]; exact hz
    · have hnz : ¬ zeroIn a.c lo hi := fun ⟨k, h1, h2, h3⟩ => hno k h1 (by omega) h3
      repeat (refine go rfl ?_)
      refine SXR.call (rcAdd_spec bc a.c lo hi 1 (by omega) (by decide)) rfl ?_
      rintro u L' (⟨hbad, rfl, rfl⟩ | ⟨hbad, v', rfl, rfl⟩)
      · have hs : p.hold id lo hi = (2, p) := by
          simp only [Pl.hold, h]; rw [if_neg (by simp [hw]), if_neg hnz, if_pos hbad]
        rw [hs]
        dsimp only [List.cons_append, List.nil_append]
        repeat (refine go rfl ?_)
        refine Fin.shut _ (oneH_shut b a bc v hok) ?_
        refine Fin.shut _ (pool_same bp p bs id b a h hb) ?_
        exact fin_ret (.tmp rfl .nil) ⟨rfl, rfl⟩
      · have hs : p.hold id lo hi = (0, p.upd id ⟨addC a.c lo hi 1, a.a⟩) := by
          simp only [Pl.hold, h]; rw [if_neg (by simp [hw]), if_neg hnz, if_neg hbad]
        rw [hs]
        dsimp only [List.cons_append, List.nil_append]
        repeat (refine go rfl ?_)
        refine Fin.shut _ (oneH_shut b ⟨addC a.c lo hi 1, a.a⟩ bc v ⟨by rw [addC_len]; exact hal, by rw [addC_len]; exact hok.2.1, by rw [addC_len]; exact hok.2.2.1, hok.2.2.2⟩) ?_
        refine Fin.shut _ (pool_close bp p bs id b a ⟨addC a.c lo hi 1, a.a⟩ h hb) ?_
        exact fin_ret (.tmp rfl .nil) ⟨rfl, rfl⟩
set_option maxRecDepth 4000 in
set_option maxHeartbeats 4000000 in
theorem make_spec (bp : Nat) (p : Pl) (bs : List (Option Nat)) (n : Int) : Tri Try.prog 17 [.pointer (some ⟨bp, 0, none⟩), .int .i64 n] [poolB bp p bs]
    (fun u l => ∃ bs', u = .tuple #[.int .i64 (p.make n).1, .int .i64 (p.make n).2.1] ∧ l = [poolB bp (p.make n).2.2 bs'] ∧ ∀ id b, At bs id b → At bs' id b) := by
  refine tri_intro Try.func17 rfl Try.results17 Try.ntmps17 rfl (by kernel_rfl) fun R => ?_
  repeat (refine go rfl ?_)
  refine SXG.split rfl (fun h1 => ?_) (fun h1 => ?_)
  · have hs : p.make n = (0, 2, p) := if_pos (.inl h1)
    rw [hs]
    repeat (refine go rfl ?_)
    exact fin_ret (.tmp rfl (.tmp rfl .nil)) ⟨bs, rfl, rfl, fun _ _ h => h⟩
  repeat (refine go rfl ?_)
  refine SXB.split (fun h2 => ?_) (fun h2 => ?_)
  · have hs : p.make n = (0, 2, p) := if_pos (.inr h2)
    rw [hs]
    repeat (refine go rfl ?_)
    exact fin_ret (.tmp rfl (.tmp rfl .nil)) ⟨bs, rfl, rfl, fun _ _ h => h⟩
  refine SXC.open (poolB bp p bs) (pool_is bp p bs) ?_
  rintro _ ⟨⟨hbl, hpo⟩, hsh, a0, c0, rfl⟩
  have hpl : p.l.length ≤ 4096 := by have := hpo.1; have := hpo.2; omega
  have hkn0 : ((idsU (bs.map Option.isNone) bs.length).length : Int) = p.kn := by
    rw [hsh, hbl, idsU_kn]; rfl
  have hidl := idsU_len (bs.map Option.isNone) bs.length
  repeat (refine go rfl ?_)
  refine SXC.draw [rawP bp p.most (.slice a0 bs.length c0), vec (.slice a0 bs.length c0) bs.length 1 54 (bs.map pv)] (by kernel_rfl) ?_
  refine SXE.quiet 0 rfl rfl rfl (fun X => by (repeat (refine go rfl ?_)); exact fin_qs rfl) ?_
  refine SXE.quiet 3 rfl rfl rfl (fun X => by (repeat (refine go rfl ?_)); exact fin_qs rfl) ?_
  refine SXE.quiet 4 rfl rfl rfl (fun X => by (repeat (refine go rfl ?_)); exact fin_qs rfl) ?_
  refine SXE.quiet 5 rfl rfl rfl (fun X => by (repeat (refine go rfl ?_)); exact fin_qs rfl) ?_
  refine SXE.quiet 6 rfl rfl rfl (fun X => by (repeat (refine go rfl ?_)); exact fin_qs rfl) ?_
  refine SXE.one 1 rfl rfl rfl ?_
  repeat (refine go rfl ?_)
  refine SXR.call (idsL_spec bp p.most (.slice a0 bs.length c0) bs (by omega)) rfl ?_
  rintro u L' rfl
  dsimp only [List.cons_append, List.nil_append]
  refine SXR.facts vec_is ?_
  rintro ⟨a1, c1, rfl⟩
  repeat (refine go rfl ?_)
  refine fin_qeP rfl ?_
  refine SXE.phase 2 rfl rfl rfl (by (repeat (refine go rfl ?_)); exact fin_qs rfl) ?_
  refine SXE.phase 7 rfl rfl rfl (by (repeat (refine go rfl ?_)); exact fin_qs rfl) ?_
  refine SXE.done rfl ?_
  rw [hkn0]
  repeat (refine go rfl ?_)
  refine SXB.split (fun h3 => ?_) (fun h3 => ?_)
  · have hs : p.make n = (0, 5, p) := by
      unfold Pl.make; rw [if_neg (by omega), if_pos (by omega)]
    rw [hs]
    repeat (refine go rfl ?_)
    refine Fin.shut _ (poolB_shut bp p bs (.slice a0 bs.length c0) ⟨hbl, hpo⟩) ?_
    exact fin_ret (.tmp rfl (.tmp rfl .nil)) ⟨bs, rfl, rfl, fun _ _ h => h⟩
  repeat (refine go rfl ?_)
  refine SXC.draw [] (by kernel_rfl) ?_
  refine SXE.quiet 0 rfl rfl rfl (fun X => by (repeat (refine go rfl ?_)); exact fin_qs rfl) ?_
  refine SXE.quiet 2 rfl rfl rfl (fun X => by (repeat (refine go rfl ?_)); exact fin_qs rfl) ?_
  refine SXE.two 1 3 rfl rfl rfl rfl rfl ?_ ?_
  all_goals
    first
    | repeat (refine go rfl ?_)
      refine SXR.call (rcNew_spec n (by omega) (by omega)) rfl ?_
      rintro u L' ⟨bc, rfl, rfl⟩
      dsimp only [List.cons_append, List.nil_append]
      repeat (refine go rfl ?_)
      refine fin_qeP rfl ?_
      refine SXE.one 3 rfl rfl rfl ?_
      repeat (refine go rfl ?_)
      refine SXR.make (n := n) (cap := n) rfl rfl (by decide) (by omega) (Int.le_refl _) (by omega) (by omega) fun bv => ?_
      repeat (refine go rfl ?_)
      refine fin_qeP rfl ?_
    | repeat (refine go rfl ?_)
      refine SXR.make (n := n) (cap := n) rfl rfl (by decide) (by omega) (Int.le_refl _) (by omega) (by omega) fun bv => ?_
      repeat (refine go rfl ?_)
      refine fin_qeP rfl ?_
      refine SXE.one 1 rfl rfl rfl ?_
      repeat (refine go rfl ?_)
      refine SXR.call (rcNew_spec n (by omega) (by omega)) rfl ?_
      rintro u L' ⟨bc, rfl, rfl⟩
      dsimp only [List.cons_append, List.nil_append]
      repeat (refine go rfl ?_)
      refine fin_qeP rfl ?_
    refine SXE.quiet 4 rfl rfl rfl (fun X => by (repeat (refine go rfl ?_)); exact fin_qs rfl) ?_
    refine SXE.one 5 rfl rfl rfl ?_
    repeat (first | refine go rfl ?_ | intro _)
    rename_i b
    refine fin_qeP rfl ?_
    refine SXE.quiet 6 rfl rfl rfl (fun X => by (repeat (refine go rfl ?_)); exact fin_qs rfl) ?_
    refine SXE.done rfl ?_
    rw [zerosL_one]
    repeat (refine go rfl ?_)
    refine SXR.call (rcAdd_spec bc (List.replicate n.toNat 0) 0 n 1 (by rw [List.length_replicate]; omega) (by decide)) rfl ?_
    rintro u L' (⟨hbad, _, _⟩ | ⟨_, v', rfl, rfl⟩)
    · exact absurd hbad (fresh_bad n (by omega))
    rw [addC_fresh n (by omega)]
    dsimp only [List.cons_append, List.nil_append]
    repeat (refine go rfl ?_)
    refine SXC.shutB _ bv (vec_lit (n := n.toNat) (sz := 1) (T := 3) (by simp)) ?_
    rw [show List.replicate n.toNat (Value.int .i64 0) = (List.replicate n.toNat (0 : Int)).map intC by simp]
    refine SXC.shut (cs := [pts b (.cells [.pointer (some ⟨bc, 0, none⟩), .slice (some ⟨bv, 0, none⟩) n.toNat n.toNat].toArray 58 (0, 0)), rcB bc (List.replicate n.toNat 1), vec (.slice (some ⟨bv, 0, none⟩) n.toNat n.toNat) n.toNat 1 3 ((List.replicate n.toNat (0 : Int)).map intC)]) _ (fun m hm => oneH_shut b (fresh n) bc (.slice (some ⟨bv, 0, none⟩) n.toNat n.toNat) (fresh_ok n (by omega) (by omega)) m (by rw [show (fresh n).a.length = n.toNat by simp [fresh]]; exact hm)) ?_
    refine SXC.loop (fun i : Nat => i ≤ bs.length ∧ ∀ j : Nat, j < i → ∀ r : Option Nat, bs[j]? = some r → r.isNone = false) (fun i => [(0, .pointer (some ⟨bp, 0, none⟩)), (6, .pointer (some ⟨b, 0, none⟩)), (38, .slice a0 bs.length c0), (39, .int .i64 bs.length), (40, .int .i64 i)])
      (fun i => [vec (.slice a0 bs.length c0) bs.length 1 54 (bs.map pv)]) (fun i => bs.length - i) 0 ⟨Nat.zero_le _, fun j h => absurd h (Nat.not_lt_zero _)⟩ ⟨rfl, rfl, rfl, rfl, rfl, trivial⟩ ?_
    rintro i ⟨hi', hno⟩
    repeat (refine go rfl ?_)
    refine SXB.split (fun hlt => ?_) (fun hge => ?_)
    · have hil : i < bs.length := by omega
      obtain ⟨r, hr⟩ : ∃ r, bs[i]? = some r := ⟨bs[i], List.getElem?_eq_getElem hil⟩
      refine SXC.vec (v := .slice a0 bs.length c0) (n := bs.length) (sz := 1) (T := 54) (cs := bs.map pv) (fun _ h _ => absurd h (by omega)) ?_
      rintro bq capq spq he hcapq hspq hlq
      cases he
      repeat (refine go rfl ?_)
      refine SXR.index i rfl (by omega) (by omega) (by omega) ?_
      repeat (refine go rfl ?_)
      refine SXL.row (v := pv r) (by rw [List.getElem?_append_left (by simp; omega), List.getElem?_map, hr]; rfl) ?_
      cases r with
      | none =>
        have hk : bs.findIdx? Option.isNone = some i := by
          rw [List.findIdx?_eq_some_iff_getElem]
          refine ⟨hil, ?_, fun j hj => ?_⟩
          · have := (List.getElem?_eq_some_iff.1 hr).2; rw [this]; rfl
          · rw [hno j hj _ (List.getElem?_eq_getElem (by omega))]; decide
        have hsi := shape_idx hsh
        have hs : p.make n = ((i : Int) + 1, 0, ⟨p.most, p.l.set i (some (fresh n))⟩) := by
          unfold Pl.make; rw [if_neg (by omega), if_neg (by omega), ← hsi, hk]
        rw [hs]
        have hpk : p.l[i]? = some none := by
          obtain ⟨g1, g2, _⟩ := List.findIdx?_eq_some_iff_getElem.1 (hsi ▸ hk)
          rw [List.getElem?_eq_getElem g1, Option.isNone_iff_eq_none.1 g2]
        repeat (refine go rfl ?_)
        refine SXR.index i rfl (by omega) (by omega) (by omega) ?_
        repeat (refine go rfl ?_)
        refine SXS.row rfl (by rw [List.length_append, List.length_map]; omega) ?_
        rw [show (bs.map pv ++ spq).set i (.pointer (some ⟨b, 0, none⟩)) = (bs.set i (some b)).map pv ++ spq from bs_set (some b) spq hil]
        repeat (refine go rfl ?_)
        rw [show IntKind.i64.wrap ((i : Int) + 1) = (i : Int) + 1 from IntWalk.i64_in _ ⟨by omega, by omega⟩]
        refine Fin.shutB _ bq (vec_shut (n := bs.length) (cap := c0) (sz := 1) (T := 54) (by simp) hcapq hspq) ?_
        refine Fin.shut _ (pool_fill bp p bs i b (fresh n) (.slice (some ⟨bq, 0, none⟩) bs.length c0) hpk hr hbl hpo) ?_
        exact fin_ret (.tmp rfl (.tmp rfl .nil)) ⟨bs.set i (some b), rfl, rfl, fun _ _ h => h.set hr⟩
      | some q =>
        repeat (refine go rfl ?_)
        refine Fin.shutB _ bq (vec_shut (T := 54) hlq hcapq hspq) ?_
        refine fin_round (i + 1) ⟨by omega, fun j hj r' hr' => ?_⟩ (by omega) ⟨rfl, rfl, rfl, rfl, by rw [wrap_succ (by omega)], trivial⟩
        by_cases e : j = i
        · subst e; rw [hr] at hr'; cases hr'; rfl
        · exact hno j (by omega) r' hr'
    · have hil : i = bs.length := by omega
      subst hil
      have hk : bs.findIdx? Option.isNone = none := by
        rw [List.findIdx?_eq_none_iff]
        intro x hx
        obtain ⟨j, hj⟩ := List.getElem?_of_mem hx
        exact hno j (List.getElem?_eq_some_iff.1 hj).1 x hj
      have hsi := shape_idx hsh
      have hs : p.make n = ((p.l.length : Int) + 1, 0, ⟨p.most, p.l ++ [some (fresh n)]⟩) := by
        unfold Pl.make; rw [if_neg (by omega), if_neg (by omega), ← hsi, hk]
      rw [hs]
      have hfull : p.kn = p.l.length := by
        rw [hsi] at hk
        rw [List.findIdx?_eq_none_iff] at hk
        simp only [Pl.kn]
        rw [knL_full fun x hx e => by have := hk x hx; rw [e] at this; cases this]
      repeat (first | refine go rfl ?_ | intro bx)
      refine SXR.append (n := bs.length) (m := 1) (sz := 1) (e := 54) (ys := [pv (some b)]) rfl (pk (vec (.slice a0 bs.length c0) bs.length 1 54 (bs.map pv))) rfl (fun w hw => RdS.of_pts (b := bx) (off := 0) (vs := [pv (some b)]) (T := 54) (fr := (0, 0)) (Nat.le_refl 1) rfl hw) rfl (by simp [Value.oneCell']) (by omega) (by omega) fun v' => ?_
      refine SXR.facts vec_is ?_
      rintro ⟨a', c', rfl⟩
      repeat (refine go rfl ?_)
      refine Fin.shut _ (pool_push bp p bs b (fresh n) (.slice a' (bs.length + 1) c') hbl hpo (by omega)) ?_
      refine fin_ret (.tmp rfl (.tmp rfl .nil)) ⟨bs ++ [some b], ?_, rfl, fun _ _ h => h.push⟩
      rw [hbl]; rfl
end Go.Proofs.Ytlgphhknfocfaaa.Ref
