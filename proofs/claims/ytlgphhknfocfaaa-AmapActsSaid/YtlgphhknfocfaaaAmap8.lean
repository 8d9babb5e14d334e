import Derived.Test.YtlgphhknfocfaaaAmap7
namespace Go.Proofs.Ytlgphhknfocfaaa
open Go.Sl

def fresh (n : Int) : Am := ⟨List.replicate n.toNat 1, List.replicate n.toNat 0⟩
def Pl.make (p : Pl) (n : Int) : Int × Int × Pl := if n < 1 ∨ 4096 < n then (0, 2, p) else if p.most ≤ p.kn then (0, 5, p) else match p.l.findIdx? Option.isNone with
  | some k => ((k : Int) + 1, 0, ⟨p.most, p.l.set k (some (fresh n))⟩)
  | none => ((p.l.length : Int) + 1, 0, ⟨p.most, p.l ++ [some (fresh n)]⟩)
theorem zip_shape : ∀ {bs : List (Option Nat)} {l : List (Option Am)} {m : PH}, bs.length = l.length → big (List.zipWith oneO bs l) m → bs.map Option.isNone = l.map Option.isNone
  | [], [], _, _, _ => rfl
  | [], x :: l, _, h, _ => by cases h
  | b :: bs, [], _, h, _ => by cases h
  | b :: bs, x :: l, m, h, hm => by
    have ih := zip_shape (by simpa using h) (big_tail hm)
    have h0 : b.isNone = x.isNone := big_fact (A := oneO b x) (fun m hh => by cases b <;> cases x <;> first | rfl | exact hh.elim) hm
    rw [List.map_cons, List.map_cons, ih, h0]
theorem shape_idx {bs : List (Option Nat)} {l : List (Option Am)} (h : bs.map Option.isNone = l.map Option.isNone) : bs.findIdx? Option.isNone = l.findIdx? Option.isNone := by
  have h1 := List.findIdx?_map (p := fun x : Bool => x) (f := Option.isNone) (l := bs)
  have h2 := List.findIdx?_map (p := fun x : Bool => x) (f := Option.isNone) (l := l)
  rw [h] at h1
  rw [h1] at h2
  exact h2
theorem zip_append {bs : List (Option Nat)} {l : List (Option Am)} {o : Option Nat} {x : Option Am} (h : bs.length = l.length) : List.zipWith oneO (bs ++ [o]) (l ++ [x]) = List.zipWith oneO bs l ++ [oneO o x] := by
  rw [List.zipWith_append h]; rfl
theorem addC_fresh (n : Int) (h0 : 1 ≤ n) : addC (List.replicate n.toNat 0) 0 n 1 = List.replicate n.toNat 1 := by
  apply List.ext_getElem
  · simp [addC]
  · intro i h1 h2
    simp only [addC, List.getElem_mapIdx, List.getElem_replicate]
    rw [addC_len, List.length_replicate] at h1
    rw [if_pos (by omega)]; rfl
theorem fresh_ok (n : Int) (h0 : 1 ≤ n) (h1 : n ≤ 4096) : (fresh n).ok := by
  refine ⟨by simp [fresh], by simp [fresh]; omega, by simp [fresh]; omega, fun x hx => ?_⟩
  rw [List.eq_of_mem_replicate hx]; omega
theorem fresh_bad (n : Int) (h0 : 1 ≤ n) : ¬ badC (List.replicate n.toNat 0) 0 n 1 := by
  rintro (h | h | h | ⟨i, h1, h2, h⟩)
  · omega
  · rw [List.length_replicate] at h; omega
  · omega
  · have : gf (List.replicate n.toNat 0) i = 0 := by
      unfold gf; rw [List.getD_eq_getElem?_getD, List.getElem?_replicate]; split <;> rfl
    rw [this] at h; omega
theorem pool_fill (bp : Nat) (p : Pl) (bs : List (Option Nat)) (k b : Nat) (a : Am) (v : Value) (h : p.l[k]? = some none) (hb : bs[k]? = some none) (hl : bs.length = p.l.length) (hp : p.ok) : ∀ m, big [pts bp (.cells [.int .i64 p.most, .bool true, v, .int .i64 (p.kn + 1)].toArray 63 (0, 0)), vec v bs.length 1 64 ((bs.set k (some b)).map pv), oneH b a, big (List.zipWith oneO bs p.l)] m →
    poolB bp ⟨p.most, p.l.set k (some a)⟩ (bs.set k (some b)) m := fun m hm => by
  refine ⟨v, ⟨by simp [hl], by simpa [Pl.ok] using hp⟩, ?_⟩
  have hk : Pl.kn ⟨p.most, p.l.set k (some a)⟩ = p.kn + 1 := by
    have := knL_fill (x := a) h
    simp only [Pl.kn]; omega
  rw [hk, List.length_set, zip_set]
  have hi := (List.getElem?_eq_some_iff.1 hb).1
  refine big_map (fun m h' => big_map (fun m hh => ?_) m h') m hm
  have h3 : big [oneO (some b) (some a), big ((List.zipWith oneO bs p.l).take k ++ (List.zipWith oneO bs p.l).drop (k + 1))] m := by
    refine big_map (fun m hm => ?_) m hh
    have h2 := big_focus (zip_get hb h) (by have := big_flat hm; rwa [List.append_nil] at this)
    exact big_tail h2
  have h4 := big_back (by simp; omega) h3
  exact big_pack (L2 := []) (by rw [List.append_nil]; exact h4)
theorem pool_push (bp : Nat) (p : Pl) (bs : List (Option Nat)) (b : Nat) (a : Am) (v : Value) (hl : bs.length = p.l.length) (hp : p.ok) (hm : p.l.length + 1 ≤ p.most) : ∀ m, big [pts bp (.cells [.int .i64 p.most, .bool true, v, .int .i64 (p.kn + 1)].toArray 63 (0, 0)), vec v (bs.length + 1) 1 64 (bs.map pv ++ [pv (some b)]), oneH b a, big (List.zipWith oneO bs p.l)] m →
    poolB bp ⟨p.most, p.l ++ [some a]⟩ (bs ++ [some b]) m := fun m h => by
  refine ⟨v, ⟨by simp [hl], ⟨by simp only [List.length_append, List.length_cons, List.length_nil]; omega, hp.2⟩⟩, ?_⟩
  have hk : Pl.kn ⟨p.most, p.l ++ [some a]⟩ = p.kn + 1 := by
    simp only [Pl.kn, knL_append, knL]; omega
  rw [hk, zip_append hl]
  rw [show (bs ++ [some b]).length = bs.length + 1 by simp, show (bs ++ [some b]).map pv = bs.map pv ++ [pv (some b)] by simp]
  refine big_map (fun m h => big_map (fun m hh => ?_) m h) m h
  refine big_pack (L2 := []) (by
    rw [List.append_nil]
    refine big_perm List.perm_append_comm (?_ : big ([oneO (some b) (some a)] ++ List.zipWith oneO bs p.l) m)
    exact big_map (fun m hm => by have := big_flat hm; rwa [List.append_nil] at this) m hh)
theorem pvAt_of {bs : List (Option Nat)} {id : Int} {b : Nat} (h0 : 1 ≤ id) (h : bs[(id - 1).toNat]? = some (some b)) : pvAt bs id = .pointer (some ⟨b, 0, none⟩) := by
  have := (List.getElem?_eq_some_iff.1 h).1
  unfold pvAt; rw [if_pos (by omega), h]; rfl
theorem At.one {bs : List (Option Nat)} {id : Int} {b : Nat} (h : At bs id b) : 1 ≤ id := by
  have := h.2
  unfold pvAt at this
  split at this
  · omega
  · cases this
theorem At.set {bs : List (Option Nat)} {id : Int} {b k b' : Nat} (h : At bs id b) (hk : bs[k]? = some none) : At (bs.set k (some b')) id b := by
  have h0 : (bs.set k (some b'))[(id - 1).toNat]? = some (some b) := by
    rw [List.getElem?_set]
    split
    · rename_i e; have := h.1; rw [← e, hk] at this; cases this
    · exact h.1
  exact ⟨h0, pvAt_of h.one h0⟩
theorem At.push {bs : List (Option Nat)} {id : Int} {b b' : Nat} (h : At bs id b) : At (bs ++ [some b']) id b := by
  have := (List.getElem?_eq_some_iff.1 h.1).1
  have h0 : (bs ++ [some b'])[(id - 1).toNat]? = some (some b) := by
    rw [List.getElem?_append_left this]; exact h.1
  exact ⟨h0, pvAt_of h.one h0⟩
set_option maxRecDepth 4000 in
theorem make_spec (bp : Nat) (p : Pl) (bs : List (Option Nat)) (n : Int) : Tri Try.prog 6 [.pointer (some ⟨bp, 0, none⟩), .int .i64 n] [poolB bp p bs]
    (fun u l => ∃ bs', u = .tuple #[.int .i64 (p.make n).1, .int .i64 (p.make n).2.1] ∧ l = [poolB bp (p.make n).2.2 bs'] ∧ ∀ id b, At bs id b → At bs' id b) := by
  refine tri_intro Try.func6 rfl Try.results6 Try.ntmps6 rfl (by kernel_rfl) fun R => ?_
  repeat (refine go rfl ?_)
  refine SXR.callF (pmade_spec bp p bs) rfl ?_
  repeat (refine go rfl ?_)
  refine SXG.split rfl (fun h1 => ?_) (fun h1 => ?_)
  · have hs : p.make n = (0, 2, p) := if_pos (.inl h1)
    rw [hs]
    repeat (refine go rfl ?_)
    exact fin_ret (.tmp rfl (.tmp rfl .nil)) ⟨bs, rfl, rfl, fun _ _ h => h⟩
  repeat (refine go rfl ?_)
  refine SXB.split (fun h2 => ?_) (fun h2 => ?_)
  · have hs : p.make n = (0, 2, p) := if_pos (.inr h2)
    rw [hs]
    repeat (refine go rfl ?_)
    exact fin_ret (.tmp rfl (.tmp rfl .nil)) ⟨bs, rfl, rfl, fun _ _ h => h⟩
  refine SXC.open (poolB bp p bs) (fun m hm => by
    obtain ⟨v, ⟨h1, h2⟩, hm⟩ := hm
    have hsh : bs.map Option.isNone = p.l.map Option.isNone := zip_shape h1 (by
      have := big_tail (big_tail hm)
      have := big_flat this; rwa [List.append_nil] at this)
    exact ⟨v, (⟨h1, h2, hsh⟩ : bs.length = p.l.length ∧ p.ok ∧ bs.map Option.isNone = p.l.map Option.isNone), hm⟩) ?_
  rintro v ⟨hbl, hpo, hsh⟩
  have hpl : p.l.length ≤ 4096 := by have := hpo.1; have := hpo.2; omega
  have hkn : p.kn ≤ 4096 := by have := knL_le p.l; simp only [Pl.kn]; omega
  have hkn0 : 0 ≤ p.kn := by simp only [Pl.kn]; omega
  repeat (refine go rfl ?_)
  refine SXC.draw [pts bp (.cells [.int .i64 p.most, .bool true, v, .int .i64 p.kn].toArray 63 (0, 0))] (by kernel_rfl) ?_
  refine SXE.quiet 0 rfl rfl rfl (fun X => by (repeat (refine go rfl ?_)); exact fin_qs rfl) ?_
  refine SXE.quiet 1 rfl rfl rfl (fun X => by (repeat (refine go rfl ?_)); exact fin_qs rfl) ?_
  refine SXE.quiet 2 rfl rfl rfl (fun X => by (repeat (refine go rfl ?_)); exact fin_qs rfl) ?_
  refine SXE.quiet 3 rfl rfl rfl (fun X => by (repeat (refine go rfl ?_)); exact fin_qs rfl) ?_
  refine SXE.quiet 4 rfl rfl rfl (fun X => by (repeat (refine go rfl ?_)); exact fin_qs rfl) ?_
  refine SXE.quiet 5 rfl rfl rfl (fun X => by (repeat (refine go rfl ?_)); exact fin_qs rfl) ?_
  refine SXE.quiet 6 rfl rfl rfl (fun X => by (repeat (refine go rfl ?_)); exact fin_qs rfl) ?_
  refine SXE.quiet 7 rfl rfl rfl (fun X => by (repeat (refine go rfl ?_)); exact fin_qs rfl) ?_
  refine SXE.quiet 8 rfl rfl rfl (fun X => by (repeat (refine go rfl ?_)); exact fin_qs rfl) ?_
  refine SXE.quiet 9 rfl rfl rfl (fun X => by (repeat (refine go rfl ?_)); exact fin_qs rfl) ?_
  refine SXE.done rfl ?_
  repeat (refine go rfl ?_)
  refine SXB.split (fun h3 => ?_) (fun h3 => ?_)
  · have hs : p.make n = (0, 5, p) := by
      unfold Pl.make; rw [if_neg (by omega), if_pos (by omega)]
    rw [hs]
    repeat (refine go rfl ?_)
    refine Fin.shut _ (poolB_shut bp p bs v ⟨hbl, hpo⟩) ?_
    exact fin_ret (.tmp rfl (.tmp rfl .nil)) ⟨bs, rfl, rfl, fun _ _ h => h⟩
  repeat (refine go rfl ?_)
  refine SXC.draw [] (by kernel_rfl) ?_
  refine SXE.quiet 0 rfl rfl rfl (fun X => by (repeat (refine go rfl ?_)); exact fin_qs rfl) ?_
  refine SXE.quiet 2 rfl rfl rfl (fun X => by (repeat (refine go rfl ?_)); exact fin_qs rfl) ?_
  refine SXE.two 1 3 rfl rfl rfl rfl rfl ?_ ?_
  all_goals
    first
    | repeat (refine go rfl ?_)
      refine SXR.call (newC_spec n (by omega) (by omega)) rfl ?_
      rintro u L' ⟨bc, rfl, rfl⟩
      dsimp only [List.cons_append, List.nil_append]
      repeat (refine go rfl ?_)
      refine fin_qeP rfl ?_
      refine SXE.one 3 rfl rfl rfl ?_
      repeat (refine go rfl ?_)
      refine SXR.make (n := n) (cap := n) rfl rfl (by decide) (by omega) (Int.le_refl _) (by omega) (by omega) fun bv => ?_
      repeat (refine go rfl ?_)
      refine fin_qeP rfl ?_
    | repeat (refine go rfl ?_)
      refine SXR.make (n := n) (cap := n) rfl rfl (by decide) (by omega) (Int.le_refl _) (by omega) (by omega) fun bv => ?_
      repeat (refine go rfl ?_)
      refine fin_qeP rfl ?_
      refine SXE.one 1 rfl rfl rfl ?_
      repeat (refine go rfl ?_)
      refine SXR.call (newC_spec n (by omega) (by omega)) rfl ?_
      rintro u L' ⟨bc, rfl, rfl⟩
      dsimp only [List.cons_append, List.nil_append]
      repeat (refine go rfl ?_)
      refine fin_qeP rfl ?_
    refine SXE.quiet 4 rfl rfl rfl (fun X => by (repeat (refine go rfl ?_)); exact fin_qs rfl) ?_
    refine SXE.one 5 rfl rfl rfl ?_
    repeat (first | refine go rfl ?_ | intro _)
    rename_i b
    refine fin_qeP rfl ?_
    refine SXE.quiet 6 rfl rfl rfl (fun X => by (repeat (refine go rfl ?_)); exact fin_qs rfl) ?_
    refine SXE.done rfl ?_
    rw [zerosL_one]
    repeat (refine go rfl ?_)
    refine SXR.call (addC_spec bc (List.replicate n.toNat 0) 0 n 1 (by rw [List.length_replicate]; omega) (by decide)) rfl ?_
    rintro u L' (⟨hbad, _, _⟩ | ⟨_, v', rfl, rfl⟩)
    · exact absurd hbad (fresh_bad n (by omega))
    rw [addC_fresh n (by omega)]
    dsimp only [List.cons_append, List.nil_append]
    repeat (refine go rfl ?_)
    rw [show IntKind.i64.wrap (p.kn + 1) = p.kn + 1 from IntWalk.i64_in _ ⟨by omega, by omega⟩]
    refine SXR.callF (pindex_spec v bs (by omega)) rfl ?_
    repeat (refine go rfl ?_)
    have hsi := shape_idx hsh
    refine SXB.split (fun h4 => ?_) (fun h4 => ?_)
    · obtain ⟨k, hk⟩ : ∃ k, bs.findIdx? Option.isNone = some k := by
        cases hk : bs.findIdx? Option.isNone with
        | none => simp [idxN, hk] at h4
        | some k => exact ⟨k, rfl⟩
      have hix : idxN bs = k := by simp [idxN, hk]
      rw [hix] at h4 ⊢
      have hs : p.make n = ((k : Int) + 1, 0, ⟨p.most, p.l.set k (some (fresh n))⟩) := by
        unfold Pl.make; rw [if_neg (by omega), if_neg (by omega), ← hsi, hk]
      rw [hs]
      have hbk : bs[k]? = some none := by
        obtain ⟨g1, g2, _⟩ := List.findIdx?_eq_some_iff_getElem.1 hk
        rw [List.getElem?_eq_getElem g1, Option.isNone_iff_eq_none.1 g2]
      have hpk : p.l[k]? = some none := by
        obtain ⟨g1, g2, _⟩ := List.findIdx?_eq_some_iff_getElem.1 (hsi ▸ hk)
        rw [List.getElem?_eq_getElem g1, Option.isNone_iff_eq_none.1 g2]
      have hkl := (List.getElem?_eq_some_iff.1 hbk).1
      refine SXC.shutB _ bv (vec_lit (n := n.toNat) (sz := 1) (T := 3) (by simp)) ?_
      rw [show List.replicate n.toNat (Value.int .i64 0) = (List.replicate n.toNat (0 : Int)).map intC by simp]
      refine SXC.shut (cs := [pts b (.cells [.pointer (some ⟨bc, 0, none⟩), .slice (some ⟨bv, 0, none⟩) n.toNat n.toNat].toArray 68 (0, 0)), cntC bc (List.replicate n.toNat 1), vec (.slice (some ⟨bv, 0, none⟩) n.toNat n.toNat) n.toNat 1 3 ((List.replicate n.toNat (0 : Int)).map intC)]) _ (fun m hm => oneH_shut b (fresh n) bc (.slice (some ⟨bv, 0, none⟩) n.toNat n.toNat) (fresh_ok n (by omega) (by omega)) m (by rw [show (fresh n).a.length = n.toNat by simp [fresh]]; exact hm)) ?_
      refine SXC.vec (v := v) (n := bs.length) (sz := 1) (T := 64) (cs := bs.map pv) (fun _ h _ => absurd h (by omega)) ?_
      rintro bq capq spq rfl hcapq hspq hlq
      repeat (refine go rfl ?_)
      refine SXR.index k rfl (by omega) (by omega) (by omega) ?_
      repeat (refine go rfl ?_)
      refine SXS.row rfl (by rw [List.length_append, List.length_map]; omega) ?_
      rw [show (bs.map pv ++ spq).set k (.pointer (some ⟨b, 0, none⟩)) = (bs.set k (some b)).map pv ++ spq from bs_set (some b) spq hkl]
      repeat (refine go rfl ?_)
      rw [wrap_succ (by omega)]
      refine Fin.shutB _ bq (vec_shut (n := bs.length) (cap := capq) (sz := 1) (T := 64) (by simp) hcapq hspq) ?_
      refine Fin.shut _ (pool_fill bp p bs k b (fresh n) (.slice (some ⟨bq, 0, none⟩) bs.length capq) hpk hbk hbl hpo) ?_
      exact fin_ret (.tmp rfl (.tmp rfl .nil)) ⟨bs.set k (some b), rfl, rfl, fun _ _ h => h.set hbk⟩
    · have hk : bs.findIdx? Option.isNone = none := by
        cases hk : bs.findIdx? Option.isNone with
        | none => rfl
        | some k => simp [idxN, hk] at h4
      have hs : p.make n = ((p.l.length : Int) + 1, 0, ⟨p.most, p.l ++ [some (fresh n)]⟩) := by
        unfold Pl.make; rw [if_neg (by omega), if_neg (by omega), ← hsi, hk]
      rw [hs]
      have hfull : p.kn = p.l.length := by
        rw [hsi] at hk
        rw [List.findIdx?_eq_none_iff] at hk
        simp only [Pl.kn]
        rw [knL_full fun x hx e => by have := hk x hx; rw [e] at this; cases this]
      refine SXC.shutB _ bv (vec_lit (n := n.toNat) (sz := 1) (T := 3) (by simp)) ?_
      rw [show List.replicate n.toNat (Value.int .i64 0) = (List.replicate n.toNat (0 : Int)).map intC by simp]
      refine SXC.shut (cs := [pts b (.cells [.pointer (some ⟨bc, 0, none⟩), .slice (some ⟨bv, 0, none⟩) n.toNat n.toNat].toArray 68 (0, 0)), cntC bc (List.replicate n.toNat 1), vec (.slice (some ⟨bv, 0, none⟩) n.toNat n.toNat) n.toNat 1 3 ((List.replicate n.toNat (0 : Int)).map intC)]) _ (fun m hm => oneH_shut b (fresh n) bc (.slice (some ⟨bv, 0, none⟩) n.toNat n.toNat) (fresh_ok n (by omega) (by omega)) m (by rw [show (fresh n).a.length = n.toNat by simp [fresh]]; exact hm)) ?_
      repeat (first | refine go rfl ?_ | intro bx)
      refine SXR.append (n := bs.length) (m := 1) (sz := 1) (e := 64) (ys := [pv (some b)]) rfl (pk (vec v bs.length 1 64 (bs.map pv))) rfl (fun w hw => RdS.of_pts (b := bx) (off := 0) (vs := [pv (some b)]) (T := 64) (fr := (0, 0)) (Nat.le_refl 1) rfl hw) rfl (by simp [Value.oneCell']) (by omega) (by omega) fun v' => ?_
      refine SXR.facts vec_is ?_
      rintro ⟨a', c', rfl⟩
      repeat (refine go rfl ?_)
      refine Fin.shut _ (pool_push bp p bs b (fresh n) (.slice a' (bs.length + 1) c') hbl hpo (by omega)) ?_
      refine fin_ret (.tmp rfl (.tmp rfl .nil)) ⟨bs ++ [some b], ?_, rfl, fun _ _ h => h.push⟩
      rw [hbl]; rfl
end Go.Proofs.Ytlgphhknfocfaaa
