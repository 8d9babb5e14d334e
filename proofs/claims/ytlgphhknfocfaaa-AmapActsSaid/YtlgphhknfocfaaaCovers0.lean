import Derived.Test.YtlgphhknfocfaaaAmap10
namespace Go.Proofs.Ytlgphhknfocfaaa
open Go.Sl

def cpool (C I : List Int) : Pl := ⟨1, [some ⟨C, I⟩]⟩
theorem cpool_get (C I : List Int) : (cpool C I).get 1 = some ⟨C, I⟩ := rfl
theorem cpool_upd (C I : List Int) (a : Am) : (cpool C I).upd 1 a = cpool a.c a.a := rfl
theorem addC_self (c : List Int) (lo d : Int) : addC c lo lo d = c := by
  apply List.ext_getElem
  · exact addC_len ..
  · intro i h1 h2
    simp only [addC, List.getElem_mapIdx]
    rw [if_neg (by omega)]
theorem addC_step {c : List Int} {lo d : Int} {k : Nat} (h0 : lo ≤ k) (hk : k < c.length) : (addC c lo k d).set k (gf c k + d) = addC c lo ((k : Int) + 1) d := by
  apply List.ext_getElem
  · simp [addC]
  · intro i h1 h2
    rw [List.getElem_set]
    simp only [addC, List.getElem_mapIdx]
    split
    · rename_i e; subst e
      rw [if_pos (by omega), gf_get hk]
    · rename_i e
      by_cases hc : lo ≤ (i : Int) ∧ (i : Int) < k
      · rw [if_pos hc, if_pos (by omega)]
      · rw [if_neg hc, if_neg (by omega)]
theorem gf_addC_at {c : List Int} {lo d : Int} {k : Nat} (hk : k < c.length) : gf (addC c lo k d) k = gf c k := by
  rw [gf_addC (by omega) (by omega)]
  unfold addF; rw [if_neg (by omega)]
theorem irange_succ {a b : Int} (h : a ≤ b) : irange a (b + 1) = irange a b ++ [b] := by
  rw [irange_append (b := b) h (by omega)]
  congr 1
  simp [irange, show (b + 1 - b).toNat = 1 by omega]
theorem goneC_self (c : List Int) (lo d : Int) : goneC c lo lo d = [] := by simp [goneC, irange_self]
theorem goneC_step {c : List Int} {lo : Int} {k : Nat} (h0 : lo ≤ k) : goneC c lo ((k : Int) + 1) (-1) = goneC c lo k (-1) ++ (if gf c k = 1 then [(k : Int)] else []) := by
  unfold goneC
  rw [irange_succ h0, List.filter_append]
  congr 1
  by_cases h : gf c k = 1
  · rw [if_pos h]; simp [h]
  · rw [if_neg h]; simp; omega
theorem dropG_snoc (a g : List Int) (x : Int) : dropG a (g ++ [x]) = dropStep (dropG a g) x := by simp [dropG]
theorem zeroIn_self (c : List Int) (lo : Int) : ¬ zeroIn c lo lo := by rintro ⟨i, h1, h2, _⟩; omega
theorem zeroIn_step {c : List Int} {lo : Int} {k : Nat} (h0 : lo ≤ k) : zeroIn c lo ((k : Int) + 1) ↔ zeroIn c lo k ∨ gf c k = 0 := by
  constructor
  · rintro ⟨i, h1, h2, h3⟩
    by_cases e : i = k
    · exact .inr (e ▸ h3)
    · exact .inl ⟨i, h1, by omega, h3⟩
  · rintro (⟨i, h1, h2, h3⟩ | h)
    · exact ⟨i, h1, by omega, h3⟩
    · exact ⟨k, h0, by omega, h⟩
theorem bad_dec {C : List Int} {lo hi : Int} (h0 : 0 ≤ lo) (hl : lo < hi) (hh : hi ≤ C.length) (hC : ∀ x ∈ C, 0 ≤ x ∧ x ≤ 1000) : badC C lo hi (-1) ↔ zeroIn C lo hi := by
  constructor
  · rintro (h | h | h | ⟨i, h1, h2, h⟩)
    · omega
    · omega
    · omega
    · refine ⟨i, h1, h2, ?_⟩
      have := gf_bnd (c := C) (fun x hx => by have := hC x hx; omega) i
      omega
  · rintro ⟨i, h1, h2, h⟩
    exact .inr (.inr (.inr ⟨i, h1, h2, by omega⟩))
theorem bad_inc {C : List Int} {lo hi : Int} (h0 : 0 ≤ lo) (hl : lo < hi) (hh : hi ≤ C.length) (hC : ∀ x ∈ C, 0 ≤ x ∧ x ≤ 1000) : ¬ badC C lo hi 1 := by
  rintro (h | h | h | ⟨i, h1, h2, h⟩)
  · omega
  · omega
  · omega
  · have : 0 ≤ gf C i ∧ gf C i ≤ 1000 := by
      unfold gf
      rw [List.getD_eq_getElem?_getD]
      cases hc : C[i.toNat]? with
      | none => simp
      | some x => simpa using hC x (List.mem_of_getElem? hc)
    omega
theorem cpool_within {C I : List Int} {lo hi : Int} (h0 : 0 ≤ lo) (hl : lo < hi) (hh : hi ≤ I.length) : Am.within ⟨C, I⟩ lo hi = true := decide_eq_true ⟨h0, hl, hh⟩
theorem cpool_hold {C I : List Int} {lo hi : Int} (h0 : 0 ≤ lo) (hl : lo < hi) (hh : hi ≤ C.length) (hI : I.length = C.length) (hC : ∀ x ∈ C, 0 ≤ x ∧ x ≤ 1000) : (cpool C I).hold 1 lo hi = if zeroIn C lo hi then (2, cpool C I) else (0, cpool (addC C lo hi 1) I) := by
  unfold Pl.hold
  rw [cpool_get]
  simp only
  rw [cpool_within h0 hl (by omega), if_neg (by simp)]
  split
  · rfl
  · rw [if_neg (bad_inc h0 hl hh hC)]; rfl
theorem cpool_drop {C I : List Int} {lo hi : Int} (h0 : 0 ≤ lo) (hl : lo < hi) (hh : hi ≤ C.length) (hI : I.length = C.length) (hC : ∀ x ∈ C, 0 ≤ x ∧ x ≤ 1000) : (cpool C I).drop 1 lo hi = if zeroIn C lo hi then ([], 2, cpool C I) else
    ((dropG I (goneC C lo hi (-1))).2, 0, if (addC C lo hi (-1)).sum = 0 then ⟨1, [none]⟩ else cpool (addC C lo hi (-1)) (dropG I (goneC C lo hi (-1))).1) := by
  unfold Pl.drop
  rw [cpool_get]
  simp only
  rw [cpool_within h0 hl (by omega), if_neg (by simp)]
  by_cases hz : zeroIn C lo hi
  · rw [if_pos ((bad_dec h0 hl hh hC).2 hz), if_pos hz]
  · rw [if_neg (fun h => hz ((bad_dec h0 hl hh hC).1 h)), if_neg hz]; rfl
theorem gf_in {C : List Int} {i : Int} (h0 : 0 ≤ i) (h1 : i < C.length) : gf C i ∈ C := by
  obtain ⟨k, rfl⟩ : ∃ k : Nat, i = k := ⟨i.toNat, by omega⟩
  rw [gf_get (by omega)]; exact List.getElem_mem _
theorem cpool_cover {C I : List Int} {i : Int} (h0 : 0 ≤ i) (h1 : i < C.length) (hC : ∀ x ∈ C, 0 ≤ x) : (cpool C I).cover 1 i = gf C i := by
  unfold Pl.cover
  rw [cpool_get]
  simp only
  rw [if_pos ⟨h0, h1⟩]
  have := hC _ (gf_in h0 h1)
  omega
theorem cpool_at {C I : List Int} {i : Int} (h0 : 0 ≤ i) (h1 : i < I.length) : (cpool C I).at 1 i = gf I i := by
  unfold Pl.at
  rw [cpool_get]
  simp only
  rw [if_pos ⟨h0, h1⟩]
theorem cpool_set {C I : List Int} {i x : Int} (h0 : 0 ≤ i) (h1 : i < C.length) (hC : ∀ x ∈ C, 0 ≤ x) (hx : 0 ≤ x) : (cpool C I).set 1 i x = if gf C i = 0 then (0, 2, cpool C I) else (gf I i, 0, cpool C (I.set i.toNat x)) := by
  unfold Pl.set
  rw [cpool_get, cpool_cover h0 h1 hC]
  simp only
  by_cases h : gf C i = 0
  · rw [if_pos (.inl h), if_pos h]
  · rw [if_neg (by omega), if_neg h]; rfl
theorem addC_mem {C : List Int} {lo hi d m : Int} (hC : ∀ x ∈ C, 0 ≤ x ∧ x ≤ m) (hd : d = 1 ∨ (d = -1 ∧ ¬ zeroIn C lo hi)) (h0 : 0 ≤ lo) (hh : hi ≤ C.length) : ∀ x ∈ addC C lo hi d, 0 ≤ x ∧ x ≤ m + 1 := by
  intro x hx
  obtain ⟨k, hk, rfl⟩ := List.mem_iff_getElem.1 hx
  have hk2 : k < C.length := by rw [addC_len] at hk; exact hk
  have hm := hC _ (List.getElem_mem hk2)
  simp only [addC, List.getElem_mapIdx]
  split
  · rename_i hc
    rcases hd with rfl | ⟨rfl, hz⟩
    · omega
    · have : C[k] ≠ 0 := fun e => hz ⟨k, hc.1, hc.2, by rw [gf_get hk2, e]⟩
      omega
  · omega
theorem sum_take {C : List Int} {k : Nat} (h : k < C.length) : (C.take (k + 1)).sum = (C.take k).sum + gf C k := by
  rw [List.take_add_one, List.getElem?_eq_getElem h, gf_get h, List.sum_append]; simp
theorem sum_nn : ∀ {C : List Int}, (∀ x ∈ C, 0 ≤ x) → 0 ≤ C.sum
  | [], _ => by simp
  | x :: C, h => by have := sum_nn (C := C) fun y hy => h y (List.mem_cons_of_mem _ hy); have := h x List.mem_cons_self; simp only [List.sum_cons]; omega
theorem sum_le {m : Int} : ∀ {C : List Int}, (∀ x ∈ C, 0 ≤ x ∧ x ≤ m) → C.sum ≤ m * C.length
  | [], _ => by simp
  | x :: C, h => by have := sum_le (m := m) (C := C) fun y hy => h y (List.mem_cons_of_mem _ hy); have := h x List.mem_cons_self; simp only [List.sum_cons, List.length_cons, Int.natCast_succ, Int.mul_add, Int.mul_one]; omega
theorem sum_mono : ∀ {a b : List Int}, a.length = b.length → (∀ i : Nat, i < a.length → gf a i ≤ gf b i) → a.sum ≤ b.sum
  | [], [], _, _ => by simp
  | [], y :: b, h, _ => by cases h
  | x :: a, [], h, _ => by cases h
  | x :: a, y :: b, h, hh => by
    have h0 := hh 0 (by simp)
    have ih := sum_mono (a := a) (b := b) (by simpa using h) fun i hi => by
      have := hh (i + 1) (by simpa using hi)
      have hb : i < b.length := by have : a.length = b.length := by simpa using h
                                   omega
      rw [gf_get (by simpa using hi), gf_get (by simpa using hb)] at this
      rw [gf_get hi, gf_get hb]
      simpa using this
    simp [gf] at h0
    simp only [List.sum_cons]; omega
theorem addC_sum {C : List Int} {lo hi : Int} : C.sum ≤ (addC C lo hi 1).sum := sum_mono (by rw [addC_len]) fun i hi' => by
  rw [gf_addC (by omega) (by omega)]
  unfold addF; split <;> omega
theorem dropG_full (a g : List Int) : (dropG a g).1.length = a.length ∧ (dropG a g).2.length ≤ g.length ∧ ((∀ x ∈ a, 0 ≤ x) → ∀ x ∈ (dropG a g).1, 0 ≤ x) := by
  have := dropG_len (a := a) (g := g) (i := g.length) (Nat.le_refl _)
  rwa [List.take_length] at this
theorem dropG_one {C I : List Int} {lo : Int} {j : Nat} (h0 : lo ≤ j) (h : gf C j = 1) : dropG I (goneC C lo ((j : Int) + 1) (-1)) = dropStep (dropG I (goneC C lo j (-1))) j := by
  rw [goneC_step h0, if_pos h, dropG_snoc]
theorem dropG_not {C I : List Int} {lo : Int} {j : Nat} (h0 : lo ≤ j) (h : gf C j ≠ 1) : dropG I (goneC C lo ((j : Int) + 1) (-1)) = dropG I (goneC C lo j (-1)) := by
  rw [goneC_step h0, if_neg h, List.append_nil]
theorem gf_addC_last {C : List Int} {lo d : Int} {j : Nat} (h0 : lo ≤ j) (hj : j < C.length) : gf (addC C lo ((j : Int) + 1) d) j = gf C j + d := by
  rw [gf_addC (by omega) (by omega)]
  unfold addF; rw [if_pos (by omega)]
theorem fresh_sum (n : Int) (h : 1 ≤ n) : 0 < (fresh n).c.sum := by
  obtain ⟨k, hk⟩ : ∃ k : Nat, n.toNat = k + 1 := ⟨n.toNat - 1, by omega⟩
  simp only [fresh, hk, List.replicate_succ, List.sum_cons]
  have := sum_nn (C := List.replicate k (1 : Int)) fun x hx => by rw [List.eq_of_mem_replicate hx]; decide
  omega
end Go.Proofs.Ytlgphhknfocfaaa
