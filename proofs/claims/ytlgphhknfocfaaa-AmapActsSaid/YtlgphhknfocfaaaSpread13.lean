import Derived.Test.YtlgphhknfocfaaaSpread12
namespace Go.Proofs.Ytlgphhknfocfaaa
open Go.Sl

/-- No run goes over a. -/
def Clean (l : List Rn) (a : Int) : Prop := ∀ r ∈ l, ¬ (r.lo < a ∧ a < r.hi)
theorem splitL_cases (l : List Rn) (a : Int) : (splitL l a = l ∧ Clean l a) ∨ ∃ l1 r l2, l = l1 ++ r :: l2 ∧ r.lo < a ∧ a < r.hi ∧ splitL l a = l1 ++ (⟨r.lo, a, r.n⟩ :: ⟨a, r.hi, r.n⟩ :: l2) := by
  unfold splitL
  cases hk : l.findIdx? (splitF a) with
  | none =>
    refine .inl ⟨rfl, fun r hr h => ?_⟩
    have := List.findIdx?_eq_none_iff.1 hk r hr
    simp [splitF, h.1, h.2] at this
  | some k =>
    obtain ⟨h1, h2, _⟩ := List.findIdx?_eq_some_iff_getElem.1 hk
    have hg : l[k]? = some l[k] := List.getElem?_eq_getElem h1
    simp only [hg]
    simp only [splitF, Bool.and_eq_true, decide_eq_true_eq] at h2
    refine .inr ⟨l.take k, l[k], l.drop (k + 1), ?_, h2.1, h2.2, by simp⟩
    rw [← List.drop_eq_getElem_cons h1, List.take_append_drop]
theorem split_chain {l : List Rn} {x y a : Int} (h : Chain x l y) : Chain x (splitL l a) y := by
  rcases splitL_cases l a with ⟨e, _⟩ | ⟨l1, r, l2, rfl, h1, h2, e⟩
  · rw [e]; exact h
  · rw [e]
    obtain ⟨c, h3, h4, h5, h6⟩ := chain_append.1 h
    exact chain_append.2 ⟨c, h3, h4, h1, rfl, h2, h6⟩
theorem split_says {l : List Rn} {f : Int → Int} {a : Int} (h : Says l f) : Says (splitL l a) f := by
  rcases splitL_cases l a with ⟨e, _⟩ | ⟨l1, r, l2, rfl, h1, h2, e⟩
  · rw [e]; exact h
  · rw [e]
    intro q hq i hi1 hi2
    have hr := h r (by simp)
    simp only [List.mem_append, List.mem_cons] at hq
    rcases hq with hq | rfl | rfl | hq
    · exact h q (by simp [hq]) i hi1 hi2
    · exact hr i hi1 (by simp only at hi2; omega)
    · exact hr i (by simp only at hi1; omega) hi2
    · exact h q (by simp [hq]) i hi1 hi2
theorem split_clean {l : List Rn} {x y a : Int} (h : Chain x l y) : Clean (splitL l a) a := by
  rcases splitL_cases l a with ⟨e, hc⟩ | ⟨l1, r, l2, rfl, h1, h2, e⟩
  · rw [e]; exact hc
  · rw [e]
    obtain ⟨c, h3, h4, h5, h6⟩ := chain_append.1 h
    intro q hq
    simp only [List.mem_append, List.mem_cons] at hq
    rcases hq with hq | rfl | rfl | hq
    · have := chain_mem h3 q hq; omega
    · simp
    · simp
    · have := chain_mem h6 q hq; omega
theorem split_clean2 {l : List Rn} {a b : Int} (h : Clean l b) : Clean (splitL l a) b := by
  rcases splitL_cases l a with ⟨e, hc⟩ | ⟨l1, r, l2, rfl, h1, h2, e⟩
  · rw [e]; exact h
  · rw [e]
    intro q hq
    have hr := h r (by simp)
    simp only [List.mem_append, List.mem_cons] at hq
    rcases hq with hq | rfl | rfl | hq
    · exact h q (by simp [hq])
    · simp only; omega
    · simp only; omega
    · exact h q (by simp [hq])
def addF (f : Int → Int) (lo hi d : Int) (i : Int) : Int := if lo ≤ i ∧ i < hi then f i + d else f i
theorem addR_lo (lo hi d : Int) (r : Rn) : (addR lo hi d r).lo = r.lo ∧ (addR lo hi d r).hi = r.hi := by unfold addR; split <;> exact ⟨rfl, rfl⟩
theorem map_chain {lo hi d : Int} : ∀ {l : List Rn} {x y : Int}, Chain x l y → Chain x (l.map (addR lo hi d)) y
  | [], _, _, h => h
  | r :: l, x, y, h => by
    have e := addR_lo lo hi d r
    refine ⟨by rw [e.1]; exact h.1, by rw [e.1, e.2]; exact h.2.1, ?_⟩
    rw [e.2]; exact map_chain h.2.2
theorem map_says {l : List Rn} {f : Int → Int} {lo hi d : Int} (h : Says l f) (h1 : Clean l lo) (h2 : Clean l hi) : Says (l.map (addR lo hi d)) (addF f lo hi d) := by
  intro q hq i hi1 hi2
  obtain ⟨r, hr, rfl⟩ := List.mem_map.1 hq
  have e := addR_lo lo hi d r
  rw [e.1] at hi1; rw [e.2] at hi2
  have hf := h r hr i hi1 hi2
  have c1 := h1 r hr
  have c2 := h2 r hr
  unfold addF addR
  by_cases hc : lo ≤ r.lo ∧ r.hi ≤ hi
  · rw [if_pos hc, if_pos (by omega), hf]
  · rw [if_neg hc, if_neg (by omega), hf]
theorem joinStep_cases (out : List Rn) (r : Rn) : (joinStep out r = out ++ [r]) ∨ ∃ o q, out = o ++ [q] ∧ q.n = r.n ∧ joinStep out r = o ++ [⟨q.lo, r.hi, q.n⟩] := by
  rcases List.eq_nil_or_concat out with rfl | ⟨o, q, rfl⟩
  · exact .inl rfl
  · rw [List.concat_eq_append]
    by_cases h : q.n = r.n
    · exact .inr ⟨o, q, rfl, h, by simp [joinStep, h]⟩
    · exact .inl (by simp [joinStep, h])
theorem joinStep_ok {out : List Rn} {r : Rn} {x : Int} {f : Int → Int} (h : Chain x out r.lo) (hr : r.lo < r.hi) (hs : Says out f) (hs2 : ∀ i, r.lo ≤ i → i < r.hi → f i = r.n) : Chain x (joinStep out r) r.hi ∧ Says (joinStep out r) f := by
  rcases joinStep_cases out r with e | ⟨o, q, rfl, e1, e⟩
  · rw [e]
    refine ⟨chain_append.2 ⟨r.lo, h, rfl, hr, rfl⟩, fun q hq => ?_⟩
    rcases List.mem_append.1 hq with hq | hq
    · exact hs q hq
    · rw [List.mem_singleton] at hq; subst hq; exact hs2
  · rw [e]
    obtain ⟨c, h1, h2, h3, h4⟩ := chain_append.1 h
    simp only [Chain] at h4
    refine ⟨chain_append.2 ⟨c, h1, h2, by simp only; omega, rfl⟩, fun p hp => ?_⟩
    rcases List.mem_append.1 hp with hp | hp
    · exact hs p (by simp [hp])
    · rw [List.mem_singleton] at hp; subst hp
      intro i hi1 hi2
      simp only at hi1 hi2 ⊢
      by_cases hc : i < q.hi
      · exact hs q (by simp) i hi1 hc
      · rw [e1]; exact hs2 i (by omega) hi2
theorem join_ok {f : Int → Int} : ∀ {l out : List Rn} {x m y : Int}, Chain x out m → Says out f → Chain m l y → Says l f → Chain x (l.foldl joinStep out) y ∧ Says (l.foldl joinStep out) f
  | [], out, x, m, y, h1, h2, h3, _ => by simp only [Chain] at h3; subst h3; exact ⟨h1, h2⟩
  | r :: l, out, x, m, y, h1, h2, h3, h4 => by
    obtain ⟨e, h5, h6⟩ := h3
    subst e
    obtain ⟨h7, h8⟩ := joinStep_ok h1 h5 h2 (h4 r List.mem_cons_self)
    rw [List.foldl_cons]
    exact join_ok h7 h8 h6 fun q hq => h4 q (List.mem_cons_of_mem _ hq)
theorem addL_ok {rs : List Rn} {n lo hi d : Int} {f : Int → Int} (h : Chain 0 rs n) (hs : Says rs f) : Chain 0 (addL rs lo hi d) n ∧ Says (addL rs lo hi d) (addF f lo hi d) := by
  unfold addL joinL
  have c1 := split_chain (a := lo) h
  have c2 := split_chain (a := hi) c1
  refine join_ok (m := 0) rfl (fun r hr => by cases hr) (map_chain c2) (map_says (split_says (split_says hs)) (split_clean2 (split_clean h)) (split_clean c1))

/-- Counts, as a list of numbers. -/
def gf (c : List Int) (i : Int) : Int := c.getD i.toNat 0
def RepL (rs : List Rn) (c : List Int) : Prop := Chain 0 rs c.length ∧ Says rs (gf c) ∧ c.length ≤ 4096 ∧ (∀ x ∈ c, 0 ≤ x ∧ x ≤ 1000000)
theorem gf_bnd {c : List Int} (h : ∀ x ∈ c, 0 ≤ x ∧ x ≤ 1000000) (i : Int) : 0 ≤ gf c i ∧ gf c i ≤ 1000000 := by
  unfold gf
  rw [List.getD_eq_getElem?_getD]
  cases hc : c[i.toNat]? with
  | none => simp
  | some x => simpa using h x (List.mem_of_getElem? hc)
theorem RepL.bnd {rs : List Rn} {c : List Int} (h : RepL rs c) : Bnd rs c.length := by
  obtain ⟨h1, h2, h3, h4⟩ := h
  have := chain_len h1
  refine ⟨by omega, by omega, by omega, fun r hr => ?_⟩
  have hm := chain_mem h1 r hr
  have := h2 r hr r.lo (Int.le_refl _) hm.2.1
  have := gf_bnd h4 r.lo
  omega
theorem RepL.pos {rs : List Rn} {c : List Int} (h : RepL rs c) (hc : 0 < c.length) : 0 < rs.length := by
  cases rs with
  | nil => have := h.1; simp only [Chain] at this; omega
  | cons r l => simp
end Go.Proofs.Ytlgphhknfocfaaa
