import Derived.Test.YtlgphhknfocfaaaSpread11
namespace Go.Proofs.Ytlgphhknfocfaaa
open Go.Sl

def Chain : Int → List Rn → Int → Prop
  | a, [], b => a = b
  | a, r :: l, b => r.lo = a ∧ r.lo < r.hi ∧ Chain r.hi l b
theorem chain_le : ∀ {l : List Rn} {a b : Int}, Chain a l b → a ≤ b
  | [], a, b, h => by simp only [Chain] at h; omega
  | r :: l, a, b, h => by have := chain_le h.2.2; have := h.1; have := h.2.1; omega
theorem chain_mem : ∀ {l : List Rn} {a b : Int}, Chain a l b → ∀ r ∈ l, a ≤ r.lo ∧ r.lo < r.hi ∧ r.hi ≤ b
  | [], _, _, _, r, hr => by cases hr
  | q :: l, a, b, h, r, hr => by
    have h1 := h.1; have h2 := h.2.1; have h3 := chain_le h.2.2
    rcases List.mem_cons.1 hr with e | e
    · subst e; omega
    · have := chain_mem h.2.2 r e; omega
theorem chain_cover : ∀ {l : List Rn} {a b : Int}, Chain a l b → ∀ i, a ≤ i → i < b → ∃ r ∈ l, r.lo ≤ i ∧ i < r.hi
  | [], a, b, h, i, h1, h2 => by simp only [Chain] at h; omega
  | q :: l, a, b, h, i, h1, h2 => by
    by_cases e : i < q.hi
    · exact ⟨q, List.mem_cons_self, by have := h.1; omega, e⟩
    · obtain ⟨r, hr, h3⟩ := chain_cover h.2.2 i (by omega) h2
      exact ⟨r, List.mem_cons_of_mem _ hr, h3⟩
theorem chain_append : ∀ {l m : List Rn} {a b : Int}, Chain a (l ++ m) b ↔ ∃ c, Chain a l c ∧ Chain c m b
  | [], m, a, b => ⟨fun h => ⟨a, rfl, h⟩, fun ⟨c, h1, h2⟩ => by simp only [Chain] at h1; subst h1; exact h2⟩
  | r :: l, m, a, b => ⟨fun h => by
      obtain ⟨c, h1, h2⟩ := chain_append.1 h.2.2
      exact ⟨c, ⟨h.1, h.2.1, h1⟩, h2⟩, fun ⟨c, h1, h2⟩ => ⟨h1.1, h1.2.1, chain_append.2 ⟨c, h1.2.2, h2⟩⟩⟩
theorem chain_len : ∀ {l : List Rn} {a b : Int}, Chain a l b → (l.length : Int) ≤ b - a
  | [], a, b, h => by simp only [Chain] at h; simp; omega
  | r :: l, a, b, h => by have := chain_len h.2.2; have := h.1; have := h.2.1; simp only [List.length_cons]; omega
theorem parts_nil {l : List Rn} {lo hi : Int} (h : ∀ r ∈ l, min r.hi hi ≤ max r.lo lo) : partsL l lo hi = [] := by
  unfold partsL
  rw [List.filter_eq_nil_iff]
  intro r hr
  obtain ⟨q, hq, rfl⟩ := List.mem_map.1 hr
  have := h q hq
  intro hh
  have := of_decide_eq_true hh
  simp only [clip] at this; omega
theorem parts_cons (r : Rn) (l : List Rn) (lo hi : Int) : partsL (r :: l) lo hi = if max r.lo lo < min r.hi hi then clip lo hi r :: partsL l lo hi else partsL l lo hi := by
  unfold partsL
  simp only [List.map_cons, List.filter_cons]
  by_cases h : max r.lo lo < min r.hi hi
  · rw [if_pos h]; exact if_pos (decide_eq_true h)
  · rw [if_neg h]; exact if_neg (fun hh => h (of_decide_eq_true hh))
theorem parts_chain {lo hi : Int} : ∀ {l : List Rn} {a b : Int}, Chain a l b → max a lo ≤ min b hi → Chain (max a lo) (partsL l lo hi) (min b hi)
  | [], a, b, h, hle => by
    simp only [Chain] at h; subst h
    show max a lo = min a hi
    omega
  | r :: l, a, b, h, hle => by
    obtain ⟨h1, h2, h3⟩ := h
    subst h1
    have hm := chain_mem h3
    have hle3 := chain_le h3
    rw [parts_cons]
    by_cases hk : max r.lo lo < min r.hi hi
    · rw [if_pos hk]
      refine ⟨rfl, hk, ?_⟩
      show Chain (min r.hi hi) _ _
      by_cases e : r.hi ≤ hi
      · have := parts_chain (lo := lo) (hi := hi) h3 (by omega)
        rwa [show max r.hi lo = min r.hi hi by omega] at this
      · rw [parts_nil fun q hq => by have := hm q hq; omega]
        show min r.hi hi = min b hi
        omega
    · rw [if_neg hk]
      by_cases e : r.hi ≤ lo
      · have := parts_chain (lo := lo) (hi := hi) h3 (by omega)
        rwa [show max r.hi lo = max r.lo lo by omega] at this
      · rw [parts_nil fun q hq => by have := hm q hq; omega]
        show max r.lo lo = min b hi
        omega
/-- The runs that say f. -/
def Says (l : List Rn) (f : Int → Int) : Prop := ∀ r ∈ l, ∀ i, r.lo ≤ i → i < r.hi → f i = r.n
theorem says_parts {l : List Rn} {f : Int → Int} {lo hi : Int} (h : Says l f) : Says (partsL l lo hi) f := by
  intro r hr i h1 h2
  obtain ⟨q, hq, rfl, _⟩ := partsL_mem hr
  simp only [clip] at h1 h2 ⊢
  exact h q hq i (by omega) (by omega)
def irange (a b : Int) : List Int := (List.range (b - a).toNat).map fun k : Nat => a + (k : Int)
theorem irange_self (a : Int) : irange a a = [] := by simp [irange]
theorem mem_irange {a b i : Int} : i ∈ irange a b ↔ a ≤ i ∧ i < b := by
  simp only [irange, List.mem_map, List.mem_range]
  constructor
  · rintro ⟨k, hk, rfl⟩; omega
  · intro h; exact ⟨(i - a).toNat, by omega, by omega⟩
theorem irange_append {a b c : Int} (h1 : a ≤ b) (h2 : b ≤ c) : irange a c = irange a b ++ irange b c := by
  unfold irange
  rw [show (c - a).toNat = (b - a).toNat + (c - b).toNat by omega, List.range_add, List.map_append, List.map_map]
  congr 1
  apply List.map_congr_left
  intro k _
  simp only [Function.comp]; omega
theorem gone_chain {f : Int → Int} {d : Int} : ∀ {l : List Rn} {a b : Int}, Chain a l b → Says l f → l.flatMap (goneR d) = (irange a b).filter fun i => decide (d ≠ 0 ∧ d = -f i)
  | [], a, b, h, _ => by simp only [Chain] at h; subst h; simp [irange_self]
  | r :: l, a, b, h, hs => by
    obtain ⟨h1, h2, h3⟩ := h
    subst h1
    rw [List.flatMap_cons, gone_chain h3 (fun q hq => hs q (List.mem_cons_of_mem _ hq)), irange_append (a := r.lo) (b := r.hi) (c := b) (by omega) (chain_le h3), List.filter_append]
    congr 1
    unfold goneR
    have hr := hs r List.mem_cons_self
    split
    · rename_i hc
      rw [List.filter_eq_self.2]
      · rfl
      · intro i hi
        rw [mem_irange] at hi
        rw [hr i hi.1 hi.2]; simpa using hc
    · rename_i hc
      rw [List.filter_eq_nil_iff.2]
      intro i hi
      rw [mem_irange] at hi
      rw [hr i hi.1 hi.2]; simpa using hc
theorem sum_const (f : Int → Int) (n : Int) : ∀ k : Nat, ∀ a : Int, (∀ i, a ≤ i → i < a + k → f i = n) → ((irange a (a + k)).map f).sum = n * k
  | 0, a, _ => by simp [irange_self]
  | k + 1, a, h => by
    rw [irange_append (b := a + k) (by omega) (by omega), List.map_append, List.sum_append, sum_const f n k a (fun i h1 h2 => h i h1 (by omega))]
    rw [show irange (a + k) (a + ((k + 1 : Nat) : Int)) = [a + k] by simp [irange]; rw [show (a + (↑k + 1) - (a + ↑k)).toNat = 1 by omega]; simp]
    simp only [List.map_cons, List.map_nil, List.sum_cons, List.sum_nil]
    rw [h (a + k) (by omega) (by omega), Int.natCast_succ, Int.mul_add]; omega
theorem sum_chain {f : Int → Int} : ∀ {l : List Rn} {a b : Int}, Chain a l b → Says l f → sumR l = ((irange a b).map f).sum
  | [], a, b, h, _ => by simp only [Chain] at h; subst h; simp [irange_self, sumR]
  | r :: l, a, b, h, hs => by
    obtain ⟨h1, h2, h3⟩ := h
    subst h1
    rw [irange_append (b := r.hi) (by omega) (chain_le h3), List.map_append, List.sum_append, ← sum_chain h3 (fun q hq => hs q (List.mem_cons_of_mem _ hq))]
    have := sum_const f r.n (r.hi - r.lo).toNat r.lo fun i h1 h2 => hs r List.mem_cons_self i h1 (by omega)
    rw [show r.lo + ((r.hi - r.lo).toNat : Int) = r.hi by omega, show ((r.hi - r.lo).toNat : Int) = r.hi - r.lo by omega] at this
    rw [this]
    simp [sumR]
end Go.Proofs.Ytlgphhknfocfaaa
