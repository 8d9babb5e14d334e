import Derived.Test.YtlgphhknfocfaaaCovers1
import Derived.Test.YtlgphhknfocfaaaRows
namespace Go.Proofs.Ytlgphhknfocfaaa
open Go.Sl Go.ChangeShapes Go.WideShapes Go.ChangeAt Go.RowKit

theorem choose_list {α : Type} {p : Nat → α → Prop} : ∀ n : Nat, (∀ i, i < n → ∃ a, p i a) → ∃ l : List α, l.length = n ∧ ∀ i a, l[i]? = some a → p i a
  | 0, _ => ⟨[], rfl, fun i a h => by simp at h⟩
  | n + 1, h => by
    obtain ⟨l, hl, hp⟩ := choose_list n fun i hi => h i (by omega)
    obtain ⟨a, ha⟩ := h n (by omega)
    refine ⟨l ++ [a], by simp [hl], fun i b hb => ?_⟩
    by_cases e : i < l.length
    · rw [List.getElem?_append_left e] at hb; exact hp i b hb
    · rw [List.getElem?_append_right (by omega)] at hb
      have : i - l.length = 0 := by
        have := (List.getElem?_eq_some_iff.1 hb).1; simp at this; omega
      rw [this] at hb; simp at hb; subst hb
      rw [show i = n by omega]; exact ha
theorem acC_get {l : List Ac} {i j : Nat} {a : Ac} (h : l[i]? = some a) (hj : j < 4) : (acC l)[i * 4 + j]? = (Ac.cells a)[j]? := by
  have := acC_take l i a h
  rw [← this, List.getElem?_take, if_pos hj, List.getElem?_drop]
theorem acts_of_cells {W : World} {a : Addr} {cap : Nat} {l : List Ac} (h : ∀ (i : Nat) (x : Ac), l[i]? = some x → ∀ j v, (Ac.cells x)[j]? = some v → W.cell? (a.add (i * 4 + j)) = some v) : ActsAt W (.slice (some a) l.length cap) l := by
  refine ⟨⟨_, _, rfl⟩, fun hl => ?_⟩
  obtain ⟨b, off, sp⟩ := a
  obtain ⟨x, hx⟩ : ∃ x, l[0]? = some x := ⟨l[0], List.getElem?_eq_getElem hl⟩
  have h0 := h 0 x hx 0 (.int .i64 x.kind) rfl
  cases sp with
  | some s =>
    exfalso
    have : (Addr.add ⟨b, off, some s⟩ (0 * 4 + 0)) = ⟨b, off, some s⟩ := by simp [Addr.add]
    rw [this] at h0
    unfold World.cell? at h0
    split at h0
    · simp at h0
    · cases h0
  | none =>
    rw [Addr.add_eq] at h0
    unfold World.cell? at h0
    split at h0
    · rename_i c T fr hb
      refine .inr ⟨b, off, cap, c.toList, T, fr, rfl, by simpa using hb, ?_⟩
      have hget : ∀ i x, l[i]? = some x → ∀ j v, (Ac.cells x)[j]? = some v → c[off + (i * 4 + j)]? = some v := fun i x hx j v hv => by
        have := h i x hx j v hv
        rw [Addr.add_eq] at this
        unfold World.cell? at this
        simp only [hb] at this
        simpa using this
      have key : ∀ k, k < l.length * 4 → c[off + k]? = (acC l)[k]? := fun k hk => by
        have hi : k / 4 < l.length := by omega
        have hx := List.getElem?_eq_getElem hi
        have e : k = (k / 4) * 4 + k % 4 := by omega
        have hv : ∃ v, (Ac.cells l[k / 4])[k % 4]? = some v := ⟨(Ac.cells l[k / 4])[k % 4]'(by simp [Ac.cells]; omega), List.getElem?_eq_getElem (by simp [Ac.cells]; omega)⟩
        obtain ⟨v, hv⟩ := hv
        have h1 := hget _ _ hx _ v hv
        have h2 := acC_get (j := k % 4) hx (by omega)
        rw [← e] at h1 h2
        rw [h1, h2, hv]
      have hsz : off + l.length * 4 ≤ c.size := by
        have h1 := key (l.length * 4 - 1) (by omega)
        rw [List.getElem?_eq_getElem (by rw [acC_length]; omega)] at h1
        have := (Array.getElem?_eq_some_iff.1 h1).1
        omega
      refine ⟨by rw [acC_length]; simpa using hsz, ?_⟩
      apply List.ext_getElem?
      intro k
      rw [acC_length, List.getElem?_take]
      split
      · rename_i hk
        rw [List.getElem?_drop, ← key k hk]; simp
      · rename_i hk
        rw [List.getElem?_eq_none (by rw [acC_length]; omega)]
    · cases h0
end Go.Proofs.Ytlgphhknfocfaaa
