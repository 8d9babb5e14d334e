import Derived.Test.YtlgphhknfocfaaaSlLib2
import Derived.ProofKit
namespace Go.Sl
open Go.RowKit

theorem sat_start (W : World) : Sat W [old W, envC W] := by
  refine ⟨fun n => if n = 0 then none else heapOf W n, fun n => if n = 0 then heapOf W n else none, ?_, ?_, ?_, ?_, ?_⟩
  · intro x y h
    by_cases hx : x = 0
    · simp [hx] at h
    · simpa [hx] using h
  · intro x y h
    by_cases hx : x = 0
    · simpa [hx] using h
    · simp [hx] at h
  · intro x
    by_cases hx : x = 0
    · exact .inl (by simp [hx])
    · exact .inr (by simp [hx])
  · intro b o h
    simp [heapOf, h]
  · refine ⟨fun n => if n = 0 then heapOf W n else none, fun _ => none, .refl _, (fun _ _ h => by cases h), (fun _ => .inr rfl), ?_, trivial⟩
    simp [envC, heapOf]
theorem grown_of {W w : World} {L R R2 : List HP} [hp : Pick (old W) L R] [hp2 : Pick (envC W) L R2] (h : Sat w L) : Grown W w := by
  have h1 : ∀ b o, W.heap[b]? = some o → w.heap[b]? = some o := fun b o hb => old_heap (hp := hp) h hb
  have h2 : w.os = W.os ∧ w.output = W.output ∧ w.frozen? = W.frozen? := by
    obtain ⟨m1, m2, g1, g2, hd, hA, hL⟩ := h.perm hp2.perm
    have := g1 0 _ hA
    simp only [heapOf] at this
    injection this with this
    injection this with q1 q2 q3
    exact ⟨q1, q2, q3⟩
  refine ⟨⟨h2.1, h2.2.1, fun i hi => ?_⟩, fun a => by rw [h2.2.2], ?_⟩
  · obtain ⟨o, ho⟩ : ∃ o, W.heap[i]? = some o := ⟨W.heap[i], by simp [hi]⟩
    rw [ho, h1 i o ho]
    cases o with
    | cells c t fr => exact ⟨rfl, rfl, rfl, fun _ _ => rfl⟩
    | map es cl => exact .inr ⟨rfl, rfl⟩
    | _ => rfl
  · rcases Nat.lt_or_ge w.heap.size W.heap.size with hlt | hge
    · exfalso
      obtain ⟨o, ho⟩ : ∃ o, W.heap[w.heap.size]? = some o := ⟨W.heap[w.heap.size], by simp [hlt]⟩
      have := h1 _ _ ho
      simp at this
    · exact hge
end Go.Sl
