import Derived.Test.YtlgphhknfocfaaaInst
namespace Go.Proofs.Ytlgphhknfocfaaa
open Go.Sl

structure Rn where
  lo : Int
  hi : Int
  n : Int
def Rn.cells (r : Rn) : List Value := [.int .i64 r.lo, .int .i64 r.hi, .int .i64 r.n]
def rc (l : List Rn) : List Value := l.flatMap Rn.cells
theorem rc_length (l : List Rn) : (rc l).length = l.length * 3 := by
  induction l with
  | nil => rfl
  | cons r l ih => simp only [rc, List.flatMap_cons, List.length_append, List.length_cons] at ih ⊢; rw [ih]; simp [Rn.cells]; omega
theorem rc_drop (l : List Rn) (sp : List Value) : ∀ (i : Nat) (r : Rn), l[i]? = some r → (rc l ++ sp).drop (i * 3) = Rn.cells r ++ (rc (l.drop (i + 1)) ++ sp) := by
  induction l with
  | nil => intro i r h; simp at h
  | cons x l ih =>
    intro i r h
    cases i with
    | zero => simp at h; subst h; simp [rc]
    | succ i =>
      have := ih i r (by simpa using h)
      rw [show (i + 1) * 3 = i * 3 + 1 + 1 + 1 by omega]
      simp only [rc, List.flatMap_cons, List.append_assoc] at this ⊢
      simpa [Rn.cells] using this
theorem rc_take3 (l : List Rn) (sp : List Value) (i : Nat) (r : Rn) (h : l[i]? = some r) : ((rc l ++ sp).drop (i * 3)).take 3 = Rn.cells r := by
  rw [rc_drop l sp i r h]; simp [Rn.cells]
theorem rc_fits (l : List Rn) (sp : List Value) (i : Nat) (h : i < l.length) : i * 3 + 3 ≤ (rc l ++ sp).length := by simp [rc_length]; omega

/-- The counts at block b: the runs rs, of n items. -/
def cnt (b : Nat) (rs : List Rn) (n : Int) : HP := fun m => ∃ q : Nat × Nat × List Value, (rs.length ≤ q.2.1 ∧ q.2.2.length = (q.2.1 - rs.length) * 3) ∧
  big [pts b (.cells [.slice (some ⟨q.1, 0, none⟩) rs.length q.2.1, .int .i64 n, .bool true].toArray 87 (0, 0)), pts q.1 (.cells (rc rs ++ q.2.2).toArray 76 (0, 0))] m

def clip (lo hi : Int) (r : Rn) : Rn := ⟨max r.lo lo, min r.hi hi, r.n⟩
def partsL (rs : List Rn) (lo hi : Int) : List Rn := (rs.map (clip lo hi)).filter fun r => decide (r.lo < r.hi)

theorem made_spec (b : Nat) (v : Value) (n : Int) (is : Bool) : Tri Try.prog 45 [.pointer (some ⟨b, 0, none⟩)] [pts b (.cells [v, .int .i64 n, .bool is].toArray 87 (0, 0))] (fun u l => u = .bool is ∧ l = [pts b (.cells [v, .int .i64 n, .bool is].toArray 87 (0, 0))]) := by
  refine tri_intro Try.func45 rfl Try.results45 Try.ntmps45 rfl (by kernel_rfl) fun R => ?_
  repeat (refine go rfl ?_)
  exact fin_ret (.tmp rfl .nil) ⟨rfl, rfl⟩
theorem len_spec (b : Nat) (v : Value) (n : Int) : Tri Try.prog 50 [.pointer (some ⟨b, 0, none⟩)] [pts b (.cells [v, .int .i64 n, .bool true].toArray 87 (0, 0))] (fun u l => u = .int .i64 n ∧ l = [pts b (.cells [v, .int .i64 n, .bool true].toArray 87 (0, 0))]) := by
  refine tri_intro Try.func50 rfl Try.results50 Try.ntmps50 rfl (by kernel_rfl) fun R => ?_
  repeat (refine go rfl ?_)
  refine SXR.callF (made_spec b v n true) rfl ?_
  repeat (refine go rfl ?_)
  exact fin_ret (.tmp rfl .nil) ⟨rfl, rfl⟩
theorem parts_spec (b : Nat) (lo hi : Int) : Tri Try.prog 46 [.pointer (some ⟨b, 0, none⟩), .int .i64 lo, .int .i64 hi] [] (fun u l => ∃ b1 b2 b3, u = .func (.func 53) #[] [.pointer (some ⟨b1, 0, none⟩), .pointer (some ⟨b2, 0, none⟩), .pointer (some ⟨b3, 0, none⟩)].toArray ∧
    l = [pts b1 (.cells [.pointer (some ⟨b, 0, none⟩)].toArray 65 (0, 0)), pts b2 (.cells [.int .i64 lo].toArray 3 (0, 0)), pts b3 (.cells [.int .i64 hi].toArray 3 (0, 0))]) := by
  refine tri_intro Try.func46 rfl Try.results46 Try.ntmps46 rfl (by kernel_rfl) fun R => ?_
  repeat (first | refine go rfl ?_ | intro _)
  exact fin_ret (.tmp rfl .nil) ⟨_, _, _, rfl, rfl⟩
end Go.Proofs.Ytlgphhknfocfaaa
