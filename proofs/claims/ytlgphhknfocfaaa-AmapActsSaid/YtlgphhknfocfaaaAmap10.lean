import Derived.Test.YtlgphhknfocfaaaAmap9
namespace Go.Proofs.Ytlgphhknfocfaaa
open Go.Sl

def lp1 : Pl := ⟨9, [some ⟨[1, 1, 1, 1], [0, 0, 0, 0]⟩]⟩
def lp2 : Pl := ⟨9, [some ⟨[1, 1, 1, 1], [0, 0, 9, 0]⟩]⟩
def lp3 : Pl := ⟨9, [some ⟨[2, 2, 1, 1], [0, 0, 9, 0]⟩]⟩
def lp4 : Pl := ⟨9, [some ⟨[1, 1, 0, 0], [0, 0, 0, 0]⟩]⟩
theorem live1 : Pl.make ⟨9, []⟩ 4 = (1, 0, lp1) := by decide +kernel
theorem live2 : lp1.set 1 2 9 = (0, 0, lp2) := by decide +kernel
theorem live3 : lp2.hold 1 0 2 = (0, lp3) := by decide +kernel
theorem live4 : lp3.drop 1 0 4 = ([9], 0, lp4) := by decide +kernel
theorem live5 : lp4.cover 1 0 = 1 := by decide +kernel
theorem live6 : lp4.cover 1 2 = 0 := by decide +kernel
set_option maxRecDepth 4000 in
theorem lives_spec : Tri Try.prog 7 [] [] (fun u l => u = .bool true ∧ l = []) := by
  refine tri_intro Try.func7 rfl Try.results7 Try.ntmps7 rfl (by kernel_rfl) fun R => ?_
  repeat (refine go rfl ?_)
  refine SXR.call (pnew_spec 9) rfl ?_
  rintro v L' (⟨_, _, bp, rfl, rfl⟩ | ⟨h, _⟩)
  · dsimp only [List.cons_append, List.nil_append]
    repeat (refine go rfl ?_)
    refine SXR.call (make_spec bp ⟨9, []⟩ [] 4) rfl ?_
    rintro v L' ⟨bs, rfl, rfl, _⟩
    rw [live1]
    dsimp only [List.cons_append, List.nil_append]
    repeat (refine go rfl ?_)
    refine SXR.callF (set_spec bp lp1 bs 1 2 9) rfl ?_
    rw [live2]
    dsimp only
    repeat (refine go rfl ?_)
    refine SXR.callF (hold_spec bp lp2 bs 1 0 2) rfl ?_
    rw [live3]
    dsimp only
    repeat (refine go rfl ?_)
    refine SXR.call (drop_spec bp lp3 bs 1 0 4) rfl ?_
    rintro v L' ⟨v', bs', rfl, rfl⟩
    rw [live4]
    dsimp only [List.cons_append, List.nil_append]
    repeat (refine go rfl ?_)
    repeat (first | refine go rfl ?_ | refine SXG.split rfl (fun _ => ?_) (fun h => by exact absurd rfl h) | intro bx)
    refine SXR.shutB (vec (.slice (some ⟨bx, 0, none⟩) 1 1) ([9] : List Int).length 1 3 (([9] : List Int).map intC)) bx (vec_lit rfl) ?_
    refine SXR.callF (ints_spec v' (.slice (some ⟨bx, 0, none⟩) 1 1) [9] [9] (by decide)) rfl ?_
    rw [show decide (([9] : List Int) = [9]) = true from rfl]
    repeat (refine go rfl ?_)
    refine SXR.callF (cover_spec bp lp4 bs' 1 0) rfl ?_
    rw [live5]
    repeat (first | refine go rfl ?_ | refine SXG.split rfl (fun _ => ?_) (fun h => by exact absurd rfl h))
    refine SXR.callF (cover_spec bp lp4 bs' 1 2) rfl ?_
    rw [live6]
    repeat (refine go rfl ?_)
    exact fin_ret (.tmp rfl .nil) ⟨rfl, rfl⟩
  · exact absurd (by decide) h
end Go.Proofs.Ytlgphhknfocfaaa
