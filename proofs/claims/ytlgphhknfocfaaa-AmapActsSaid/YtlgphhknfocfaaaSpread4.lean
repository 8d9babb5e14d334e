import Derived.Test.YtlgphhknfocfaaaSpread3
namespace Go.Proofs.Ytlgphhknfocfaaa
open Go.Sl

theorem one_rc {l : List Rn} : ∀ y ∈ rc l, y.oneCell' = true := by
  intro y hy
  simp only [rc, List.mem_flatMap, Rn.cells] at hy
  obtain ⟨r, _, hy⟩ := hy
  simp at hy
  rcases hy with rfl | rfl | rfl <;> rfl
/-- slices.Clone at []Run. -/
theorem runClone_spec (v : Value) (l : List Rn) (hlen : l.length ≤ 1000000) : Tri Try.prog 48 [v] [vec v l.length 3 76 (rc l)] (fun u L' => L' = [vec v l.length 3 76 (rc l), vec u l.length 3 76 (rc l)]) := by
  refine tri_intro Try.func48 rfl Try.results48 Try.ntmps48 rfl (by kernel_rfl) fun R => ?_
  refine SXC.vec (v := v) (n := l.length) (sz := 3) (T := 76) (cs := rc l) ?_ ?_
  · rintro rfl hn hl
    obtain rfl : l = [] := List.length_eq_zero_iff.1 hn
    repeat (refine go rfl ?_)
    refine Fin.ent (big_add (A := vec (.slice none 0 0) 0 3 76 []) vec_nil) (Fin.ent (big_add (A := vec (.slice none 0 0) 0 3 76 []) vec_nil) ?_)
    exact fin_ret (L' := [vec (.slice none 0 0) 0 3 76 [], vec (.slice none 0 0) 0 3 76 []]) (.tmp rfl .nil) rfl
  · rintro b cap sp rfl hcap hsp hl
    repeat (first | refine go rfl ?_ | intro b2)
    refine SXR.shutB _ b2 (vec_lit (n := 0) (sz := 3) (T := 76) (cs := []) rfl) ?_
    refine SXR.append (n := 0) (m := l.length) (sz := 3) (e := 76) (ys := rc l) rfl (.refl _) rfl (fun w hw => ?_) (by rw [rc_length]) one_rc (by omega) (by omega) fun v' => ?_
    · exact RdS.of_pts (off := 0) (vs := rc l ++ sp) (by simp) (by simp) hw
    repeat (refine go rfl ?_)
    refine Fin.shutB _ b (vec_shut (T := 76) hl hcap hsp) ?_
    refine fin_ret (L' := [vec (.slice (some ⟨b, 0, none⟩) l.length cap) l.length 3 76 (rc l), vec v' (0 + l.length) 3 76 ([] ++ rc l)]) (.tmp rfl .nil) ?_
    simp
end Go.Proofs.Ytlgphhknfocfaaa
