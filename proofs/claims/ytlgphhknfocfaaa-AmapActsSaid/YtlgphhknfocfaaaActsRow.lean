/- Whatever is done to amaps, AmapActs returns true, and its arguments read as before; no condition. -/
import Derived.Test.YtlgphhknfocfaaaCoversRow
import Derived.Test.YtlgphhknfocfaaaActs3
namespace Go.Proofs.Ytlgphhknfocfaaa
open Go.Sl Go.ChangeShapes Go.WideShapes Go.ChangeAt Go.RowKit

set_option maxRecDepth 100000 in
theorem acts_lifted (os : Os) (started : os.Started) (H : Type) (enc : TypeId × Value → H) :
    ReturnsInHanded {} Try.checked os 4 .any (Rows.amapActsSpec.pre6 enc Try.prog Try.f4 Rows.amapActsRow.domain false) (Rows.amapActsSpec.post enc Try.prog Try.f4 false true false false) := by
  refine returnsInHanded_of_change (C := Try.checked) Try.own started (by kernel_rfl) Try.func4
    (ChangeSpec.witness6 (enc := enc) (C := Try.checked) false ⟨#[], #[.int .i64 0, .slice none 0 0, .int .i64 0], []⟩ 8 (by kernel_rfl) (by kernel_rfl) (by kernel_rfl) (by kernel_rfl)) ?_
  intro W base args ds gs before hval0 hW hcnd _
  have hval : ∀ (j : Nat) t v, Try.f4.params[j]? = some t → args[j]? = some v → Value.okWide Try.prog W .any base t v := hval0
  have hW' := hW
  obtain ⟨p, q, hA0, hV, rfl, hfz, hnd⟩ := hW
  have hA : DataW.TrodAll enc Try.prog W 0 (fun _ => true) true Try.f4.params.toList args.toList ds p := hA0
  rw [Try.params4] at hA hval
  obtain ⟨v0, v1, v2, d0, d1, d2, p0, p1, p2, rfl, rfl, rfl, h0, h1, h2⟩ := trodAll_three hA
  obtain ⟨rfl, rfl⟩ := trodVars_none hV
  obtain ⟨most, rfl, rfl, rfl, ws⟩ := open_int Try.underlying3 (hval 0 3 v0 rfl rfl) h0
  obtain ⟨look, rfl, rfl, rfl, wl⟩ := open_int Try.underlying3 (hval 2 3 v2 rfl rfl) h2
  obtain ⟨acts, hacts⟩ := open_acts (okWide_sl Try.underlying23 (hval 1 23 v1 rfl rfl)) h1
  simp only [List.append_nil] at hW'
  refine ((acts_spec W most look v1 acts hacts).h W [envC W] (sat_start W)).mono fun e W' ⟨u, L', ⟨hu, hL⟩, he, hS⟩ => ?_
  subst hu; subst hL; subst he
  dsimp only [List.cons_append, List.nil_append] at hS
  have hG : Grown W W' := grown_of hS
  have hstay : ∀ sp : Nat → Bool, (∀ x ∈ p1, sp x.block = true) → DataW.Trod enc Try.prog W' 0 sp true 23 v1 d1 p1 := fun sp hsp =>
    WideElems.Trod_stays Try.laidOut (by kernel_rfl) (of_decide_eq_true (by kernel_rfl)) h1 (fun x hx => same_of hS (hW'.lt x (by simpa using hx))) hsp
  exact ⟨_, rfl, post_of_same (pa := p1) (pv := []) hW' (fun _ _ _ => trodAll_mk1 (shut_bool Try.underlying4 true)) (fun sp hsp => by
      have ht := trodAll_mk3 (shut_int (H := H) (enc := enc) (w := W') (base := 0) (spare := sp) (held := true) Try.underlying3 ws) (hstay sp fun x hx => hsp x (by simpa using hx)) (shut_int (H := H) (enc := enc) (w := W') (base := 0) (spare := sp) (held := true) Try.underlying3 wl)
      rw [List.nil_append, List.append_nil] at ht; exact ht) (fun _ _ => rfl) (by simp)
    (hG.frame _) hG.2.1 (ok_one (by kernel_rfl) rfl (okWide_bool_mk Try.underlying4 true))⟩
theorem acts_holds : Rows.AmapActsSaid :=
  OpenClaim.holds_of_wide 4 Try.f4 rfl rfl rfl rfl rfl rfl rfl ⟨rfl, rfl, rfl, rfl, rfl⟩ rfl rfl rfl rfl rfl (by kernel_rfl) Try.func4 (by kernel_rfl)
    (of_decide_eq_true (by kernel_rfl)) (by unfold Func.isWrapper; rw [if_neg (by decide +kernel)]; exact ⟨rfl, rfl⟩)
    (fun os started H enc _ => acts_lifted os started H enc)

end Go.Proofs.Ytlgphhknfocfaaa
