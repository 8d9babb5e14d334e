import Derived.Test.YtlgphhknfocfaaaActs
import Derived.ProofKit
namespace Go.Proofs.Ytlgphhknfocfaaa
open Go.Sl Go.ChangeShapes Go.WideShapes Go.ChangeAt Go.RowKit

theorem Try.own : ownKnob Try.prog.godebug = none := by kernel_rfl
theorem Try.laidOut : laidOutB Try.prog = true := by kernel_rfl

theorem open_acts {H : Type} {enc : TypeId × Value → H} {W : World} {base : Nat} {spare : Nat → Bool} {held : Bool} {v : Value} {d : DataW H} {p : List MemPlace} (hv : ∀ c, v ≠ .agg c) (h : DataW.Trod enc Try.prog W base spare held 23 v d p) : ∃ acts, ActsAt W v acts := by
  obtain ⟨fuel, h⟩ := h
  have hc : Try.prog.cellsOf 32 = 4 := by kernel_rfl
  rcases DataW.trod_slice Try.underlying23 h with ⟨h0, _⟩ | ⟨a, len, cap, elems, rest, n, _, h0, _, hb, hl, hm, hlen, hel, _, _⟩
  · have : v = .slice none 0 0 := by
      cases v with
      | agg c => exact absurd rfl (hv c)
      | _ => simp [Value.cells] at h0; try (obtain ⟨rfl, rfl, rfl⟩ := h0; rfl)
    subst this
    exact ⟨[], ⟨⟨_, _, rfl⟩, fun h => absurd h (Nat.lt_irrefl 0)⟩⟩
  · have : v = .slice (some a) len cap := by
      cases v with
      | agg c => exact absurd rfl (hv c)
      | _ => simp [Value.cells] at h0; try (obtain ⟨rfl, rfl, rfl⟩ := h0; rfl)
    subst this
    obtain ⟨l, hll, hp⟩ := choose_list (p := fun i (x : Ac) => ∀ j u, (Ac.cells x)[j]? = some u → W.cell? (a.add (i * 4 + j)) = some u) len (fun i hi => by
      have h1 := hel i hi
      rw [hc] at h1
      have hx : ∃ y, elems[i]? = some y := ⟨elems[i]'(by omega), List.getElem?_eq_getElem (by omega)⟩
      obtain ⟨y, hy⟩ := hx
      rw [hy, Option.bind_eq_some_iff] at h1
      obtain ⟨cs, hcs, ht⟩ := h1
      obtain ⟨_, hcl, hcell⟩ := World.cells?_some hcs
      obtain ⟨xs, m, _, _, _, hxl, hf⟩ := DataW.trod_struct Try.underlying32 ht
      have fld : ∀ j, j < 4 → ∃ z, cs[j]? = some (.int .i64 z) := by
        intro j hj
        have hxj : ∃ y, xs[j]? = some y := ⟨xs[j]'(by rw [hxl]; exact hj), List.getElem?_eq_getElem (by rw [hxl]; exact hj)⟩
        obtain ⟨y, hy⟩ := hxj
        have h2 : DataW.trod enc Try.prog W base spare held m 3 ((cs.drop j).take 1) = some y := by
          have hone : Try.prog.cellsOf 3 = 1 := by kernel_rfl
          rcases (show j = 0 ∨ j = 1 ∨ j = 2 ∨ j = 3 by omega) with rfl | rfl | rfl | rfl
          · have this : DataW.trod enc Try.prog W base spare held m 3 ((cs.drop 0).take (Try.prog.cellsOf 3)) = xs[0]? := hf 0 _ rfl
            rw [hone] at this; exact this.trans hy
          · have this : DataW.trod enc Try.prog W base spare held m 3 ((cs.drop 1).take (Try.prog.cellsOf 3)) = xs[1]? := hf 1 _ rfl
            rw [hone] at this; exact this.trans hy
          · have this : DataW.trod enc Try.prog W base spare held m 3 ((cs.drop 2).take (Try.prog.cellsOf 3)) = xs[2]? := hf 2 _ rfl
            rw [hone] at this; exact this.trans hy
          · have this : DataW.trod enc Try.prog W base spare held m 3 ((cs.drop 3).take (Try.prog.cellsOf 3)) = xs[3]? := hf 3 _ rfl
            rw [hone] at this; exact this.trans hy
        obtain ⟨z, hz, _⟩ := DataW.trod_int Try.underlying3 h2
        refine ⟨z, ?_⟩
        have : ((cs.drop j).take 1)[0]? = some (.int .i64 z) := by rw [hz]; rfl
        rwa [List.getElem?_take, if_pos (by omega), List.getElem?_drop, Nat.add_zero] at this
      obtain ⟨z0, h0⟩ := fld 0 (by omega)
      obtain ⟨z1, h1⟩ := fld 1 (by omega)
      obtain ⟨z2, h2⟩ := fld 2 (by omega)
      obtain ⟨z3, h3⟩ := fld 3 (by omega)
      refine ⟨⟨z0, z1, z2, z3⟩, fun j u hu => ?_⟩
      have hj : j < 4 := by have := (List.getElem?_eq_some_iff.1 hu).1; simpa [Ac.cells] using this
      have hcj := hcell j hj
      have e : (a.add (i * 4)).add j = a.add (i * 4 + j) := by
        unfold Addr.add
        split <;> split <;> split <;> simp_all <;> omega
      rw [e] at hcj
      rw [hcj]
      match j, hj with
      | 0, _ => rw [h0]; exact hu
      | 1, _ => rw [h1]; exact hu
      | 2, _ => rw [h2]; exact hu
      | 3, _ => rw [h3]; exact hu)
    subst hll
    exact ⟨l, acts_of_cells hp⟩
theorem okWide_sl {P : Program} {t e : TypeId} {w : World} {r : Reach} {base : Nat} {v : Value} (ht : P.underlying t = some (.slice e)) (h : Value.okWide P w r base t v) : ∀ c, v ≠ .agg c := by
  rintro c rfl
  simp [Value.okWide, ht, Cell.okWide, Cell.ok] at h
theorem same_of {W w : World} {L R : List HP} [hp : Pick (old W) L R] (h : Sat w L) {p : MemPlace} (hlt : p.block < W.heap.size) : W.sameAt w p := by
  have hb : w.heap[p.block]? = W.heap[p.block]? := by
    have ho : W.heap[p.block]? = some W.heap[p.block] := by simp [hlt]
    rw [ho]; exact old_heap (hp := hp) h ho
  cases p with
  | cell b o => exact World.cell?_of_block (w := W) hb
  | map b => exact hb
set_option maxRecDepth 100000 in
theorem covers_lifted (os : Os) (started : os.Started) (H : Type) (enc : TypeId × Value → H) :
    ReturnsInHanded {} Try.checked os 3 .any (Rows.amapCoversSpec.pre6 enc Try.prog Try.f3 Rows.amapCoversRow.domain false) (Rows.amapCoversSpec.post enc Try.prog Try.f3 false true false false) := by
  refine returnsInHanded_of_change (C := Try.checked) Try.own started (by kernel_rfl) Try.func3
    (ChangeSpec.witness6 (enc := enc) (C := Try.checked) false ⟨#[], #[.int .u64 0, .slice none 0 0], []⟩ 8 (by kernel_rfl) (by kernel_rfl) (by kernel_rfl) (by kernel_rfl)) ?_
  intro W base args ds gs before hval0 hW hcnd _
  have hval : ∀ (j : Nat) t v, Try.f3.params[j]? = some t → args[j]? = some v → Value.okWide Try.prog W .any base t v := hval0
  have hW' := hW
  obtain ⟨p, q, hA0, hV, rfl, hfz, hnd⟩ := hW
  have hA : DataW.TrodAll enc Try.prog W 0 (fun _ => true) true Try.f3.params.toList args.toList ds p := hA0
  rw [Try.params3] at hA hval
  obtain ⟨v0, v1, d0, d1, p0, p1, rfl, rfl, rfl, h0, h1⟩ := trodAll_two hA
  obtain ⟨rfl, rfl⟩ := trodVars_none hV
  obtain ⟨s, rfl, rfl, rfl, ws⟩ := open_int Try.underlying22 (hval 0 22 v0 rfl rfl) h0
  obtain ⟨acts, hacts⟩ := open_acts (okWide_sl Try.underlying23 (hval 1 23 v1 rfl rfl)) h1
  simp only [List.append_nil] at hW'
  have hs : 0 ≤ s ∧ s < 18446744073709551616 := by
    simp only [Lit.wf, Bool.and_eq_true, decide_eq_true_eq] at ws
    have h1 : IntKind.u64.min = 0 := rfl
    have h2 : IntKind.u64.max = 18446744073709551615 := rfl
    omega
  refine ((covers_spec W s hs v1 acts hacts).h W [envC W] (sat_start W)).mono fun e W' ⟨u, L', ⟨hu, hL⟩, he, hS⟩ => ?_
  subst hu; subst hL; subst he
  dsimp only [List.cons_append, List.nil_append] at hS
  have hG : Grown W W' := grown_of hS
  have hstay : ∀ sp : Nat → Bool, (∀ x ∈ p1, sp x.block = true) → DataW.Trod enc Try.prog W' 0 sp true 23 v1 d1 p1 := fun sp hsp =>
    WideElems.Trod_stays Try.laidOut (by kernel_rfl) (of_decide_eq_true (by kernel_rfl)) h1 (fun x hx => same_of hS (hW'.lt x (by simpa using hx))) hsp
  exact ⟨_, rfl, post_of_same (pa := p1) (pv := []) hW' (fun _ _ _ => trodAll_mk1 (shut_bool Try.underlying4 true)) (fun sp hsp => by
      have ht := trodAll_mk2 (shut_int (H := H) (enc := enc) (w := W') (base := 0) (spare := sp) (held := true) Try.underlying22 ws) (hstay sp fun x hx => hsp x (by simpa using hx))
      rw [List.nil_append] at ht; exact ht) (fun _ _ => rfl) (by simp)
    (hG.frame _) hG.2.1 (ok_one (by kernel_rfl) rfl (okWide_bool_mk Try.underlying4 true))⟩
theorem covers_holds : Rows.AmapCoversSaid :=
  OpenClaim.holds_of_wide 3 Try.f3 rfl rfl rfl rfl rfl rfl rfl ⟨rfl, rfl, rfl, rfl, rfl⟩ rfl rfl rfl rfl rfl (by kernel_rfl) Try.func3 (by kernel_rfl)
    (of_decide_eq_true (by kernel_rfl)) (by unfold Func.isWrapper; rw [if_neg (by decide +kernel)]; exact ⟨rfl, rfl⟩)
    (fun os started H enc _ => covers_lifted os started H enc)
end Go.Proofs.Ytlgphhknfocfaaa
