import Derived.Test.YtlgphhknfocfaaaSlMake
namespace Go.Sl
section
variable {P : Program} {ro : Option Nat} {N : Nat} {ds : List Deferred} {lops : List Oper} {Q : Exit → Act → World → Prop} {rest : List Oper} {env env' : Env} {L R R0 : List HP}
variable {x y c ix : Operand} {d : Tmp} {t t2 tt s e e2 : TypeId} {p : String} {af : Array Edge}

/-! ### an element's address -/
theorem SXR.index {sz b off n cap : Nat} {kk : IntKind} {i : Int} (o : Nat) [hu : Und P t (.slice e)] [hsz : SizeT P e sz] (hx : ev2 env x ix = some (.slice (some ⟨b, off, none⟩) n cap, .int kk i)) (h0 : 0 ≤ i) (h1 : i < (n : Int)) (ho : off + i.toNat * sz = o)
    (k : SXR P ro N ds lops Q rest ((d, .pointer (some ⟨b, o, none⟩)) :: env) L) : SXR P ro N ds lops Q (⟨some d, .indexAddr t x ix, tt, p, af, none⟩ :: rest) env L := by
  subst ho
  refine SXR.val rfl (fun _ => by cases ro <;> rfl) (fun a w ha _ => ?_) k
  obtain ⟨q1, q2⟩ := ev2_some hx
  simp [execOp, ha.ev q1, ha.ev q2, Instr.indexAt, asIntOf, run_underlying hu.eq, h0, h1, hsz.size, Addr.add_eq]
/-- A load out of a row whose cells are a list of one's own spelling. -/
theorem SXL.row {b off : Nat} {vs : List Value} {T : TypeId} {fr : Nat × Nat} {v : Value} [ht : Scalar P t] [hf : FindB b L (.cells vs.toArray T fr) R] (h : vs[off]? = some v) (k : SXR P ro N ds lops Q rest ((d, v) :: env) L) : SXL P ro N ds lops Q t b off d rest env L :=
  SXL.at (fun w hw => by rw [cell_of (Sat.find (h := hf) hw), h]) k
/-- A store into such a row. -/
theorem SXS.row {b off : Nat} {vs : List Value} {T : TypeId} {v : Value} {C : Obj → List HP} [ht : Scalar P t] [hf : CtxB b L (.cells vs.toArray T (0, 0)) C] (hv : oneV v = true) (hlt : off < vs.length)
    (k : SXR P ro N ds lops Q rest env (C (.cells (vs.set off v).toArray T (0, 0)))) : SXS P ro N ds lops Q t b off v rest env L := SXS.at (by rw [← oneV_eq]; exact hv) hlt k
/-- A store of a whole struct into such a row. -/
theorem SXS.rowAgg {b off n : Nat} {vs cs : List Value} {T : TypeId} {C : Obj → List HP} [ht : SizeT P t n] [hf : CtxB b L (.cells vs.toArray T (0, 0)) C] (hv : ∀ y ∈ cs, y.oneCell' = true) (hn : cs.length = n) (hlt : off + cs.length ≤ vs.length)
    (k : SXR P ro N ds lops Q rest env (C (.cells (vs.take off ++ cs ++ vs.drop (off + cs.length)).toArray T (0, 0)))) : SXS P ro N ds lops Q t b off (.agg cs.toArray) rest env L :=
  ⟨by
    rintro _ ⟨x, y, s, p, af, rfl, hx, hy⟩
    refine SXR.step rfl (fun _ => by cases ro <;> rfl) fun a w ha hw => ?_
    obtain ⟨R, p1, p2⟩ := hf.perm
    have hb := (hw.perm p1).pts
    obtain ⟨w', r1, r2, r3, r4, r5⟩ := run_storeCells (P := P) cs 0 vs _ w hb (putL_eq cs vs (off + 0) hv (by omega))
    refine ⟨w', undef, _, .inr ⟨?_, rfl⟩, ((hw.perm p1).upd r2 r3 r4 r5).perm (p2 _), k⟩
    simp [execOp, ha.ev hx, ha.ev hy, Instr.storeAt, Instr.sureAddr, storeVar, ht.size, Value.cells, hn, r1]⟩

/-! ### struct and slice literals -/
@[reducible] def evParts (env : Env) : List (Nat × Operand) → Option (List (Nat × List Value))
  | [] => some []
  | (i, x) :: r => match evBox env x, evParts env r with
    | some cs, some l => some ((i, cs) :: l)
    | _, _ => none
theorem evParts_some {a : Act} (ha : Ag N ds env a) : ∀ {ps : List (Nat × Operand)} {l : List (Nat × List Value)}, evParts env ps = some l → ∃ vs : List (Nat × Value), ps.map (fun q => (q.1, a.eval q.2)) = vs ∧ vs.map (fun q => (q.1, q.2.cells)) = l.map fun q => (q.1, q.2.toArray)
  | [], l, h => by unfold evParts at h; cases h; exact ⟨[], rfl, rfl⟩
  | (i, x) :: r, l, h => by
    unfold evParts at h
    split at h
    · rename_i cs l' h1 h2
      cases h
      obtain ⟨v, hv, hc⟩ := evBox_some h1
      obtain ⟨vs, e1, e2⟩ := evParts_some ha h2
      exact ⟨(i, v) :: vs, by simp [e1, ha.ev hv], by simp [e2, hc]⟩
    · cases h
@[reducible] def fillL (pl : Nat → Option (Nat × Nat)) : List Value → List (Nat × List Value) → Option (List Value)
  | cs, [] => some cs
  | cs, (i, v) :: r => match pl i with
    | none => none
    | some (off, n) => match Nat.beq v.length n with
      | true => match putL cs off v with
        | some cs' => fillL pl cs' r
        | none => none
      | false => none
theorem putL_fold (off : Nat) : ∀ (v : List Value) (k : Nat) (cs cs' : List Value), putL cs (off + k) v = some cs' →
    (v.zipIdx k).foldl (fun a q => a.setIfInBounds (off + q.2) q.1) cs.toArray = cs'.toArray ∧ cs'.length = cs.length ∧ (v ≠ [] → off + k + v.length ≤ cs.length)
  | [], k, cs, cs', h => by unfold putL at h; cases h; simp
  | x :: r, k, cs, cs', h => by
    unfold putL at h
    split at h
    · split at h
      · rename_i vs1 h1
        obtain ⟨q1, q2⟩ := setL_some _ _ _ _ h1
        subst q1
        obtain ⟨e1, e2, e3⟩ := putL_fold off r (k + 1) _ cs' h
        refine ⟨?_, by simpa using e2, fun _ => ?_⟩
        · rw [List.zipIdx_cons, List.foldl_cons]
          simpa using e1
        · by_cases hr : r = []
          · subst hr; simp; omega
          · have := e3 hr; simp at this ⊢; omega
      · cases h
    · cases h
theorem fill_of (pl : Nat → Option (Nat × Nat)) : ∀ (l : List (Nat × List Value)) (vs : List (Nat × Value)) (cs cs' : List Value), vs.map (fun q => (q.1, q.2.cells)) = l.map (fun q => (q.1, q.2.toArray)) → (∀ i o n, pl i = some (o, n) → n ≠ 0) → fillL pl cs l = some cs' →
    Instr.fill pl cs.toArray vs = some cs'.toArray
  | [], vs, cs, cs', hv, _, h => by
    have : vs = [] := by simpa using hv
    subst this
    unfold fillL at h; cases h; rfl
  | (i, v) :: r, [], cs, cs', hv, _, h => by simp at hv
  | (i, v) :: r, (j, u) :: vs, cs, cs', hv, hp, h => by
    simp only [List.map_cons, List.cons.injEq, Prod.mk.injEq] at hv
    obtain ⟨⟨rfl, hu⟩, hv⟩ := hv
    unfold fillL at h
    split at h
    · cases h
    · rename_i off n hpl
      split at h
      · rename_i hn
        have hn : v.length = n := Nat.eq_of_beq_eq_true hn
        split at h
        · rename_i cs1 h1
          have hne : v ≠ [] := fun e => hp _ _ _ hpl (by rw [← hn, e]; rfl)
          obtain ⟨e1, e2, e3⟩ := putL_fold off v 0 cs cs1 h1
          have e3 := e3 hne
          unfold Instr.fill
          rw [hpl]
          simp only [hu, List.size_toArray]
          rw [if_neg (by simp [hn]; omega)]
          have : (v.toArray.zipIdx.foldl (fun cs x => match x with | (c, j) => cs.setIfInBounds (off + j) c) cs.toArray) = cs1.toArray := by
            rw [← Array.foldl_toList, Array.toList_zipIdx]
            exact e1
          rw [this]
          exact fill_of pl r vs cs1 cs' hv hp h
        · cases h
      · cases h
class Places (P : Program) (t : TypeId) (pl : outParam (List (Nat × Nat))) : Prop where
  run : ∃ fs : Array Field, P.underlying t = some (.struct fs) ∧ ∀ w, ((fs.mapM fun f => do pure (f.offset, ← sizeOf f.type)) : Sem (Array (Nat × Nat))).run P w = .ok pl.toArray w
  pos : pl.all (fun q => Nat.blt 0 q.2) = true
@[reducible] def nthP : List (Nat × Nat) → Nat → Option (Nat × Nat)
  | [], _ => none
  | v :: r, n => match n with
    | 0 => some v
    | m + 1 => nthP r m
theorem nthP_eq (l : List (Nat × Nat)) : ∀ n, nthP l n = l[n]? := by
  induction l with
  | nil => intro n; simp [nthP]
  | cons v r ih => intro n; cases n <;> simp [nthP, ih]
@[reducible] def evFill (env : Env) (pl : List (Nat × Nat)) (zs : List Value) (ps : List (Nat × Operand)) : Option (List Value) :=
  match evParts env ps with
  | some l => fillL (nthP pl) zs l
  | none => none
/-- A struct's literal. -/
instance {ps : List (Nat × Operand)} {pl : List (Nat × Nat)} {zs : List Value} [hz : ZeroT P t zs] [hp : Places P t pl] : Go (SXR P ro N ds lops Q (⟨some d, .build t ps.toArray, tt, p, af, none⟩ :: rest) env L) (List Value) Unit Unit
    (fun v a b => (match evFill env pl zs ps with | some v => some (v, (), ()) | none => none) = some (v, a, b)) (fun v _ _ => SXR P ro N ds lops Q rest ((d, .agg v.toArray) :: env) L) :=
  ⟨fun v _ _ e k => SXR.val rfl (fun _ => by cases ro <;> rfl) (fun a w ha _ => by
    have h : evFill env pl zs ps = some v := by split at e <;> simp_all
    unfold evFill at h
    split at h
    · rename_i l hl
      obtain ⟨vs, e1, e2⟩ := evParts_some ha hl
      obtain ⟨z, hz1, hz2⟩ := hz.zero
      obtain ⟨fs, hf1, hf2⟩ := hp.run
      have hfill := fill_of (nthP pl) l vs zs v e2 (fun i o n hi => by
        rw [nthP_eq] at hi
        have := List.all_eq_true.1 hp.pos _ (List.mem_of_getElem? hi)
        simp at this; omega) h
      have hpl : (fun i => pl.toArray[i]?) = nthP pl := by funext i; simp [nthP_eq]
      simp only [execOp, Instr.build, Sem.run_bind, hz1, Result.andThen_ok, run_underlying hf1, hf2, Sem.run_pure]
      rw [show (ps.toArray.map fun (i, x) => (i, a.eval x)).toList = vs from by simpa using e1, hz2, hpl, hfill]
      rfl
    · cases h) k⟩
/-- A slice's literal: each element in its place. -/
instance {ps : List (Nat × Operand)} {len sz : Nat} {zs : List Value} [hu : Und P t (.slice e)] [hsz : SizeT P e sz] [hz : ZeroT P e zs] : Go (SXR P ro N ds lops Q (⟨some d, .buildSlice t len ps.toArray, tt, p, af, none⟩ :: rest) env L) (List Value) Unit Unit
    (fun v a b => (match Nat.beq zs.length sz, Nat.blt 0 sz, Nat.ble (len * sz) 16777216, evParts env ps with | true, true, true, some l => (match fillL (fun i => some (i * sz, sz)) (zerosL zs len) l with | some v => some (v, (), ()) | none => none) | _, _, _, _ => none) = some (v, a, b))
    (fun v _ _ => ∀ b, SXR P ro N ds lops Q rest ((d, .slice (some ⟨b, 0, none⟩) len len) :: env) (pts b (.cells v.toArray e (0, 0)) :: L)) :=
  ⟨fun v _ _ h k => SXR.step rfl (fun _ => by cases ro <;> rfl) fun a w ha hw => by
    split at h
    · rename_i l h1 h2 h3 hl
      have h1 : zs.length = sz := Nat.eq_of_beq_eq_true h1
      have h2 : 0 < sz := by simpa using h2
      have h3 : len * sz ≤ 16777216 := Nat.le_of_ble_eq_true h3
      have hf : fillL (fun i => some (i * sz, sz)) (zerosL zs len) l = some v := by split at h <;> simp_all
      obtain ⟨vs, e1, e2⟩ := evParts_some ha hl
      obtain ⟨z, hz1, hz2⟩ := hz.zero
      have hfill := fill_of (fun i => some (i * sz, sz)) l vs _ v e2 (fun i o n hi => by simp at hi; omega) hf
      refine ⟨w.alloc (.cells v.toArray e (0, 0)), _, _, .inl ?_, hw.new (o := .cells v.toArray e (0, 0)) rfl, k w.heap.size⟩
      simp only [execOp, Instr.buildSlice, Sem.run_bind, run_underlying hu.eq, Result.andThen_ok, hsz.size, Sem.run_ite]
      rw [if_neg (by omega)]
      rw [show (ps.toArray.map fun (i, x) => (i, a.eval x)).toList = vs from by simpa using e1]
      have key : ∀ zero : Array Value, (len * sz = 0 ∨ zero = zs.toArray) → Array.map (fun x => zero[x % zero.size]!) (Array.range (len * sz)) = (zerosL zs len).toArray := by
        intro zero hz
        apply Array.ext'
        simp only [zerosL, h1, Array.toList_map, Array.toList_range]
        rcases hz with h | rfl
        · simp [h]
        · apply List.map_congr_left
          intro x _
          have : x % zs.length < zs.length := Nat.mod_lt _ (by omega)
          simp [h1, List.getD, List.getElem?_eq_getElem (show x % sz < zs.length by rw [← h1]; exact this)]
      split
      · rename_i h0
        simp only [Sem.run_bind, Sem.run_pure, Result.andThen_ok, key #[] (.inl h0), hfill]
        simp [newRow]
      · simp only [Sem.run_bind, Sem.run_pure, Result.andThen_ok, hz1, hz2, key zs.toArray (.inr rfl), hfill]
        simp [newRow]
    · cases h⟩
end
end Go.Sl
