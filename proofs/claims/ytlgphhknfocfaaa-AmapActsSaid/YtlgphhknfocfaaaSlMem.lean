import Derived.Test.YtlgphhknfocfaaaSlOps
namespace Go.Sl
section
variable {P : Program} {ro : Option Nat} {N : Nat} {ds : List Deferred} {lops : List Oper} {Q : Exit → Act → World → Prop} {rest : List Oper} {env : Env} {L R : List HP}
variable {x y c ix : Operand} {d : Tmp} {i : Nat} {fn : Fn} {t s t2 : TypeId} {p : String} {af : Array Edge} {xs ys : List Operand}

/-! ### stores -/
structure SXS (P : Program) (ro : Option Nat) (N : Nat) (ds : List Deferred) (lops : List Oper) (Q : Exit → Act → World → Prop) (t : TypeId) (b off : Nat) (v : Value) (rest : List Oper) (env : Env) (L : List HP) : Prop where
  h : ∀ o : Oper, (∃ x y s p af, o = ⟨none, .store t x y, s, p, af, none⟩ ∧ ev env x = some (.pointer (some ⟨b, off, none⟩)) ∧ ev env y = some v) → SXR P ro N ds lops Q (o :: rest) env L
@[reducible] def evStore (env : Env) (x y : Operand) : Option (Nat × Nat × Value) :=
  match ev env x with
  | some (.pointer (some ⟨b, off, none⟩)) => match ev env y with
    | some v => some (b, off, v)
    | none => none
  | _ => none
theorem evStore_some {b off : Nat} {v : Value} (h : evStore env x y = some (b, off, v)) : ev env x = some (.pointer (some ⟨b, off, none⟩)) ∧ ev env y = some v := by
  unfold evStore at h; split at h
  · rename_i e; split at h
    · rename_i e2; cases h; exact ⟨e, e2⟩
    · cases h
  · cases h
instance : Go (SXR P ro N ds lops Q (⟨none, .store t x y, s, p, af, none⟩ :: rest) env L) Nat Nat Value (fun b o v => evStore env x y = some (b, o, v)) (fun b o v => SXS P ro N ds lops Q t b o v rest env L) :=
  ⟨fun _ _ _ e k => k.h _ ⟨x, y, s, p, af, rfl, evStore_some e⟩⟩

theorem setCell_heap {w : World} {b off : Nat} {vs : List Value} {T : TypeId} {fr : Nat × Nat} {v : Value} (h : w.heap[b]? = some (.cells vs.toArray T fr)) :
    (w.setCell ⟨b, off, none⟩ v).heap[b]? = some (.cells (vs.set off v).toArray T fr) ∧ ∀ x, x ≠ b → (w.setCell ⟨b, off, none⟩ v).heap[x]? = w.heap[x]? := by
  refine ⟨?_, fun x hx => ?_⟩
  · simp [World.setCell, Array.getElem?_modify, h]
  · simp [World.setCell, Array.getElem?_modify, Ne.symm hx]
theorem run_store1 {w : World} {b off : Nat} {vs : List Value} {T : TypeId} {v : Value} (h : w.heap[b]? = some (.cells vs.toArray T (0, 0))) (hlt : off < vs.length) (hv : v.oneCell' = true) :
    (store ⟨b, off, none⟩ v).run P w = .ok () (w.setCell ⟨b, off, none⟩ v) := by
  rw [run_store _ _ _ _ _ hv, cell_of h, List.getElem?_eq_getElem hlt]
  simp [World.frozen?, h]
theorem cells_one {v : Value} (hv : v.oneCell' = true) : v.cells = #[v] := by cases v <;> first | rfl | cases hv

/-- A store of one cell. -/
theorem SXS.at {b off : Nat} {vs : List Value} {T : TypeId} {v : Value} {C : Obj → List HP} [ht : Scalar P t] [hf : CtxB b L (.cells vs.toArray T (0, 0)) C] (hv : v.oneCell' = true) (hlt : off < vs.length)
    (k : SXR P ro N ds lops Q rest env (C (.cells (vs.set off v).toArray T (0, 0)))) : SXS P ro N ds lops Q t b off v rest env L :=
  ⟨by
    rintro _ ⟨x, y, s, p, af, rfl, hx, hy⟩
    refine SXR.step rfl (fun _ => by cases ro <;> rfl) fun a w ha hw => ?_
    obtain ⟨R, p1, p2⟩ := hf.perm
    have hb := (hw.perm p1).pts
    obtain ⟨g1, g2⟩ := setCell_heap (v := v) (off := off) hb
    refine ⟨w.setCell ⟨b, off, none⟩ v, undef, _, .inr ⟨?_, rfl⟩, ((hw.perm p1).upd g1 g2).perm (p2 _), k⟩
    simp [execOp, ha.ev hx, ha.ev hy, Instr.storeAt, Instr.sureAddr, storeVar, ht.size, cells_one hv, storeCells, Addr.add_eq, run_store1 hb hlt hv]⟩
instance {b off : Nat} {vs : List Value} {T : TypeId} {v : Value} {C : Obj → List HP} [ht : Scalar P t] [hf : CtxB b L (.cells vs.toArray T (0, 0)) C] : Go (SXS P ro N ds lops Q t b off v rest env L) (List Value) Unit Unit
    (fun vs' a c => (match oneV v with | true => (match setL vs off v with | some v => some (v, (), ()) | none => none) | false => none) = some (vs', a, c)) (fun vs' _ _ => SXR P ro N ds lops Q rest env (C (.cells vs'.toArray T (0, 0)))) :=
  ⟨fun vs' _ _ e k => by
    split at e
    · rename_i hv
      have h' : setL vs off v = some vs' := by split at e <;> simp_all
      obtain ⟨h1, h2⟩ := setL_some _ _ _ _ h'
      subst h1
      exact SXS.at (by rw [← oneV_eq]; exact hv) h2 k
    · cases e⟩

@[reducible] def putL : List Value → Nat → List Value → Option (List Value)
  | vs, _, [] => some vs
  | vs, n, v :: r => match oneV v with
    | true => match setL vs n v with
      | some vs' => putL vs' (n + 1) r
      | none => none
    | false => none
theorem run_storeCells {T : TypeId} {b off : Nat} : ∀ (r : List Value) (i : Nat) (vs vs' : List Value) (w : World), w.heap[b]? = some (.cells vs.toArray T (0, 0)) → putL vs (off + i) r = some vs' →
    ∃ w', (storeCells ⟨b, off, none⟩ r i).run P w = .ok () w' ∧ w'.heap[b]? = some (.cells vs'.toArray T (0, 0)) ∧ (∀ x, x ≠ b → w'.heap[x]? = w.heap[x]?) ∧ w'.os = w.os ∧ w'.output = w.output
  | [], i, vs, vs', w, h, e => by
    unfold putL at e; cases e
    exact ⟨w, by simp [storeCells], h, fun _ _ => rfl, rfl, rfl⟩
  | v :: r, i, vs, vs', w, h, e => by
    unfold putL at e
    split at e
    · rename_i hv
      split at e
      · rename_i vs1 h1
        obtain ⟨q1, q2⟩ := setL_some _ _ _ _ h1
        subst q1
        obtain ⟨g1, g2⟩ := setCell_heap (v := v) (off := off + i) h
        obtain ⟨w', r1, r2, r3, r4, r5⟩ := run_storeCells r (i + 1) _ vs' _ g1 e
        refine ⟨w', ?_, r2, fun x hx => (r3 x hx).trans (g2 x hx), r4, r5⟩
        simp [storeCells, Addr.add_eq, run_store1 h q2 (by rw [← oneV_eq]; exact hv), r1]
      · cases e
    · cases e
/-- A store of a whole struct. -/
instance {b off n : Nat} {vs cs : List Value} {T : TypeId} {C : Obj → List HP} [ht : SizeT P t n] [hf : CtxB b L (.cells vs.toArray T (0, 0)) C] : Go (SXS P ro N ds lops Q t b off (.agg cs.toArray) rest env L) (List Value) Unit Unit
    (fun vs' a c => (match Nat.beq cs.length n with | true => (match putL vs off cs with | some v => some (v, (), ()) | none => none) | false => none) = some (vs', a, c)) (fun vs' _ _ => SXR P ro N ds lops Q rest env (C (.cells vs'.toArray T (0, 0)))) :=
  ⟨fun vs' _ _ e k => ⟨by
    rintro _ ⟨x, y, s, p, af, rfl, hx, hy⟩
    refine SXR.step rfl (fun _ => by cases ro <;> rfl) fun a w ha hw => ?_
    obtain ⟨R, p1, p2⟩ := hf.perm
    have hb := (hw.perm p1).pts
    split at e
    · rename_i hn
      have hn : cs.length = n := Nat.eq_of_beq_eq_true hn
      have h' : putL vs (off + 0) cs = some vs' := by split at e <;> simp_all
      obtain ⟨w', r1, r2, r3, r4, r5⟩ := run_storeCells (P := P) cs 0 vs vs' w hb h'
      refine ⟨w', undef, _, .inr ⟨?_, rfl⟩, ((hw.perm p1).upd r2 r3 r4 r5).perm (p2 _), k⟩
      simp [execOp, ha.ev hx, ha.ev hy, Instr.storeAt, Instr.sureAddr, storeVar, ht.size, Value.cells, hn, r1]
    · cases e⟩⟩

/-! ### new memory -/
instance {zs : List Value} [hz : ZeroT P t zs] : Go (SXR P ro N ds lops Q (⟨some d, .alloc t, s, p, af, none⟩ :: rest) env L) Unit Unit Unit (fun a b c => ((), (), ()) = (a, b, c))
    (fun _ _ _ => ∀ b, SXR P ro N ds lops Q rest ((d, .pointer (some ⟨b, 0, none⟩)) :: env) (pts b (.cells zs.toArray t (0, 0)) :: L)) :=
  ⟨fun _ _ _ _ k => SXR.step rfl (fun _ => by cases ro <;> rfl) fun a w ha hw => by
    obtain ⟨z, h1, h2⟩ := hz.zero
    refine ⟨_, _, _, .inl ?_, hw.new (o := .cells zs.toArray t (0, 0)) (w' := { w with heap := w.heap.push (.cells zs.toArray t (0, 0)) }) rfl, k w.heap.size⟩
    simp [execOp, Instr.alloc, h1, newVar, newRow, h2]⟩
@[reducible] def cellsL : Value → List Value
  | .agg ⟨cs⟩ => cs
  | v => [v]
theorem cellsL_eq (v : Value) : v.cells = (cellsL v).toArray := by cases v <;> rfl
@[reducible] def evBox (env : Env) (x : Operand) : Option (List Value) :=
  match ev env x with
  | some (.agg ⟨cs⟩) => some cs
  | some (.int k n) => some [.int k n]
  | some (.bool b) => some [.bool b]
  | some (.pointer a) => some [.pointer a]
  | some (.slice a n c) => some [.slice a n c]
  | some (.map a) => some [.map a]
  | some (.func a b c) => some [.func a b c]
  | some .nilFunc => some [.nilFunc]
  | some (.string b) => some [.string b]
  | _ => none
theorem evBox_some {cs : List Value} (h : evBox env x = some cs) : ∃ v, ev env x = some v ∧ v.cells = cs.toArray := by
  unfold evBox at h
  split at h <;> (first | (cases h; done) | (rename_i e; cases h; exact ⟨_, e, rfl⟩))
instance : Go (SXR P ro N ds lops Q (⟨some d, .box t x, s, p, af, none⟩ :: rest) env L) (List Value) Unit Unit (fun v a b => (match evBox env x with | some v => some (v, (), ()) | none => none) = some (v, a, b))
    (fun v _ _ => ∀ b, SXR P ro N ds lops Q rest ((d, .pointer (some ⟨b, 0, none⟩)) :: env) (pts b (.cells v.toArray t (0, 0)) :: L)) :=
  ⟨fun v _ _ e k => SXR.step rfl (fun _ => by cases ro <;> rfl) fun a w ha hw => by
    have h' : evBox env x = some v := by split at e <;> simp_all
    obtain ⟨u, h1, h2⟩ := evBox_some h'
    refine ⟨_, _, _, .inl ?_, hw.new (o := .cells v.toArray t (0, 0)) (w' := { w with heap := w.heap.push (.cells v.toArray t (0, 0)) }) rfl, k w.heap.size⟩
    simp [execOp, Instr.box, ha.ev h1, newVar, newRow, h2]⟩

/-! ### built-in functions -/
instance {e : TypeId} {tt : TypeId} [h : Und P t (.slice e)] : Go (SXR P ro N ds lops Q (⟨some d, .call ⟨.builtin .len, [x].toArray, [t].toArray⟩, tt, p, af, none⟩ :: rest) env L) Nat Unit Unit
    (fun n b c => (match ev env x with | some (.slice _ n _) => some (n, (), ()) | _ => none) = some (n, b, c)) (fun n _ _ => SXR P ro N ds lops Q rest ((d, .int .i64 n) :: env) L) :=
  ⟨fun n _ _ e k => SXR.val rfl (fun _ => by cases ro <;> rfl) (fun A w ha _ => by
    have h0 : ∃ a c, ev env x = some (.slice a n c) := by split at e <;> simp_all
    obtain ⟨a, c, h0⟩ := h0
    simp [execOp, resolve, invoke, builtin, Builtin.len_, ha.ev h0, run_underlying h.eq, goInt]) k⟩
instance {tt : TypeId} {ts : Array TypeId} : Go (SXR P ro N ds lops Q (⟨some d, .call ⟨.builtin .max, [x, y].toArray, ts⟩, tt, p, af, none⟩ :: rest) env L) IntKind Int Int
    (fun k a b => ev2 env x y = some (.int k a, .int k b)) (fun k a b => SXR P ro N ds lops Q rest ((d, .int k (max a b)) :: env) L) :=
  ⟨fun k a b e k' => SXR.val rfl (fun _ => by cases ro <;> rfl) (fun A w ha _ => by
    obtain ⟨h1, h2⟩ := int2 e ha
    simp [execOp, resolve, invoke, builtin, Builtin.max_, Builtin.max2, h1, h2]
    split <;> omega) k'⟩
instance {tt : TypeId} {ts : Array TypeId} : Go (SXR P ro N ds lops Q (⟨some d, .call ⟨.builtin .min, [x, y].toArray, ts⟩, tt, p, af, none⟩ :: rest) env L) IntKind Int Int
    (fun k a b => ev2 env x y = some (.int k a, .int k b)) (fun k a b => SXR P ro N ds lops Q rest ((d, .int k (min a b)) :: env) L) :=
  ⟨fun k a b e k' => SXR.val rfl (fun _ => by cases ro <;> rfl) (fun A w ha _ => by
    obtain ⟨h1, h2⟩ := int2 e ha
    simp [execOp, resolve, invoke, builtin, Builtin.min_, Builtin.min2, h1, h2]
    split <;> omega) k'⟩

/-! ### calls -/
structure Tri (P : Program) (f : FuncId) (args : List Value) (pre : List HP) (Post : Value → List HP → Prop) : Prop where
  h : ∀ w R, Sat w (pre ++ R) → Calls P f args.toArray w fun e w' => ∃ v L', Post v L' ∧ e = .returned v ∧ Sat w' (L' ++ R)
/-- A call by its contract. -/
theorem SXR.call {f : FuncId} {pre : List HP} {vs : List Value} {Post : Value → List HP → Prop} {tt : TypeId} {ts : Array TypeId} [hc : CalF P f] (spec : Tri P f vs pre Post) (hargs : evs env xs = some vs) [hp : Picks pre L R]
    (k : ∀ v L', Post v L' → SXR P ro N ds lops Q rest ((d, v) :: env) (L' ++ R)) : SXR P ro N ds lops Q (⟨some d, .call ⟨.value (.func f), xs.toArray, ts⟩, tt, p, af, none⟩ :: rest) env L := by
  refine ⟨fun hb a w ha hw => ?_⟩
  simp only [List.all_cons, Bool.and_eq_true] at hb
  unfold wpListIn
  rw [if_pos (by simp [Region.wanted])]
  refine ⟨fun _ _ => trivial, ?_⟩
  have hrun : (execOp a.eval ⟨some d, .call ⟨.value (.func f), xs.toArray, ts⟩, tt, p, af, none⟩).run P w = .ok (.enter f vs.toArray) w := by
    simp [execOp, resolve, Deferred.ofValue, invoke, Act.eval, hc.run, ha.evs hargs]
  rw [show ∀ ρ, Oper.semAt (wideR ro).round ρ ⟨some d, .call ⟨.value (.func f), xs.toArray, ts⟩, tt, p, af, none⟩ = execOp ρ ⟨some d, .call ⟨.value (.func f), xs.toArray, ts⟩, tt, p, af, none⟩ from fun _ => by cases ro <;> rfl, hrun]
  refine ⟨by simp [wideR, Fence.wide], callsIn_wideR ?_⟩
  obtain h := spec.h w R (hw.perm hp.perm)
  intro cs
  obtain ⟨e, w', fr, ⟨v, L', hP, he, hS⟩, rest'⟩ := h cs
  subst he
  exact ⟨.returned v, w', fr, (k v L' hP).h hb.2 _ _ (ha.put (d := some d) hb.1 v) hS, rest'⟩
/-- A call whose contract gives one value and one state. -/
theorem SXR.callF {f : FuncId} {pre post L' : List HP} {vs : List Value} {v : Value} {tt : TypeId} {ts : Array TypeId} [hc : CalF P f] (spec : Tri P f vs pre (fun u l => u = v ∧ l = post)) (hargs : evs env xs = some vs) [hp : Picks pre L R] [ha : App post R L']
    (k : SXR P ro N ds lops Q rest ((d, v) :: env) L') : SXR P ro N ds lops Q (⟨some d, .call ⟨.value (.func f), xs.toArray, ts⟩, tt, p, af, none⟩ :: rest) env L :=
  SXR.call spec hargs (by rintro _ _ ⟨rfl, rfl⟩; rw [ha.eq]; exact k)

end
end Go.Sl
