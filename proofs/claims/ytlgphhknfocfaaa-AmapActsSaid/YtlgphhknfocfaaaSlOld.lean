import Derived.Test.YtlgphhknfocfaaaSlRow
namespace Go.Sl
section
variable {P : Program} {ro : Option Nat} {N : Nat} {ds : List Deferred} {lops : List Oper} {Q : Exit → Act → World → Prop} {rest : List Oper} {env env' : Env} {L R R0 : List HP}
variable {x y c ix : Operand} {d : Tmp} {t t2 tt s e e2 : TypeId} {p : String} {af : Array Edge}

/-! ### what was there when the call began -/
def old (W : World) : HP := fun m => ∀ b o, W.heap[b]? = some o → m (b + 1) = some (.obj o)
theorem old_heap {W w : World} {b : Nat} {o : Obj} [hp : Pick (old W) L R] (hw : Sat w L) (h : W.heap[b]? = some o) : w.heap[b]? = some o := by
  obtain ⟨m1, m2, h1, h2, hd, hA, hL⟩ := hw.perm hp.perm
  exact heapOf_succ (h1 (b + 1) _ (hA b o h))
theorem old_cell {W w : World} {a : Addr} {v : Value} [hp : Pick (old W) L R] (hw : Sat w L) (h : W.cell? a = some v) : w.cell? a = some v := by
  unfold World.cell? at h ⊢
  cases ho : W.heap[a.block]? with
  | none => rw [ho] at h; cases h
  | some o => rw [ho] at h; rw [old_heap (hp := hp) hw ho]; exact h
theorem SXL.old {W : World} {b off : Nat} {v : Value} [ht : Scalar P t] [hp : Pick (Sl.old W) L R] (h : W.cell? ⟨b, off, none⟩ = some v) (k : SXR P ro N ds lops Q rest ((d, v) :: env) L) : SXL P ro N ds lops Q t b off d rest env L :=
  SXL.at (fun _ hw => old_cell (hp := hp) hw h) k
theorem loadCells_cells {w : World} {b off : Nat} : ∀ (vs : List Value) (i : Nat) (acc : Array Value), (∀ j v, vs[j]? = some v → w.cell? ⟨b, off + i + j, none⟩ = some v) → (loadCellsFrom ⟨b, off, none⟩ i vs.length acc).run P w = .ok (acc ++ vs.toArray) w
  | [], i, acc, _ => by simp [loadCellsFrom]
  | v :: r, i, acc, h => by
    have h0 := h 0 v rfl
    simp only [List.length_cons, loadCellsFrom, Sem.run_bind, run_load, Addr.add_eq]
    rw [show off + i = off + i + 0 from rfl, h0]
    simp only [Result.andThen_ok]
    rw [loadCells_cells r (i + 1) _ (fun j u hj => by have := h (j + 1) u hj; rw [show off + (i + 1) + j = off + i + (j + 1) by omega]; exact this)]
    congr 1
    apply Array.ext'; simp
theorem SXL.aggOld {W : World} {b off n : Nat} {vs : List Value} [ht : AggT P t n] [hp : Pick (Sl.old W) L R] (hn : vs.length = n) (h : ∀ j v, vs[j]? = some v → W.cell? ⟨b, off + j, none⟩ = some v)
    (k : SXR P ro N ds lops Q rest ((d, .agg vs.toArray) :: env) L) : SXL P ro N ds lops Q t b off d rest env L :=
  ⟨by
    rintro _ ⟨x, s, p, af, rfl, hx⟩
    exact SXR.val rfl (fun _ => by cases ro <;> rfl) (fun a w ha hw => by
      have := loadCells_cells (P := P) (w := w) (b := b) (off := off) vs 0 #[] (fun j v hj => old_cell (hp := hp) hw (h j v hj))
      rw [hn] at this
      simp [execOp, ha.ev hx, Instr.loadAt, Instr.sureAddr, loadVar, ht.agg, ht.size, loadCells, this]) k⟩

/-! ### slices of slices -/
variable {lo hi mx : Operand}
theorem run_bound {k : IntKind} {i : Int} {n : Nat} {code : BoundsCode} {w : World} (h0 : 0 ≤ i) (h1 : i ≤ n) : (Instr.sliceBound (.int k i) n code).run P w = .ok i.toNat w := by
  simp [Instr.sliceBound, asIntOf, h0, h1]
/-- nil[:0] -/
theorem SXR.sliceNil {k : IntKind} [hu : Und P t (.slice e)] {sz : Nat} [hsz : SizeT P e sz] (hx : ev2 env x hi = some (.slice none 0 0, .int k ((0 : Nat) : Int))) (k' : SXR P ro N ds lops Q rest ((d, .slice none 0 0) :: env) L) :
    SXR P ro N ds lops Q (⟨some d, .slice t x none (some hi) none, tt, p, af, none⟩ :: rest) env L :=
  SXR.val rfl (fun _ => by cases ro <;> rfl) (fun A w ha _ => by
    obtain ⟨q1, q2⟩ := ev2_some hx
    have := run_bound (P := P) (k := k) (i := ((0 : Nat) : Int)) (n := 0) (code := .sliceAcap) (w := w) (by omega) (by omega)
    simp only [execOp, Instr.sliceAt, Instr.slice, Instr.sliceBounds, Option.map_none, Option.map_some, ha.ev q1, ha.ev q2, Sem.run_bind, run_underlying hu.eq, Result.andThen_ok, Sem.run_pure, if_true, this, hsz.size]
    simp) k'
/-- x[:hi] -/
theorem SXR.sliceHi {k : IntKind} {b off n cap : Nat} {i : Int} (m : Nat) [hu : Und P t (.slice e)] {sz : Nat} [hsz : SizeT P e sz] (hx : ev2 env x hi = some (.slice (some ⟨b, off, none⟩) n cap, .int k i)) (h0 : i = (m : Int)) (h1 : m ≤ cap) (k' : SXR P ro N ds lops Q rest ((d, .slice (some ⟨b, off, none⟩) m cap) :: env) L) :
    SXR P ro N ds lops Q (⟨some d, .slice t x none (some hi) none, tt, p, af, none⟩ :: rest) env L :=
  SXR.val rfl (fun _ => by cases ro <;> rfl) (fun A w ha _ => by
    subst h0
    obtain ⟨q1, q2⟩ := ev2_some hx
    have := run_bound (P := P) (k := k) (i := (m : Int)) (n := cap) (code := .sliceAcap) (w := w) (by omega) (by omega)
    simp only [execOp, Instr.sliceAt, Instr.slice, Instr.sliceBounds, Option.map_none, Option.map_some, ha.ev q1, ha.ev q2, Sem.run_bind, run_underlying hu.eq, Result.andThen_ok, Sem.run_pure, if_true, this, hsz.size]
    simp [Addr.add]) k'
/-- x[lo:] -/
theorem SXR.sliceLo {k : IntKind} {b off n cap : Nat} {i : Int} (m o : Nat) [hu : Und P t (.slice e)] {sz : Nat} [hsz : SizeT P e sz] (hx : ev2 env x lo = some (.slice (some ⟨b, off, none⟩) n cap, .int k i)) (h0 : i = (m : Int)) (h1 : m ≤ n) (ho : o = if cap = m then off else off + m * sz)
    (k' : SXR P ro N ds lops Q rest ((d, .slice (some ⟨b, o, none⟩) (n - m) (cap - m)) :: env) L) : SXR P ro N ds lops Q (⟨some d, .slice t x (some lo) none none, tt, p, af, none⟩ :: rest) env L :=
  SXR.val rfl (fun _ => by cases ro <;> rfl) (fun A w ha _ => by
    subst h0; subst ho
    obtain ⟨q1, q2⟩ := ev2_some hx
    have := run_bound (P := P) (k := k) (i := (m : Int)) (n := n) (code := .sliceB) (w := w) (by omega) (by omega)
    simp only [execOp, Instr.sliceAt, Instr.slice, Instr.sliceBounds, Option.map_none, Option.map_some, ha.ev q1, ha.ev q2, Sem.run_bind, run_underlying hu.eq, Result.andThen_ok, Sem.run_pure, if_true, Option.isSome_none, Bool.false_eq_true, if_false, this, hsz.size]
    simp only [Int.toNat_natCast]
    split <;> simp_all [Addr.add_eq]) k'
/-- x[lo:hi] -/
theorem SXR.sliceLoHi {k k2 : IntKind} {b off n cap : Nat} {i j : Int} (m m2 o : Nat) [hu : Und P t (.slice e)] {sz : Nat} [hsz : SizeT P e sz] (hx : ev2 env x lo = some (.slice (some ⟨b, off, none⟩) n cap, .int k i)) (hy : ev env hi = some (.int k2 j)) (h0 : i = (m : Int)) (h02 : j = (m2 : Int)) (h1 : m ≤ m2) (h2 : m2 ≤ cap) (ho : o = if cap = m then off else off + m * sz)
    (k' : SXR P ro N ds lops Q rest ((d, .slice (some ⟨b, o, none⟩) (m2 - m) (cap - m)) :: env) L) : SXR P ro N ds lops Q (⟨some d, .slice t x (some lo) (some hi) none, tt, p, af, none⟩ :: rest) env L :=
  SXR.val rfl (fun _ => by cases ro <;> rfl) (fun A w ha _ => by
    subst h0; subst h02; subst ho
    obtain ⟨q1, q2⟩ := ev2_some hx
    have t1 := run_bound (P := P) (k := k2) (i := (m2 : Int)) (n := cap) (code := .sliceAcap) (w := w) (by omega) (by omega)
    have t2 := run_bound (P := P) (k := k) (i := (m : Int)) (n := m2) (code := .sliceB) (w := w) (by omega) (by omega)
    simp only [execOp, Instr.sliceAt, Instr.slice, Instr.sliceBounds, Option.map_none, Option.map_some, ha.ev q1, ha.ev q2, ha.ev hy, Sem.run_bind, run_underlying hu.eq, Result.andThen_ok, Sem.run_pure, if_true, Option.isSome_none, Bool.false_eq_true, if_false, t1, t2, hsz.size, Int.toNat_natCast]
    split <;> simp_all [Addr.add_eq]) k'
/-- x[:hi:mx] -/
theorem SXR.slice3 {k k2 : IntKind} {b off n cap : Nat} {i j : Int} (m m2 : Nat) [hu : Und P t (.slice e)] {sz : Nat} [hsz : SizeT P e sz] (hx : ev2 env x hi = some (.slice (some ⟨b, off, none⟩) n cap, .int k i)) (hy : ev env mx = some (.int k2 j)) (h0 : i = (m : Int)) (h02 : j = (m2 : Int)) (h1 : m ≤ m2) (h2 : m2 ≤ cap)
    (k' : SXR P ro N ds lops Q rest ((d, .slice (some ⟨b, off, none⟩) m m2) :: env) L) : SXR P ro N ds lops Q (⟨some d, .slice t x none (some hi) (some mx), tt, p, af, none⟩ :: rest) env L :=
  SXR.val rfl (fun _ => by cases ro <;> rfl) (fun A w ha _ => by
    subst h0; subst h02
    obtain ⟨q1, q2⟩ := ev2_some hx
    have t1 := run_bound (P := P) (k := k2) (i := (m2 : Int)) (n := cap) (code := .slice3Acap) (w := w) (by omega) (by omega)
    have t2 := run_bound (P := P) (k := k) (i := (m : Int)) (n := m2) (code := .slice3B) (w := w) (by omega) (by omega)
    simp only [execOp, Instr.sliceAt, Instr.slice, Instr.sliceBounds, Option.map_none, Option.map_some, ha.ev q1, ha.ev q2, ha.ev hy, Sem.run_bind, run_underlying hu.eq, Result.andThen_ok, Sem.run_pure, if_true, t1, t2, hsz.size, Int.toNat_natCast]
    simp [Addr.add]) k'
end
end Go.Sl
