import Derived.Test.YtlgphhknfocfaaaSlBase
namespace Go.Sl

class Und (P : Program) (t : TypeId) (d : outParam TypeDesc) : Prop where
  eq : P.underlying t = some d
class Scalar (P : Program) (t : TypeId) : Prop where
  agg : ∀ w, (isAgg t).run P w = .ok false w
  size : ∀ w, (sizeOf t).run P w = .ok 1 w
class AggT (P : Program) (t : TypeId) (n : outParam Nat) : Prop where
  agg : ∀ w, (isAgg t).run P w = .ok true w
  size : ∀ w, (sizeOf t).run P w = .ok n w
class SizeT (P : Program) (t : TypeId) (n : outParam Nat) : Prop where
  size : ∀ w, (sizeOf t).run P w = .ok n w
class ZeroT (P : Program) (t : TypeId) (zs : outParam (List Value)) : Prop where
  zero : ∃ z, (∀ w, (zeroValue t).run P w = .ok z w) ∧ z.cells = zs.toArray
class ZeroV (P : Program) (t : TypeId) (z : outParam Value) : Prop where
  zero : ∀ w, (zeroValue t).run P w = .ok z w
class FOff (P : Program) (s : TypeId) (f : Nat) (o : outParam Nat) : Prop where
  run : ∀ (w : World) (a : Addr), (Instr.fieldAt s (.pointer (some a)) f).run P w = .ok (.pointer (some (a.add o))) w
class CalF (P : Program) (f : FuncId) : Prop where
  run : ∀ args w, (callFunc f args).run P w = .ok (.enter f args) w

theorem FOff.mk' {P : Program} {s : TypeId} {f : Nat} {fs : Array Field} {ty o n : Nat} (hs : P.underlying s = some (.struct fs)) (hf : (fs[f]?).map (fun d => (d.type, d.offset)) = some (ty, o)) (hz : ∀ w, (sizeOf ty).run P w = .ok (n + 1) w) :
    FOff P s f o := ⟨fun w a => by
  cases hx : fs[f]? with
  | none => rw [hx] at hf; cases hf
  | some fd =>
    rw [hx] at hf
    simp only [Option.map_some, Option.some.injEq, Prod.mk.injEq] at hf
    obtain ⟨rfl, rfl⟩ := hf
    simp [Instr.fieldAt, run_underlying hs, hx, Instr.sureAddr, fieldPlace, hz]⟩

class OAdd (a b : Nat) (c : outParam Nat) : Prop where
  eq : a + b = c
instance (priority := 1200) OAdd.z (b : Nat) : OAdd 0 b b := ⟨by omega⟩
instance (priority := 1150) OAdd.z' (a : Nat) : OAdd a 0 a := ⟨by omega⟩
instance (priority := 100) OAdd.any (a b : Nat) : OAdd a b (a + b) := ⟨rfl⟩
class BNot (a : Bool) (c : outParam Bool) : Prop where
  eq : (!a) = c
instance (priority := 1200) BNot.t : BNot true false := ⟨rfl⟩
instance (priority := 1200) BNot.f : BNot false true := ⟨rfl⟩
instance (priority := 1100) BNot.n (b : Bool) : BNot (!b) b := ⟨by simp⟩
instance (priority := 100) BNot.any (a : Bool) : BNot a (!a) := ⟨rfl⟩

@[reducible] def nth : List Value → Nat → Option Value
  | [], _ => none
  | v :: r, n => match n with
    | 0 => some v
    | m + 1 => nth r m
theorem nth_eq (l : List Value) : ∀ n, nth l n = l[n]? := by
  induction l with
  | nil => intro n; simp [nth]
  | cons v r ih => intro n; cases n <;> simp [nth, ih]
@[reducible] def oneV : Value → Bool
  | .agg _ => false
  | .tuple _ => false
  | _ => true
theorem oneV_eq (v : Value) : oneV v = v.oneCell' := by cases v <;> rfl
@[reducible] def setL : List Value → Nat → Value → Option (List Value)
  | [], _, _ => none
  | x :: r, n, v => match n with
    | 0 => some (v :: r)
    | m + 1 => match setL r m v with
      | some r' => some (x :: r')
      | none => none
theorem setL_some (v : Value) : ∀ (l : List Value) (n : Nat) (l' : List Value), setL l n v = some l' → l' = l.set n v ∧ n < l.length := by
  intro l
  induction l with
  | nil => intro n l' h; simp [setL] at h
  | cons x r ih =>
    intro n l' h
    cases n with
    | zero => simp [setL] at h; subst h; simp
    | succ m =>
      simp only [setL] at h
      cases hr : setL r m v with
      | none => rw [hr] at h; cases h
      | some r' => rw [hr] at h; cases h; obtain ⟨h1, h2⟩ := ih m r' hr; subst h1; simp; omega
@[reducible] def evAddr (env : Env) (x : Operand) : Option (Nat × Nat) :=
  match ev env x with
  | some (.pointer (some ⟨b, off, none⟩)) => some (b, off)
  | _ => none
theorem evAddr_some {env : Env} {x : Operand} {b off : Nat} (h : evAddr env x = some (b, off)) : ev env x = some (.pointer (some ⟨b, off, none⟩)) := by
  unfold evAddr at h; split at h
  · rename_i e; cases h; exact e
  · cases h
@[reducible] def evPick (env : Env) (c x y : Operand) : Option (Bool × Value) :=
  match ev env c with
  | some (.bool true) => match ev env x with | some v => some (true, v) | none => none
  | some (.bool false) => match ev env y with | some v => some (false, v) | none => none
  | _ => none
@[reducible] def evExt (env : Env) (x : Operand) (i : Nat) : Option Value :=
  match ev env x with
  | some (.tuple ⟨vs⟩) => nth vs i
  | _ => none
@[reducible] def nthO : List Oper → Nat → Option Oper
  | [], _ => none
  | v :: r, n => match n with
    | 0 => some v
    | m + 1 => nthO r m
theorem nthO_eq (l : List Oper) : ∀ n, nthO l n = l[n]? := by
  induction l with
  | nil => intro n; simp [nthO]
  | cons v r ih => intro n; cases n <;> simp [nthO, ih]
@[reducible] def gE (lops : List Oper) (env : Env) (j : Nat) : Option (Bool × Nat) :=
  match nthO lops j with
  | some o => match o.dst with
    | some d => match lk env d with
      | some (.bool b) => some (b, d)
      | _ => none
    | none => none
  | none => none
theorem gE_some {lops : List Oper} {env : Env} {j : Nat} {b : Bool} {d : Nat} (h : gE lops env j = some (b, d)) : (lops.toArray[j]?).bind (·.dst) = some d ∧ lk env d = some (.bool b) := by
  unfold gE at h
  rw [nthO_eq] at h
  split at h
  · rename_i o ho
    split at h
    · rename_i d' hd
      split at h
      · rename_i b' hb; cases h; simp [ho, hd, hb]
      · cases h
    · cases h
  · cases h

section
variable {P : Program} {ro : Option Nat} {N : Nat} {ds : List Deferred} {lops : List Oper} {Q : Exit → Act → World → Prop} {rest : List Oper} {env : Env} {L R : List HP}
variable {x y c ix : Operand} {d : Tmp} {i : Nat} {fn : Fn} {t s t2 : TypeId} {p : String} {af : Array Edge} {xs ys : List Operand}

/-! ### operations that read only slots -/
instance : Go (SXR P ro N ds lops Q (⟨some d, .move x, t, p, af, none⟩ :: rest) env L) Value Unit Unit (fun v a b => (match ev env x with | some v => some (v, (), ()) | none => none) = some (v, a, b)) (fun v _ _ => SXR P ro N ds lops Q rest ((d, v) :: env) L) :=
  ⟨fun v _ _ e k => SXR.val rfl (fun _ => by cases ro <;> rfl) (fun a w ha _ => by
    have : ev env x = some v := by split at e <;> simp_all
    simp [execOp, ha.ev this]) k⟩
instance : Go (SXR P ro N ds lops Q (⟨some d, .assign x, t, p, af, none⟩ :: rest) env L) Value Unit Unit (fun v a b => (match ev env x with | some v => some (v, (), ()) | none => none) = some (v, a, b)) (fun v _ _ => SXR P ro N ds lops Q rest ((d, v) :: env) L) :=
  ⟨fun v _ _ e k => SXR.val rfl (fun _ => by cases ro <;> rfl) (fun a w ha _ => by
    have : ev env x = some v := by split at e <;> simp_all
    simp [execOp, ha.ev this]) k⟩
instance : Go (SXR P ro N ds lops Q (⟨some d, .pick c x y, t, p, af, none⟩ :: rest) env L) Bool Value Unit (fun b v a => (match evPick env c x y with | some (b, v) => some (b, v, ()) | none => none) = some (b, v, a)) (fun _ v _ => SXR P ro N ds lops Q rest ((d, v) :: env) L) :=
  ⟨fun b v _ e k => SXR.val rfl (fun _ => by cases ro <;> rfl) (fun a w ha _ => by
    have h : evPick env c x y = some (b, v) := by split at e <;> simp_all
    unfold evPick at h
    split at h
    · rename_i hc; split at h <;> (try cases h); rename_i hx; simp [execOp, ha.ev hc, ha.ev hx, asBool]
    · rename_i hc; split at h <;> (try cases h); rename_i hx; simp [execOp, ha.ev hc, ha.ev hx, asBool]
    · cases h) k⟩
instance : Go (SXR P ro N ds lops Q (⟨some d, .extract x i, t, p, af, none⟩ :: rest) env L) Value Unit Unit (fun v a b => (match evExt env x i with | some v => some (v, (), ()) | none => none) = some (v, a, b)) (fun v _ _ => SXR P ro N ds lops Q rest ((d, v) :: env) L) :=
  ⟨fun v _ _ e k => SXR.val rfl (fun _ => by cases ro <;> rfl) (fun a w ha _ => by
    have h : evExt env x i = some v := by split at e <;> simp_all
    unfold evExt at h
    split at h
    · rename_i hc; rw [nth_eq] at h; simp [execOp, ha.ev hc, Instr.extract, h]
    · cases h) k⟩
instance : Go (SXR P ro N ds lops Q (⟨some d, .nilCheck x, t, p, af, none⟩ :: rest) env L) Nat Nat Unit (fun b o a => (match evAddr env x with | some (b, o) => some (b, o, ()) | none => none) = some (b, o, a)) (fun b o _ => SXR P ro N ds lops Q rest ((d, .pointer (some ⟨b, o, none⟩)) :: env) L) :=
  ⟨fun b o _ e k => SXR.val rfl (fun _ => by cases ro <;> rfl) (fun a w ha _ => by
    have h : evAddr env x = some (b, o) := by split at e <;> simp_all
    simp [execOp, ha.ev (evAddr_some h)]) k⟩
instance : Go (SXR P ro N ds lops Q (⟨some d, .makeFunc fn [].toArray xs.toArray, t, p, af, none⟩ :: rest) env L) (List Value) Unit Unit (fun v a b => (match evs env xs with | some v => some (v, (), ()) | none => none) = some (v, a, b)) (fun v _ _ => SXR P ro N ds lops Q rest ((d, .func fn #[] v.toArray) :: env) L) :=
  ⟨fun v _ _ e k => SXR.val rfl (fun _ => by cases ro <;> rfl) (fun a w ha _ => by
    have h : evs env xs = some v := by split at e <;> simp_all
    simp [execOp, Instr.makeFunc, ha.evs h]) k⟩

theorem int2 {k : IntKind} {a b : Int} {env : Env} {x y : Operand} (e : ev2 env x y = some (.int k a, .int k b)) {N : Nat} {ds : List Deferred} {A : Act} (ha : Ag N ds env A) : A.eval x = .int k a ∧ A.eval y = .int k b :=
  let ⟨e1, e2⟩ := ev2_some e
  ⟨ha.ev e1, ha.ev e2⟩
instance : Go (SXR P ro N ds lops Q (⟨some d, .binOp .add t x y t2, s, p, af, none⟩ :: rest) env L) IntKind Int Int (fun k a b => ev2 env x y = some (.int k a, .int k b)) (fun k a b => SXR P ro N ds lops Q rest ((d, .int k (k.wrap (a + b))) :: env) L) :=
  ⟨fun k a b e k' => SXR.val rfl (fun _ => by cases ro <;> rfl) (fun A w ha _ => by
    obtain ⟨h1, h2⟩ := int2 e ha
    simp [execOp, h1, h2, eqGuard, binOp, Op.intArith]) k'⟩
instance : Go (SXR P ro N ds lops Q (⟨some d, .binOp .sub t x y t2, s, p, af, none⟩ :: rest) env L) IntKind Int Int (fun k a b => ev2 env x y = some (.int k a, .int k b)) (fun k a b => SXR P ro N ds lops Q rest ((d, .int k (k.wrap (a - b))) :: env) L) :=
  ⟨fun k a b e k' => SXR.val rfl (fun _ => by cases ro <;> rfl) (fun A w ha _ => by
    obtain ⟨h1, h2⟩ := int2 e ha
    simp [execOp, h1, h2, eqGuard, binOp, Op.intArith]) k'⟩
instance : Go (SXR P ro N ds lops Q (⟨some d, .binOp .mul t x y t2, s, p, af, none⟩ :: rest) env L) IntKind Int Int (fun k a b => ev2 env x y = some (.int k a, .int k b)) (fun k a b => SXR P ro N ds lops Q rest ((d, .int k (k.wrap (a * b))) :: env) L) :=
  ⟨fun k a b e k' => SXR.val rfl (fun _ => by cases ro <;> rfl) (fun A w ha _ => by
    obtain ⟨h1, h2⟩ := int2 e ha
    simp [execOp, h1, h2, eqGuard, binOp, Op.intArith]) k'⟩
instance : Go (SXR P ro N ds lops Q (⟨some d, .binOp .lss t x y t2, s, p, af, none⟩ :: rest) env L) IntKind Int Int (fun k a b => ev2 env x y = some (.int k a, .int k b)) (fun _ a b => SXR P ro N ds lops Q rest ((d, .bool (decide (a < b))) :: env) L) :=
  ⟨fun k a b e k' => SXR.val rfl (fun _ => by cases ro <;> rfl) (fun A w ha _ => by
    obtain ⟨h1, h2⟩ := int2 e ha
    simp [execOp, h1, h2, eqGuard, binOp, Op.intCmp]) k'⟩
instance : Go (SXR P ro N ds lops Q (⟨some d, .binOp .leq t x y t2, s, p, af, none⟩ :: rest) env L) IntKind Int Int (fun k a b => ev2 env x y = some (.int k a, .int k b)) (fun _ a b => SXR P ro N ds lops Q rest ((d, .bool (decide (a ≤ b))) :: env) L) :=
  ⟨fun k a b e k' => SXR.val rfl (fun _ => by cases ro <;> rfl) (fun A w ha _ => by
    obtain ⟨h1, h2⟩ := int2 e ha
    simp [execOp, h1, h2, eqGuard, binOp, Op.intCmp]) k'⟩
instance : Go (SXR P ro N ds lops Q (⟨some d, .binOp .gtr t x y t2, s, p, af, none⟩ :: rest) env L) IntKind Int Int (fun k a b => ev2 env x y = some (.int k a, .int k b)) (fun _ a b => SXR P ro N ds lops Q rest ((d, .bool (decide (a > b))) :: env) L) :=
  ⟨fun k a b e k' => SXR.val rfl (fun _ => by cases ro <;> rfl) (fun A w ha _ => by
    obtain ⟨h1, h2⟩ := int2 e ha
    simp [execOp, h1, h2, eqGuard, binOp, Op.intCmp]) k'⟩
instance : Go (SXR P ro N ds lops Q (⟨some d, .binOp .geq t x y t2, s, p, af, none⟩ :: rest) env L) IntKind Int Int (fun k a b => ev2 env x y = some (.int k a, .int k b)) (fun _ a b => SXR P ro N ds lops Q rest ((d, .bool (decide (a ≥ b))) :: env) L) :=
  ⟨fun k a b e k' => SXR.val rfl (fun _ => by cases ro <;> rfl) (fun A w ha _ => by
    obtain ⟨h1, h2⟩ := int2 e ha
    simp [execOp, h1, h2, eqGuard, binOp, Op.intCmp]) k'⟩

/-! ### equality -/
structure SXQ (P : Program) (ro : Option Nat) (N : Nat) (ds : List Deferred) (lops : List Oper) (Q : Exit → Act → World → Prop) (op : BinOp) (t : TypeId) (u v : Value) (d : Tmp) (rest : List Oper) (env : Env) (L : List HP) : Prop where
  h : ∀ o : Oper, (∃ x y t2 s p af, o = ⟨some d, .binOp op t x y t2, s, p, af, none⟩ ∧ ev env x = some u ∧ ev env y = some v) → SXR P ro N ds lops Q (o :: rest) env L
instance : Go (SXR P ro N ds lops Q (⟨some d, .binOp .eql t x y t2, s, p, af, none⟩ :: rest) env L) Value Value Unit (fun u v c => (match ev2 env x y with | some (u, v) => some (u, v, ()) | none => none) = some (u, v, c)) (fun u v _ => SXQ P ro N ds lops Q .eql t u v d rest env L) :=
  ⟨fun u v _ e k => k.h _ (by
    have h : ev2 env x y = some (u, v) := by split at e <;> simp_all
    exact ⟨x, y, t2, s, p, af, rfl, ev2_some h⟩)⟩
instance : Go (SXR P ro N ds lops Q (⟨some d, .binOp .neq t x y t2, s, p, af, none⟩ :: rest) env L) Value Value Unit (fun u v c => (match ev2 env x y with | some (u, v) => some (u, v, ()) | none => none) = some (u, v, c)) (fun u v _ => SXQ P ro N ds lops Q .neq t u v d rest env L) :=
  ⟨fun u v _ e k => k.h _ (by
    have h : ev2 env x y = some (u, v) := by split at e <;> simp_all
    exact ⟨x, y, t2, s, p, af, rfl, ev2_some h⟩)⟩
/-- What '==' gives on two values of a type. -/
class EqV (P : Program) (t : TypeId) (u v : Value) (b : outParam Bool) : Prop where
  guard : ∀ op x y w, (eqGuard op t x y u v).run P w = .ok () w
  eql : ∀ w, (binOp .eql t u v).run P w = .ok (.bool b) w
  neq : ∀ w, (binOp .neq t u v).run P w = .ok (.bool (!b)) w
instance EqV.int (k : IntKind) (a b : Int) : EqV P t (.int k a) (.int k b) (a == b) :=
  ⟨fun op x y w => by unfold eqGuard; cases op <;> rfl, fun w => by simp [binOp, Op.intCmp], fun w => by simp only [binOp, Op.intCmp]; simp; rfl⟩
theorem EqV.of {b : Bool} {u v : Value} (hg : ∀ op x y w, (eqGuard op t x y u v).run P w = .ok () w) (h : ∀ d w, (Op.equalIn (d + 1) t u v).run P w = .ok b w)
    (h1 : ∀ w, (binOp .eql t u v).run P w = (do pure (Value.bool (← Op.equal t u v)) : Sem Value).run P w)
    (h2 : ∀ w, (binOp .neq t u v).run P w = (do pure (Value.bool (!(← Op.equal t u v))) : Sem Value).run P w) : EqV P t u v b :=
  have h' : ∀ w, (Op.equal t u v).run P w = .ok b w := fun w => h 9999 w
  ⟨hg, fun w => by rw [h1]; simp [h'], fun w => by rw [h2]; simp [h']⟩
instance EqV.nilnil (e : TypeId) [h : Und P t (.pointer e)] : EqV P t (.pointer none) (.pointer none) true :=
  .of (fun op x y w => by unfold eqGuard; cases op <;> rfl) (fun d w => by simp [Op.equalIn, run_underlying h.eq]) (fun _ => rfl) (fun _ => rfl)
instance EqV.ptrnil (e : TypeId) (a : Addr) [h : Und P t (.pointer e)] : EqV P t (.pointer (some a)) (.pointer none) false :=
  .of (fun op x y w => by unfold eqGuard; cases op <;> rfl) (fun d w => by simp [Op.equalIn, run_underlying h.eq]) (fun _ => rfl) (fun _ => rfl)
instance EqV.nilptr (e : TypeId) (a : Addr) [h : Und P t (.pointer e)] : EqV P t (.pointer none) (.pointer (some a)) false :=
  .of (fun op x y w => by unfold eqGuard; cases op <;> rfl) (fun d w => by simp [Op.equalIn, run_underlying h.eq]) (fun _ => rfl) (fun _ => rfl)
instance EqV.slicenil (e : TypeId) (a : Addr) (n c : Nat) [h : Und P t (.slice e)] : EqV P t (.slice (some a) n c) (.slice none 0 0) false :=
  .of (fun op x y w => by unfold eqGuard; cases op <;> rfl) (fun d w => by simp [Op.equalIn, run_underlying h.eq]) (fun _ => rfl) (fun _ => rfl)
instance EqV.slicenilnil (e : TypeId) (n c : Nat) [h : Und P t (.slice e)] : EqV P t (.slice none n c) (.slice none 0 0) true :=
  .of (fun op x y w => by unfold eqGuard; cases op <;> rfl) (fun d w => by simp [Op.equalIn, run_underlying h.eq]) (fun _ => rfl) (fun _ => rfl)
instance EqV.mapnil (a b : TypeId) (r : Nat) [h : Und P t (.map a b)] : EqV P t (.map (some r)) (.map none) false :=
  .of (fun op x y w => by unfold eqGuard; cases op <;> rfl) (fun d w => by simp [Op.equalIn, run_underlying h.eq]) (fun _ => rfl) (fun _ => rfl)
instance EqV.mapnilnil (a b : TypeId) [h : Und P t (.map a b)] : EqV P t (.map none) (.map none) true :=
  .of (fun op x y w => by unfold eqGuard; cases op <;> rfl) (fun d w => by simp [Op.equalIn, run_underlying h.eq]) (fun _ => rfl) (fun _ => rfl)
instance EqV.bool (a b : Bool) [h : Und P t .bool] : EqV P t (.bool a) (.bool b) (a == b) :=
  .of (fun op x y w => by unfold eqGuard; cases op <;> rfl) (fun d w => by simp [Op.equalIn, run_underlying h.eq]) (fun _ => rfl) (fun _ => rfl)
variable {u v : Value} {b b' : Bool}
instance [h : EqV P t u v b] : Go (SXQ P ro N ds lops Q .eql t u v d rest env L) Unit Unit Unit (fun a b c => ((), (), ()) = (a, b, c)) (fun _ _ _ => SXR P ro N ds lops Q rest ((d, .bool b) :: env) L) :=
  ⟨fun _ _ _ _ k => ⟨by
    rintro _ ⟨x, y, t2, s, p, af, rfl, hx, hy⟩
    exact SXR.val rfl (fun _ => by cases ro <;> rfl) (fun A w ha _ => by simp [execOp, ha.ev hx, ha.ev hy, h.guard, h.eql]) k⟩⟩
instance [h : EqV P t u v b] [h' : BNot b b'] : Go (SXQ P ro N ds lops Q .neq t u v d rest env L) Unit Unit Unit (fun a b c => ((), (), ()) = (a, b, c)) (fun _ _ _ => SXR P ro N ds lops Q rest ((d, .bool b') :: env) L) :=
  ⟨fun _ _ _ _ k => ⟨by
    rintro _ ⟨x, y, t2, s, p, af, rfl, hx, hy⟩
    exact SXR.val rfl (fun _ => by cases ro <;> rfl) (fun A w ha _ => by simp [execOp, ha.ev hx, ha.ev hy, h.guard, h.neq, h'.eq]) k⟩⟩

/-! ### not, minus -/
structure SXN (P : Program) (ro : Option Nat) (N : Nat) (ds : List Deferred) (lops : List Oper) (Q : Exit → Act → World → Prop) (b : Bool) (d : Tmp) (rest : List Oper) (env : Env) (L : List HP) : Prop where
  h : SXR P ro N ds lops Q rest ((d, .bool (!b)) :: env) L
instance : Go (SXR P ro N ds lops Q (⟨some d, .unOp .not t x, s, p, af, none⟩ :: rest) env L) Bool Unit Unit (fun b c e => (match ev env x with | some (.bool b) => some (b, (), ()) | _ => none) = some (b, c, e)) (fun b _ _ => SXN P ro N ds lops Q b d rest env L) :=
  ⟨fun b _ _ e k => SXR.val rfl (fun _ => by cases ro <;> rfl) (fun A w ha _ => by
    have h : ev env x = some (.bool b) := by split at e <;> simp_all
    simp [execOp, ha.ev h, Op.unary]) k.h⟩
instance [h : BNot b b'] : Go (SXN P ro N ds lops Q b d rest env L) Unit Unit Unit (fun a b c => ((), (), ()) = (a, b, c)) (fun _ _ _ => SXR P ro N ds lops Q rest ((d, .bool b') :: env) L) :=
  ⟨fun _ _ _ _ k => ⟨by rw [h.eq]; exact k⟩⟩
instance : Go (SXR P ro N ds lops Q (⟨some d, .unOp .neg t x, s, p, af, none⟩ :: rest) env L) IntKind Int Unit (fun k n e => (match ev env x with | some (.int k n) => some (k, n, ()) | _ => none) = some (k, n, e)) (fun k n _ => SXR P ro N ds lops Q rest ((d, .int k (k.wrap (0 - n))) :: env) L) :=
  ⟨fun k n _ e k' => SXR.val rfl (fun _ => by cases ro <;> rfl) (fun A w ha _ => by
    have h : ev env x = some (.int k n) := by split at e <;> simp_all
    simp [execOp, ha.ev h, Op.unary, Op.intArith]) k'⟩
instance {k : IntKind} {dd : TypeDesc} [h : Und P t2 (.int k)] [hs : Und P t dd] : Go (SXR P ro N ds lops Q (⟨some d, .convert t t2 x, s, p, af, none⟩ :: rest) env L) IntKind Int Unit (fun k n e => (match ev env x with | some (.int k n) => some (k, n, ()) | _ => none) = some (k, n, e)) (fun _ n _ => SXR P ro N ds lops Q rest ((d, .int k (k.wrap n)) :: env) L) :=
  ⟨fun k0 n _ e k' => SXR.val rfl (fun _ => by cases ro <;> rfl) (fun A w ha _ => by
    have h0 : ev env x = some (.int k0 n) := by split at e <;> simp_all
    simp [execOp, ha.ev h0, convert, run_underlying h.eq, run_underlying hs.eq, Conv.intToInt]) k'⟩

/-! ### a guarded operation -/
structure SXG (P : Program) (ro : Option Nat) (N : Nat) (ds : List Deferred) (lops : List Oper) (Q : Exit → Act → World → Prop) (b want : Bool) (gd : Tmp) (o : Oper) (rest : List Oper) (env : Env) (L : List HP) : Prop where
  t : b = want → SXR P ro N ds lops Q (o :: rest) env L
  f : b ≠ want → SXR P ro N ds lops Q rest (putE o.dst undef env) L
variable {dd : Option Tmp} {op : Op} {j : Nat} {want : Bool} {gd : Nat} {o : Oper}
instance : Go (SXR P ro N ds lops Q (⟨dd, op, t, p, af, some (j, want)⟩ :: rest) env L) Bool Nat Unit (fun b gd c => (match gE lops env j with | some (b, gd) => some (b, gd, ()) | none => none) = some (b, gd, c))
    (fun b gd _ => SXG P ro N ds lops Q b want gd ⟨dd, op, t, p, af, none⟩ rest env L) :=
  ⟨fun b gd _ e k => ⟨fun hb a w ha hw => by
    have h : gE lops env j = some (b, gd) := by split at e <;> simp_all
    obtain ⟨h1, h2⟩ := gE_some h
    have hy : yielded lops.toArray a.tmps j = some b := by
      unfold yielded
      rw [h1]
      simp [ha.get _ _ h2]
    simp only [List.all_cons, Bool.and_eq_true] at hb
    by_cases hbw : b = want
    · have := (k.t hbw).h (by simp only [List.all_cons, Bool.and_eq_true]; exact hb) a w ha hw
      unfold wpListIn at this ⊢
      rw [if_pos (by simp [Region.wanted, hy, hbw])]
      rw [if_pos (by simp [Region.wanted])] at this
      exact this
    · unfold wpListIn
      rw [if_neg (by simp [Region.wanted, hy, hbw])]
      exact ⟨fun _ _ => trivial, (k.f hbw).h hb.2 _ _ (ha.put hb.1 undef) hw⟩⟩⟩
instance (priority := 1200) : Go (SXG P ro N ds lops Q true true gd o rest env L) Unit Unit Unit (fun a b c => ((), (), ()) = (a, b, c)) (fun _ _ _ => SXR P ro N ds lops Q (o :: rest) env L) := ⟨fun _ _ _ _ k => ⟨fun _ => k, fun h => absurd rfl h⟩⟩
instance (priority := 1200) : Go (SXG P ro N ds lops Q false false gd o rest env L) Unit Unit Unit (fun a b c => ((), (), ()) = (a, b, c)) (fun _ _ _ => SXR P ro N ds lops Q (o :: rest) env L) := ⟨fun _ _ _ _ k => ⟨fun _ => k, fun h => absurd rfl h⟩⟩
instance (priority := 1200) : Go (SXG P ro N ds lops Q true false gd ⟨dd, op, t, p, af, none⟩ rest env L) Unit Unit Unit (fun a b c => ((), (), ()) = (a, b, c)) (fun _ _ _ => SXR P ro N ds lops Q rest (putE dd undef env) L) := ⟨fun _ _ _ _ k => ⟨fun h => (by cases h), fun _ => k⟩⟩
instance (priority := 1200) : Go (SXG P ro N ds lops Q false true gd ⟨dd, op, t, p, af, none⟩ rest env L) Unit Unit Unit (fun a b c => ((), (), ()) = (a, b, c)) (fun _ _ _ => SXR P ro N ds lops Q rest (putE dd undef env) L) := ⟨fun _ _ _ _ k => ⟨fun h => (by cases h), fun _ => k⟩⟩
theorem Ag.know {a : Act} (ha : Ag N ds env a) {k : Nat} {v : Value} (h : lk env k = some v) : Ag N ds ((k, v) :: env) a :=
  ⟨ha.size, ha.defers, fun n u hn => by
    by_cases e : k = n
    · subst e; rw [lk_here] at hn; cases hn; exact ha.get _ _ h
    · rw [lk_there e] at hn; exact ha.get _ _ hn⟩
theorem SXR.know {k : Nat} {v : Value} (h : lk env k = some v) {l : List Oper} (k' : SXR P ro N ds lops Q l ((k, v) :: env) L) : SXR P ro N ds lops Q l env L :=
  ⟨fun hb a w ha hw => k'.h hb a w (ha.know h) hw⟩
/-- The two ways of a guard that is not known. -/
theorem SXG.split {pp qq : Prop} [h : CondP b pp qq] (hlk : lk env gd = some (.bool b))
    (ht : pp → SXG P ro N ds lops Q true want gd o rest ((gd, .bool true) :: env) L) (hf : qq → SXG P ro N ds lops Q false want gd o rest ((gd, .bool false) :: env) L) :
    SXG P ro N ds lops Q b want gd o rest env L := by
  cases b
  · refine ⟨fun e => ((hf (h.f rfl)).t e).know hlk, fun e => ?_⟩
    have := (hf (h.f rfl)).f e
    refine ⟨fun hb a w ha hw => this.h hb a w ?_ hw⟩
    refine ⟨ha.size, ha.defers, fun n u hn => ?_⟩
    cases hd : o.dst with
    | none => rw [hd] at hn; exact (ha.get n u (by
        rw [hd]; by_cases e : gd = n
        · subst e; simp only [putE] at hn; rw [lk_here] at hn; cases hn; exact hlk
        · simp only [putE] at hn; rw [lk_there e] at hn; exact hn))
    | some d' =>
      rw [hd] at hn
      refine ha.get n u ?_
      rw [hd]
      by_cases e' : d' = n
      · subst e'; simp only [putE] at hn ⊢; rw [lk_here] at hn ⊢; exact hn
      · simp only [putE] at hn ⊢; rw [lk_there e'] at hn ⊢
        by_cases e : gd = n
        · subst e; rw [lk_here] at hn; cases hn; exact hlk
        · rw [lk_there e] at hn; exact hn
  · refine ⟨fun e => ((ht (h.t rfl)).t e).know hlk, fun e => ?_⟩
    have := (ht (h.t rfl)).f e
    refine ⟨fun hb a w ha hw => this.h hb a w ?_ hw⟩
    refine ⟨ha.size, ha.defers, fun n u hn => ?_⟩
    cases hd : o.dst with
    | none => rw [hd] at hn; exact (ha.get n u (by
        rw [hd]; by_cases e : gd = n
        · subst e; simp only [putE] at hn; rw [lk_here] at hn; cases hn; exact hlk
        · simp only [putE] at hn; rw [lk_there e] at hn; exact hn))
    | some d' =>
      rw [hd] at hn
      refine ha.get n u ?_
      rw [hd]
      by_cases e' : d' = n
      · subst e'; simp only [putE] at hn ⊢; rw [lk_here] at hn ⊢; exact hn
      · simp only [putE] at hn ⊢; rw [lk_there e'] at hn ⊢
        by_cases e : gd = n
        · subst e; rw [lk_here] at hn; cases hn; exact hlk
        · rw [lk_there e] at hn; exact hn

/-! ### memory -/
structure SXF (P : Program) (ro : Option Nat) (N : Nat) (ds : List Deferred) (lops : List Oper) (Q : Exit → Act → World → Prop) (b off fo : Nat) (d : Tmp) (rest : List Oper) (env : Env) (L : List HP) : Prop where
  h : SXR P ro N ds lops Q rest ((d, .pointer (some ⟨b, off + fo, none⟩)) :: env) L
theorem Addr.add_eq (b off n : Nat) : (⟨b, off, none⟩ : Addr).add n = ⟨b, off + n, none⟩ := by
  unfold Addr.add; split
  · subst_vars; rfl
  · rfl
instance {f fo : Nat} [h : FOff P s f fo] : Go (SXR P ro N ds lops Q (⟨some d, .fieldAddr s x f, t, p, af, none⟩ :: rest) env L) Nat Nat Unit (fun b o a => (match evAddr env x with | some (b, o) => some (b, o, ()) | none => none) = some (b, o, a)) (fun b o _ => SXF P ro N ds lops Q b o fo d rest env L) :=
  ⟨fun b o _ e k => SXR.val rfl (fun _ => by cases ro <;> rfl) (fun a w ha _ => by
    have h' : evAddr env x = some (b, o) := by split at e <;> simp_all
    simp [execOp, ha.ev (evAddr_some h'), h.run, Addr.add_eq]) k.h⟩
instance {b off fo oc : Nat} [h : OAdd off fo oc] : Go (SXF P ro N ds lops Q b off fo d rest env L) Unit Unit Unit (fun a b c => ((), (), ()) = (a, b, c)) (fun _ _ _ => SXR P ro N ds lops Q rest ((d, .pointer (some ⟨b, oc, none⟩)) :: env) L) :=
  ⟨fun _ _ _ _ k => ⟨by rw [h.eq]; exact k⟩⟩

theorem Sat.find {w : World} {b : Nat} {o : Obj} [h : FindB b L o R] (hw : Sat w L) : w.heap[b]? = some o := (hw.perm h.perm).pts
theorem cell_of {w : World} {b off : Nat} {vs : List Value} {T : TypeId} {fr : Nat × Nat} (h : w.heap[b]? = some (.cells vs.toArray T fr)) : w.cell? ⟨b, off, none⟩ = vs[off]? := by
  simp [World.cell?, h]
structure SXL (P : Program) (ro : Option Nat) (N : Nat) (ds : List Deferred) (lops : List Oper) (Q : Exit → Act → World → Prop) (t : TypeId) (b off : Nat) (d : Tmp) (rest : List Oper) (env : Env) (L : List HP) : Prop where
  h : ∀ o : Oper, (∃ x s p af, o = ⟨some d, .load t x, s, p, af, none⟩ ∧ ev env x = some (.pointer (some ⟨b, off, none⟩))) → SXR P ro N ds lops Q (o :: rest) env L
instance : Go (SXR P ro N ds lops Q (⟨some d, .load t x, s, p, af, none⟩ :: rest) env L) Nat Nat Unit (fun b o a => (match evAddr env x with | some (b, o) => some (b, o, ()) | none => none) = some (b, o, a)) (fun b o _ => SXL P ro N ds lops Q t b o d rest env L) :=
  ⟨fun b o _ e k => k.h _ (by
    have h' : evAddr env x = some (b, o) := by split at e <;> simp_all
    exact ⟨x, s, p, af, rfl, evAddr_some h'⟩)⟩
/-- A load of one cell that is known. -/
theorem SXL.at {b off : Nat} {v : Value} (hc : ∀ w, Sat w L → w.cell? ⟨b, off, none⟩ = some v) [ht : Scalar P t] (k : SXR P ro N ds lops Q rest ((d, v) :: env) L) : SXL P ro N ds lops Q t b off d rest env L :=
  ⟨by
    rintro _ ⟨x, s, p, af, rfl, hx⟩
    exact SXR.val rfl (fun _ => by cases ro <;> rfl) (fun a w ha hw => by
      simp [execOp, ha.ev hx, Instr.loadAt, Instr.sureAddr, loadVar, ht.agg, hc w hw]) k⟩
instance {b off : Nat} {vs : List Value} {T : TypeId} {fr : Nat × Nat} [ht : Scalar P t] [hf : FindB b L (.cells vs.toArray T fr) R] : Go (SXL P ro N ds lops Q t b off d rest env L) Value Unit Unit
    (fun v a c => (match nth vs off with | some v => some (v, (), ()) | none => none) = some (v, a, c)) (fun v _ _ => SXR P ro N ds lops Q rest ((d, v) :: env) L) :=
  ⟨fun v _ _ e k => SXL.at (fun w hw => by
    have h' : nth vs off = some v := by split at e <;> simp_all
    rw [cell_of hw.find, ← nth_eq, h']) k⟩
theorem loadCells_of {w : World} {b : Nat} {vs : List Value} {T : TypeId} {fr : Nat × Nat} (h : w.heap[b]? = some (.cells vs.toArray T fr)) (off : Nat) :
    ∀ (n i : Nat) (acc : Array Value), off + i + n ≤ vs.length → (loadCellsFrom ⟨b, off, none⟩ i n acc).run P w = .ok (acc ++ ((vs.drop (off + i)).take n).toArray) w
  | 0, i, acc, _ => by simp [loadCellsFrom]
  | n + 1, i, acc, hn => by
    have hlt : off + i < vs.length := by omega
    simp only [loadCellsFrom, Sem.run_bind, run_load, Addr.add_eq, cell_of h, List.getElem?_eq_getElem hlt, Result.andThen_ok]
    rw [loadCells_of h off n (i + 1) _ (by omega)]
    congr 1
    rw [← Array.toList_inj]
    simp only [Array.toList_append, Array.toList_push, List.append_assoc]
    congr 1
    rw [List.drop_eq_getElem_cons hlt]
    simp [Nat.add_assoc]
/-- A load of a whole struct. -/
theorem SXL.agg {b off n : Nat} {vs : List Value} {T : TypeId} {fr : Nat × Nat} [ht : AggT P t n] (hc : ∀ w, Sat w L → w.heap[b]? = some (.cells vs.toArray T fr)) (hn : off + n ≤ vs.length)
    (k : SXR P ro N ds lops Q rest ((d, .agg ((vs.drop off).take n).toArray) :: env) L) : SXL P ro N ds lops Q t b off d rest env L :=
  ⟨by
    rintro _ ⟨x, s, p, af, rfl, hx⟩
    exact SXR.val rfl (fun _ => by cases ro <;> rfl) (fun a w ha hw => by
      have := loadCells_of (P := P) (hc w hw) off n 0 #[] (by omega)
      simp [execOp, ha.ev hx, Instr.loadAt, Instr.sureAddr, loadVar, ht.agg, ht.size, loadCells, this]) k⟩
@[reducible] def takeL : Nat → List Value → Option (List Value)
  | 0, _ => some []
  | m + 1, l => match l with
      | [] => none
      | v :: r => match takeL m r with
        | some r' => some (v :: r')
        | none => none
@[reducible] def dropL : Nat → List Value → Option (List Value)
  | 0, l => some l
  | m + 1, l => match l with
      | [] => none
      | _ :: r => dropL m r
@[reducible] def subL (l : List Value) (off n : Nat) : Option (List Value) := match dropL off l with | some r => takeL n r | none => none
theorem takeL_some : ∀ (n : Nat) (l l' : List Value), takeL n l = some l' → l' = l.take n ∧ n ≤ l.length
  | 0, l, l', h => by unfold takeL at h; cases h; simp
  | n + 1, [], l', h => by unfold takeL at h; cases h
  | n + 1, v :: r, l', h => by
    simp only [takeL] at h
    cases hr : takeL n r with
    | none => rw [hr] at h; cases h
    | some r' => rw [hr] at h; cases h; obtain ⟨h1, h2⟩ := takeL_some n r r' hr; subst h1; simp; omega
theorem dropL_some : ∀ (n : Nat) (l l' : List Value), dropL n l = some l' → l' = l.drop n ∧ n ≤ l.length
  | 0, l, l', h => by unfold dropL at h; cases h; simp
  | n + 1, [], l', h => by unfold dropL at h; cases h
  | n + 1, v :: r, l', h => by
    simp only [dropL] at h
    obtain ⟨h1, h2⟩ := dropL_some n r l' h
    subst h1; simp; omega
theorem subL_some {l l' : List Value} {off n : Nat} (h : subL l off n = some l') : l' = (l.drop off).take n ∧ off + n ≤ l.length := by
  unfold subL at h
  cases hd : dropL off l with
  | none => rw [hd] at h; cases h
  | some r =>
    rw [hd] at h
    obtain ⟨h1, h2⟩ := dropL_some _ _ _ hd
    obtain ⟨h3, h4⟩ := takeL_some _ _ _ h
    subst h1; subst h3; simp at h4
    exact ⟨rfl, by omega⟩
instance {b off n : Nat} {vs : List Value} {T : TypeId} {fr : Nat × Nat} [ht : AggT P t n] [hf : FindB b L (.cells vs.toArray T fr) R] : Go (SXL P ro N ds lops Q t b off d rest env L) (List Value) Unit Unit
    (fun v a c => (match subL vs off n with | some v => some (v, (), ()) | none => none) = some (v, a, c)) (fun v _ _ => SXR P ro N ds lops Q rest ((d, .agg v.toArray) :: env) L) :=
  ⟨fun v _ _ e k => by
    have h' : subL vs off n = some v := by split at e <;> simp_all
    obtain ⟨rfl, h2⟩ := subL_some h'
    exact SXL.agg (fun w hw => hw.find) h2 k⟩
end
end Go.Sl
