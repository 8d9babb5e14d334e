import Derived.Test.YtlgphhknfocfaaaSlMap
namespace Go.Sl
section
variable {P : Program} {ro : Option Nat} {N : Nat} {ds : List Deferred} {lops : List Oper} {Q : Exit → Act → World → Prop} {rest : List Oper} {env env' : Env} {L R R0 : List HP}
variable {x y c ix lo hi mx : Operand} {d : Tmp} {i : Nat} {t t2 tt s e e1 : TypeId} {p : String} {af : Array Edge}

/-! ### bits, shifts, division -/
def band (k : IntKind) (x y : Int) : Int := k.wrap ((BitVec.ofInt k.bits x &&& BitVec.ofInt k.bits y).toNat : Nat)
def bor (k : IntKind) (x y : Int) : Int := k.wrap ((BitVec.ofInt k.bits x ||| BitVec.ofInt k.bits y).toNat : Nat)
def bandn (k : IntKind) (x y : Int) : Int := k.wrap ((BitVec.ofInt k.bits x &&& ~~~ BitVec.ofInt k.bits y).toNat : Nat)
def shlI (k : IntKind) (x : Int) (n : Nat) : Int := k.wrap (x * 2 ^ min n k.bits)
def shrI (k : IntKind) (x : Int) (n : Nat) : Int := x.fdiv (2 ^ min n k.bits)
instance : Go (SXR P ro N ds lops Q (⟨some d, .binOp .and t x y t2, s, p, af, none⟩ :: rest) env L) IntKind Int Int (fun k a b => ev2 env x y = some (.int k a, .int k b)) (fun k a b => SXR P ro N ds lops Q rest ((d, .int k (band k a b)) :: env) L) :=
  ⟨fun k a b e k' => SXR.val rfl (fun _ => by cases ro <;> rfl) (fun A w ha _ => by
    obtain ⟨h1, h2⟩ := int2 e ha
    simp [execOp, h1, h2, eqGuard, binOp, Op.intBits, band]) k'⟩
instance : Go (SXR P ro N ds lops Q (⟨some d, .binOp .or t x y t2, s, p, af, none⟩ :: rest) env L) IntKind Int Int (fun k a b => ev2 env x y = some (.int k a, .int k b)) (fun k a b => SXR P ro N ds lops Q rest ((d, .int k (bor k a b)) :: env) L) :=
  ⟨fun k a b e k' => SXR.val rfl (fun _ => by cases ro <;> rfl) (fun A w ha _ => by
    obtain ⟨h1, h2⟩ := int2 e ha
    simp [execOp, h1, h2, eqGuard, binOp, Op.intBits, bor]) k'⟩
instance : Go (SXR P ro N ds lops Q (⟨some d, .binOp .andNot t x y t2, s, p, af, none⟩ :: rest) env L) IntKind Int Int (fun k a b => ev2 env x y = some (.int k a, .int k b)) (fun k a b => SXR P ro N ds lops Q rest ((d, .int k (bandn k a b)) :: env) L) :=
  ⟨fun k a b e k' => SXR.val rfl (fun _ => by cases ro <;> rfl) (fun A w ha _ => by
    obtain ⟨h1, h2⟩ := int2 e ha
    simp [execOp, h1, h2, eqGuard, binOp, Op.intBits, bandn]) k'⟩
@[reducible] def evShift (env : Env) (x y : Operand) : Option (IntKind × Int × Nat) :=
  match ev env x with
  | some (.int k a) => match ev env y with
    | some (.int _ (.ofNat n)) => some (k, a, n)
    | _ => none
  | _ => none
theorem evShift_some {k : IntKind} {a : Int} {n : Nat} (h : evShift env x y = some (k, a, n)) : ev env x = some (.int k a) ∧ ∃ k2, ev env y = some (.int k2 (n : Int)) := by
  unfold evShift at h; split at h
  · rename_i e; split at h
    · rename_i e2; cases h; exact ⟨e, _, e2⟩
    · cases h
  · cases h
instance : Go (SXR P ro N ds lops Q (⟨some d, .binOp .shl t x y t2, s, p, af, none⟩ :: rest) env L) IntKind Int Nat (fun k a n => evShift env x y = some (k, a, n)) (fun k a n => SXR P ro N ds lops Q rest ((d, .int k (shlI k a n)) :: env) L) :=
  ⟨fun k a n e k' => SXR.val rfl (fun _ => by cases ro <;> rfl) (fun A w ha _ => by
    obtain ⟨h1, k2, h2⟩ := evShift_some e
    have : ¬ ((n : Int) < 0) := by omega
    simp [execOp, ha.ev h1, ha.ev h2, eqGuard, binOp, Op.shift, shlI, this]) k'⟩
instance : Go (SXR P ro N ds lops Q (⟨some d, .binOp .shr t x y t2, s, p, af, none⟩ :: rest) env L) IntKind Int Nat (fun k a n => evShift env x y = some (k, a, n)) (fun k a n => SXR P ro N ds lops Q rest ((d, .int k (shrI k a n)) :: env) L) :=
  ⟨fun k a n e k' => SXR.val rfl (fun _ => by cases ro <;> rfl) (fun A w ha _ => by
    obtain ⟨h1, k2, h2⟩ := evShift_some e
    have : ¬ ((n : Int) < 0) := by omega
    simp [execOp, ha.ev h1, ha.ev h2, eqGuard, binOp, Op.shift, shrI, this]) k'⟩

/-! ### arrays -/
theorem SXR.indexArr {b off n sz : Nat} {kk : IntKind} {i : Int} (o : Nat) [hu : Und P t (.array n e)] [hsz : SizeT P e sz] (hx : ev2 env x ix = some (.pointer (some ⟨b, off, none⟩), .int kk i)) (h0 : 0 ≤ i) (h1 : i < (n : Int)) (ho : off + i.toNat * sz = o)
    (k : SXR P ro N ds lops Q rest ((d, .pointer (some ⟨b, o, none⟩)) :: env) L) : SXR P ro N ds lops Q (⟨some d, .indexAddr t x ix, tt, p, af, none⟩ :: rest) env L := by
  subst ho
  refine SXR.val rfl (fun _ => by cases ro <;> rfl) (fun a w ha _ => ?_) k
  obtain ⟨q1, q2⟩ := ev2_some hx
  simp [execOp, ha.ev q1, ha.ev q2, Instr.indexAt, Instr.sureAddr, asIntOf, run_underlying hu.eq, h0, h1, hsz.size, Addr.add_eq]
theorem run_boundA {k : IntKind} {i : Int} {n : Nat} {code : BoundsCode} {w : World} (h0 : 0 ≤ i) (h1 : i ≤ n) : (Instr.sliceBound (.int k i) n code).run P w = .ok i.toNat w := by
  simp [Instr.sliceBound, asIntOf, h0, h1]
/-- f[:] of an array -/
theorem SXR.sliceArr {b off n sz : Nat} [hu : Und P t (.array n e)] [hsz : SizeT P e sz] (hn : n ≠ 0) (hx : ev env x = some (.pointer (some ⟨b, off, none⟩)))
    (k : SXR P ro N ds lops Q rest ((d, .slice (some ⟨b, off, none⟩) n n) :: env) L) : SXR P ro N ds lops Q (⟨some d, .slice t x none none none, tt, p, af, none⟩ :: rest) env L :=
  SXR.val rfl (fun _ => by cases ro <;> rfl) (fun A w ha _ => by
    simp [execOp, Instr.sliceAt, Instr.sliceBounds, Instr.sureAddr, ha.ev hx, run_underlying hu.eq, hsz.size, Addr.add]) k
/-- f[lo:hi] of an array -/
theorem SXR.sliceArrLoHi {k1 k2 : IntKind} {b off n sz : Nat} {i j : Int} (m m2 o : Nat) [hu : Und P t (.array n e)] [hsz : SizeT P e sz] (hx : ev2 env x lo = some (.pointer (some ⟨b, off, none⟩), .int k1 i)) (hy : ev env hi = some (.int k2 j)) (h0 : i = (m : Int)) (h02 : j = (m2 : Int)) (h1 : m ≤ m2) (h2 : m2 ≤ n) (h3 : m ≠ n) (ho : off + m * sz = o)
    (k' : SXR P ro N ds lops Q rest ((d, .slice (some ⟨b, o, none⟩) (m2 - m) (n - m)) :: env) L) : SXR P ro N ds lops Q (⟨some d, .slice t x (some lo) (some hi) none, tt, p, af, none⟩ :: rest) env L :=
  SXR.val rfl (fun _ => by cases ro <;> rfl) (fun A w ha _ => by
    subst h0; subst h02; subst ho
    obtain ⟨q1, q2⟩ := ev2_some hx
    have t1 := run_boundA (P := P) (k := k2) (i := (m2 : Int)) (n := n) (code := .sliceAlen) (w := w) (by omega) (by omega)
    have t2 := run_boundA (P := P) (k := k1) (i := (m : Int)) (n := m2) (code := .sliceB) (w := w) (by omega) (by omega)
    simp only [execOp, Instr.sliceAt, Instr.sliceBounds, Instr.sureAddr, Option.map_none, Option.map_some, ha.ev q1, ha.ev q2, ha.ev hy, Sem.run_bind, run_underlying hu.eq, Result.andThen_ok, Sem.run_pure, Bool.false_eq_true, if_false, Option.isSome_none, t1, t2, hsz.size, Int.toNat_natCast]
    rw [if_neg (fun h => h3 h.symm)]
    simp [Addr.add_eq]) k'
/-- A slice as an array. -/
theorem SXR.arrayOf {b off n m cap : Nat} [hu : Und P t (.array n e)] (hx : ev env x = some (.slice (some ⟨b, off, none⟩) m cap)) (hm : n ≤ m)
    (k : SXR P ro N ds lops Q rest ((d, .pointer (some ⟨b, off, none⟩)) :: env) L) : SXR P ro N ds lops Q (⟨some d, .sliceToArrayPointer t x, tt, p, af, none⟩ :: rest) env L :=
  SXR.val rfl (fun _ => by cases ro <;> rfl) (fun A w ha _ => by
    have : ¬ m < n := by omega
    simp [execOp, Instr.arrayAt, ha.ev hx, run_underlying hu.eq, this]) k
theorem SXR.lenArr {n : Nat} {v : Value} [hu : Und P t (.array n e)] (hx : ev env x = some v) (k : SXR P ro N ds lops Q rest ((d, .int .i64 n) :: env) L) :
    SXR P ro N ds lops Q (⟨some d, .call ⟨.builtin .len, [x].toArray, [t].toArray⟩, tt, p, af, none⟩ :: rest) env L :=
  SXR.val rfl (fun _ => by cases ro <;> rfl) (fun A w ha hw => by
    simp [execOp, resolve, invoke, builtin, Builtin.len_, run_underlying hu.eq, goInt]) k
theorem SXR.lenArrP {n : Nat} {v : Value} [hu : Und P t (.pointer t2)] [hu2 : Und P t2 (.array n e)] (hx : ev env x = some v) (k : SXR P ro N ds lops Q rest ((d, .int .i64 n) :: env) L) :
    SXR P ro N ds lops Q (⟨some d, .call ⟨.builtin .len, [x].toArray, [t].toArray⟩, tt, p, af, none⟩ :: rest) env L :=
  SXR.val rfl (fun _ => by cases ro <;> rfl) (fun A w ha hw => by
    simp [execOp, resolve, invoke, builtin, Builtin.len_, run_underlying hu.eq, run_underlying hu2.eq, goInt]) k

instance EqV.funcnil {fn : Fn} {xs ys : Array Value} {A B : Array TypeId} {vd : Bool} [h : Und P t (.func A B vd)] : EqV P t (.func fn xs ys) .nilFunc false :=
  .of (fun op x y w => by unfold eqGuard; cases op <;> rfl) (fun d w => by simp [Op.equalIn, run_underlying h.eq]) (fun _ => rfl) (fun _ => rfl)
/-- The same chunks in another order. -/
class PermTo (L M : List HP) : Prop where
  perm : L.Perm M
instance (priority := 1100) PermTo.refl (L : List HP) : PermTo L L := ⟨.refl _⟩
instance PermTo.cons (c : HP) (L M R : List HP) [h : Pick c L R] [h' : PermTo R M] : PermTo L (c :: M) := ⟨h.perm.trans (List.Perm.cons c h'.perm)⟩
theorem fin_qsP {d : Nat} {v : Value} {LX : List HP} (h : lk env d = some v) [hp : PermTo L LX] : Fin N ds (QS ds d v LX) .normal env L :=
  ⟨fun _ _ ha hw => ⟨rfl, ha.defers, ha.get _ _ h, big_perm hp.perm hw⟩⟩

theorem SXC.factP {c : Code} {p : Prop} (A : HP) [hp : Pick A L R] (h : ∀ m, A m → p) (k : p → SXC P ro N ds c Q env L) : SXC P ro N ds c Q env L := ⟨fun hb a w ha hw => (k (let ⟨m1, _, _, _, _, hA, _⟩ := hw.perm hp.perm; h m1 hA)).h hb a w ha hw⟩
theorem SXR.factP {p : Prop} (A : HP) [hp : Pick A L R] (h : ∀ m, A m → p) (k : p → SXR P ro N ds lops Q rest env L) : SXR P ro N ds lops Q rest env L := ⟨fun hb a w ha hw => (k (let ⟨m1, _, _, _, _, hA, _⟩ := hw.perm hp.perm; h m1 hA)).h hb a w ha hw⟩

@[reducible] def gU (lops : List Oper) (env : Env) (j : Nat) : Bool :=
  match nthO lops j with
  | some o => match o.dst with
    | some d => match lk env d with
      | some (.tuple _) => true
      | _ => false
    | none => false
  | none => false
/-- An operation whose guard was not taken itself. -/
theorem SXR.skipU {dd : Option Tmp} {op : Op} {j : Nat} {want : Bool} (h : gU lops env j = true) (k : SXR P ro N ds lops Q rest (putE dd undef env) L) : SXR P ro N ds lops Q (⟨dd, op, t, p, af, some (j, want)⟩ :: rest) env L := by
  refine ⟨fun hb a w ha hw => ?_⟩
  have hy : yielded lops.toArray a.tmps j = none := by
    unfold gU at h
    rw [nthO_eq] at h
    unfold yielded
    simp only [List.getElem?_toArray]
    split at h
    · rename_i o ho
      split at h
      · rename_i d hd
        split at h
        · rename_i vs hv
          rw [ho]
          simp [hd, ha.get _ _ hv]
        · cases h
      · cases h
    · cases h
  simp only [List.all_cons, Bool.and_eq_true] at hb
  unfold wpListIn
  rw [if_neg (by simp [Region.wanted, hy])]
  exact ⟨fun _ _ => trivial, k.h hb.2 _ _ (ha.put hb.1 undef) hw⟩

/-! ### copy -/
theorem run_copy {w : World} {b off n cap m sz : Nat} {vs ys : List Value} {vy : Value} {T : TypeId} [hu : Und P t (.slice e)] [hsz : SizeT P e sz] (hw : w.heap[b]? = some (.cells vs.toArray T (0, 0))) (hr : RdS w vy m ys) (hl : ys.length = m * sz) (hmn : m ≤ n) (h1 : ∀ y ∈ ys, y.oneCell' = true) (hfit : off + ys.length ≤ vs.length) :
    ∃ w', (Builtin.copy_ #[t, t2] tt #[.slice (some ⟨b, off, none⟩) n cap, vy]).run P w = .ok (.int .i64 m) w' ∧ w'.heap[b]? = some (.cells (vs.take off ++ ys ++ vs.drop (off + ys.length)).toArray T (0, 0)) ∧ (∀ x, x ≠ b → w'.heap[x]? = w.heap[x]?) ∧ w'.os = w.os ∧ w'.output = w.output := by
  obtain ⟨w', r1, r2, r3, r4, r5⟩ := run_storeCells (P := P) (off := off) ys 0 vs _ w hw (putL_eq ys vs (off + 0) h1 (by omega))
  refine ⟨w', ?_, r2, r3, r4, r5⟩
  unfold Builtin.copy_
  simp only [List.getElem?_toArray, List.getElem?_cons_zero, List.getElem?_cons_succ, Sem.run_bind, run_underlying hu.eq, Result.andThen_ok, hr.lenOf, hsz.size]
  rw [show Nat.min m n = m from Nat.min_eq_left hmn, hr.first hl]
  simp only [Result.andThen_ok, r1, Sem.run_bind, Sem.run_pure]
  rfl
theorem SXR.copy {b off n cap m sz : Nat} {vs ys : List Value} {vy : Value} {T : TypeId} {C : Obj → List HP} [hu : Und P t (.slice e)] [hsz : SizeT P e sz] (hx : ev2 env x y = some (.slice (some ⟨b, off, none⟩) n cap, vy)) [hf : CtxB b L (.cells vs.toArray T (0, 0)) C] (hr : ∀ w, Sat w L → RdS w vy m ys) (hl : ys.length = m * sz) (hmn : m ≤ n) (h1 : ∀ y ∈ ys, y.oneCell' = true) (hfit : off + ys.length ≤ vs.length)
    (k : SXR P ro N ds lops Q rest ((d, .int .i64 m) :: env) (C (.cells (vs.take off ++ ys ++ vs.drop (off + ys.length)).toArray T (0, 0)))) : SXR P ro N ds lops Q (⟨some d, .call ⟨.builtin .copy, [x, y].toArray, [t, t2].toArray⟩, tt, p, af, none⟩ :: rest) env L :=
  SXR.step rfl (fun _ => by cases ro <;> rfl) fun a w ha hw => by
    obtain ⟨q1, q2⟩ := ev2_some hx
    obtain ⟨R, p1, p2⟩ := hf.perm
    have hb := (hw.perm p1).pts
    obtain ⟨w', r1, r2, r3, r4, r5⟩ := run_copy (P := P) (t := t) (t2 := t2) (tt := tt) (n := n) (cap := cap) hb (hr w hw) hl hmn h1 hfit
    refine ⟨w', _, _, .inl ?_, ((hw.perm p1).upd r2 r3 r4 r5).perm (p2 _), k⟩
    simp [execOp, resolve, invoke, builtin, ha.ev q1, ha.ev q2, r1]

/-! ### lists by a function -/
def rg {α : Type} (n : Nat) (g : Nat → α) : List α := (List.range n).map g
theorem rg_length {α : Type} (n : Nat) (g : Nat → α) : (rg n g).length = n := by simp [rg]
theorem rg_get {α : Type} {n i : Nat} (g : Nat → α) (h : i < n) : (rg n g)[i]? = some (g i) := by simp [rg, h]
theorem rg_ext {α : Type} {n : Nat} {g h : Nat → α} (e : ∀ i, i < n → g i = h i) : rg n g = rg n h := by
  unfold rg; exact List.map_congr_left fun i hi => e i (List.mem_range.1 hi)
theorem rg_eq {α : Type} {l : List α} {n : Nat} {g : Nat → α} (h : l.length = n) (e : ∀ i, i < n → l[i]? = some (g i)) : l = rg n g := by
  apply List.ext_getElem?
  intro i
  by_cases hi : i < n
  · rw [e i hi, rg_get g hi]
  · rw [List.getElem?_eq_none (by omega), List.getElem?_eq_none (by rw [rg_length]; omega)]
theorem rg_set {α : Type} {n i : Nat} {g : Nat → α} {v : α} : (rg n g).set i v = rg n fun j => if j = i then v else g j := by
  refine rg_eq (by simp [rg_length]) fun j hj => ?_
  rw [List.getElem?_set]
  by_cases h : i = j
  · subst h; simp [rg_length, hj]
  · simp only [h, if_false, rg_get g hj]; rw [if_neg (Ne.symm h)]
theorem rg_sub {α : Type} {n o m : Nat} {g : Nat → α} (h : o + m ≤ n) : ((rg n g).drop o).take m = rg m fun j => g (o + j) := by
  refine rg_eq (by simp [rg_length]; omega) fun j hj => ?_
  rw [List.getElem?_take, if_pos hj, List.getElem?_drop, rg_get g (by omega)]
theorem rg_splice {α : Type} {n o m : Nat} {g h : Nat → α} (hm : o + m ≤ n) : (rg n g).take o ++ rg m h ++ (rg n g).drop (o + m) = rg n fun j => if o ≤ j ∧ j < o + m then h (j - o) else g j := by
  refine rg_eq (by simp [rg_length]; omega) fun j hj => ?_
  have h1 : ((rg n g).take o).length = o := by simp [rg_length]; omega
  by_cases c1 : j < o
  · rw [List.append_assoc, List.getElem?_append_left (by omega), List.getElem?_take, if_pos c1, rg_get g hj, if_neg (by omega)]
  · rw [List.append_assoc, List.getElem?_append_right (by omega), h1]
    by_cases c2 : j < o + m
    · rw [List.getElem?_append_left (by rw [rg_length]; omega), rg_get h (by omega), if_pos (by omega)]
    · rw [List.getElem?_append_right (by rw [rg_length]; omega), rg_length, List.getElem?_drop, if_neg (by omega)]
      rw [show o + m + (j - o - m) = j by omega, rg_get g hj]
theorem rg_add {α : Type} {n m : Nat} {g : Nat → α} : rg (n + m) g = rg n g ++ rg m fun j => g (n + j) := by
  refine (rg_eq (by simp [rg_length]) fun j hj => ?_).symm
  by_cases c : j < n
  · rw [List.getElem?_append_left (by rw [rg_length]; exact c), rg_get g c]
  · rw [List.getElem?_append_right (by rw [rg_length]; omega), rg_length, rg_get _ (by omega), show n + (j - n) = j by omega]
theorem rg_const {α : Type} {n : Nat} (v : α) : rg n (fun _ => v) = List.replicate n v := by
  symm; exact rg_eq (by simp) fun j hj => by simp [hj]
theorem rg_zero {α : Type} (g : Nat → α) : rg 0 g = [] := rfl
theorem rg_map {α β : Type} {n : Nat} {g : Nat → α} (f : α → β) : (rg n g).map f = rg n fun j => f (g j) := by simp [rg]
end
end Go.Sl
