import Derived.WalkKit
import Derived.TacticsIn
import Derived.KernelRfl
namespace Go.Sl

/-- What a partial heap holds: objects, and, in its first place, what else of the world must stay. -/
inductive GO where
  | obj (o : Obj)
  | env (os : Os) (out : Array (Nat × ByteArray)) (fz : Addr → Bool)
abbrev PH := Nat → Option GO
abbrev HP := PH → Prop
abbrev Env := List (Nat × Value)

def Sub (m m' : PH) : Prop := ∀ b o, m b = some o → m' b = some o
def Dis (m m' : PH) : Prop := ∀ b, m b = none ∨ m' b = none
def join (m m' : PH) : PH := fun b => match m b with | some o => some o | none => m' b
def big : List HP → HP
  | [], _ => True
  | H :: L, m => ∃ m1 m2, Sub m1 m ∧ Sub m2 m ∧ Dis m1 m2 ∧ H m1 ∧ big L m2
def heapOf (w : World) : PH := fun n => match n with
  | 0 => some (.env w.os w.output w.frozen?)
  | b + 1 => (w.heap[b]?).map GO.obj
def Sat (w : World) (L : List HP) : Prop := big L (heapOf w)
def pts (b : Nat) (o : Obj) : HP := fun m => m (b + 1) = some (.obj o)
/-- The rest of the world is W's. -/
def envC (W : World) : HP := fun m => m 0 = some (.env W.os W.output W.frozen?)
def frObj : Obj → Option (Nat × Nat)
  | .cells _ _ fr => some fr
  | _ => none

theorem Sub.refl (m : PH) : Sub m m := fun _ _ h => h
theorem Sub.trans {a b c : PH} (h : Sub a b) (h' : Sub b c) : Sub a c := fun x o e => h' x o (h x o e)
theorem Sub.join1 (a b : PH) : Sub a (join a b) := fun x o e => by simp [join, e]
theorem Sub.join2 {a b : PH} (h : Dis a b) : Sub b (join a b) := fun x o e => by
  rcases h x with h | h
  · simp [join, h, e]
  · rw [h] at e; cases e
theorem Sub.join {a b c : PH} (h : Sub a c) (h' : Sub b c) : Sub (Sl.join a b) c := fun x o e => by
  unfold Sl.join at e
  cases hx : a x with
  | some y => rw [hx] at e; simp at e; subst e; exact h x _ hx
  | none => rw [hx] at e; simp at e; exact h' x _ e
theorem Dis.sub {a b a' b' : PH} (h : Dis a b) (ha : Sub a' a) (hb : Sub b' b) : Dis a' b' := fun x => by
  rcases h x with h | h
  · left; cases e : a' x with
    | none => rfl
    | some y => rw [ha x y e] at h; cases h
  · right; cases e : b' x with
    | none => rfl
    | some y => rw [hb x y e] at h; cases h
theorem Dis.symm {a b : PH} (h : Dis a b) : Dis b a := fun x => (h x).symm
theorem Dis.join {a b c : PH} (h : Dis a b) (h' : Dis a c) : Dis a (Sl.join b c) := fun x => by
  rcases h x with h1 | h1
  · exact .inl h1
  rcases h' x with h2 | h2
  · exact .inl h2
  exact .inr (by simp [Sl.join, h1, h2])

theorem big_mono : ∀ {L : List HP} {m m' : PH}, Sub m m' → big L m → big L m'
  | [], _, _, _, _ => trivial
  | _ :: _, _, _, h, ⟨m1, m2, h1, h2, hd, hH, hL⟩ => ⟨m1, m2, h1.trans h, h2.trans h, hd, hH, hL⟩
theorem big_map {A : HP} {L L' : List HP} (h : ∀ m, big L m → big L' m) : ∀ m, big (A :: L) m → big (A :: L') m :=
  fun _ ⟨m1, m2, h1, h2, hd, hH, hL⟩ => ⟨m1, m2, h1, h2, hd, hH, h _ hL⟩
theorem big_head {A B : HP} {L : List HP} (h : ∀ m, A m → B m) : ∀ m, big (A :: L) m → big (B :: L) m :=
  fun _ ⟨m1, m2, h1, h2, hd, hH, hL⟩ => ⟨m1, m2, h1, h2, hd, h _ hH, hL⟩
theorem big_swap {A B : HP} {L : List HP} {m : PH} : big (A :: B :: L) m → big (B :: A :: L) m := by
  rintro ⟨m1, m2, h1, h2, hd, hA, mB, mL, hB1, hL1, hd2, hB, hL⟩
  refine ⟨mB, join m1 mL, hB1.trans h2, .join h1 (hL1.trans h2), .join (hd.sub (.refl _) hB1).symm hd2, hB, m1, mL, .join1 _ _, .join2 (hd.sub (.refl _) hL1), hd.sub (.refl _) hL1, hA, hL⟩
theorem big_perm {L L' : List HP} (p : L.Perm L') : ∀ {m : PH}, big L m → big L' m := by
  induction p with
  | nil => exact fun h => h
  | cons x _ ih => exact fun h => big_map (fun _ h => ih h) _ h
  | swap x y l => exact fun h => big_swap h
  | trans _ _ ih1 ih2 => exact fun h => ih2 (ih1 h)
theorem big_tail {A : HP} {L : List HP} {m : PH} : big (A :: L) m → big L m := fun ⟨_, _, _, h2, _, _, hL⟩ => big_mono h2 hL
theorem big_left {L1 L2 : List HP} : ∀ {m : PH}, big (L1 ++ L2) m → big L1 m := by
  induction L1 with
  | nil => exact fun _ => trivial
  | cons A L ih => exact fun h => big_map (fun _ h => ih h) _ h
theorem big_right {L1 L2 : List HP} : ∀ {m : PH}, big (L1 ++ L2) m → big L2 m := by
  induction L1 with
  | nil => exact fun h => h
  | cons A L ih => exact fun h => ih (big_tail h)
theorem big_flat {L1 L2 : List HP} : ∀ {m : PH}, big (big L1 :: L2) m → big (L1 ++ L2) m := by
  induction L1 generalizing L2 with
  | nil => exact fun ⟨_, _, _, h2, _, _, hL⟩ => big_mono h2 hL
  | cons A L ih =>
    rintro m ⟨m1, m2, h1, h2, hd, ⟨mA, mL, hA1, hL1, hdA, hA, hL⟩, hL2⟩
    exact ⟨mA, join mL m2, hA1.trans h1, .join (hL1.trans h1) h2, .join hdA (hd.sub hA1 (.refl _)), hA,
      ih ⟨mL, m2, .join1 _ _, .join2 (hd.sub hL1 (.refl _)), hd.sub hL1 (.refl _), hL, hL2⟩⟩
theorem big_pack {L1 L2 : List HP} : ∀ {m : PH}, big (L1 ++ L2) m → big (big L1 :: L2) m := by
  induction L1 generalizing L2 with
  | nil => exact fun {m} h => ⟨fun _ => none, m, (fun _ _ h => by cases h), .refl _, (fun _ => .inl rfl), trivial, h⟩
  | cons A L ih =>
    rintro m ⟨mA, mR, hA1, hR1, hd, hA, hR⟩
    obtain ⟨mL, m2, hL1, h21, hd2, hL, hL2⟩ := ih hR
    exact ⟨join mA mL, m2, .join hA1 (hL1.trans hR1), h21.trans hR1, (Dis.join (hd.sub (.refl _) h21).symm hd2.symm).symm,
      ⟨mA, mL, .join1 _ _, .join2 (hd.sub (.refl _) hL1), hd.sub (.refl _) hL1, hA, hL⟩, hL2⟩

theorem Sat.perm {w : World} {L L' : List HP} (h : Sat w L) (p : L.Perm L') : Sat w L' := big_perm p h
theorem heapOf_succ {w : World} {b : Nat} {o : Obj} (h : heapOf w (b + 1) = some (.obj o)) : w.heap[b]? = some o := by
  simp only [heapOf] at h
  cases hc : w.heap[b]? with
  | none => rw [hc] at h; cases h
  | some x => rw [hc] at h; cases h; rfl
theorem Sat.pts {w : World} {b : Nat} {o : Obj} {R : List HP} (h : Sat w (pts b o :: R)) : w.heap[b]? = some o := by
  obtain ⟨m1, m2, h1, h2, hd, hH, hL⟩ := h
  exact heapOf_succ (h1 (b + 1) _ hH)

theorem fz_eq (w : World) : w.frozen? = fun a => match (w.heap[a.block]?).bind frObj with | some (lo, hi) => decide (lo ≤ a.off) && decide (a.off < hi) | none => false := by
  funext a
  unfold World.frozen?
  cases h : w.heap[a.block]? with
  | none => rfl
  | some o => cases o <;> rfl
/-- The heap alone matters, where the rest stays. -/
theorem Sat.heap {w w' : World} {L : List HP} (h : Sat w L) (e : w'.heap = w.heap) (e1 : w'.os = w.os := by rfl) (e2 : w'.output = w.output := by rfl) : Sat w' L := by
  have : heapOf w' = heapOf w := by
    funext n
    cases n with
    | zero => simp only [heapOf, e1, e2, fz_eq, e]
    | succ b => simp only [heapOf, e]
  unfold Sat at *; rw [this]; exact h

theorem Sat.upd {w w' : World} {b : Nat} {o o' : Obj} {R : List HP} (h : Sat w (Sl.pts b o :: R))
    (hb : w'.heap[b]? = some o') (hr : ∀ x, x ≠ b → w'.heap[x]? = w.heap[x]?) (e1 : w'.os = w.os := by rfl) (e2 : w'.output = w.output := by rfl) (hfr : frObj o' = frObj o := by rfl) : Sat w' (Sl.pts b o' :: R) := by
  have hbo := h.pts
  obtain ⟨m1, m2, h1, h2, hd, hH, hL⟩ := h
  have hb2 : m2 (b + 1) = none := by
    rcases hd (b + 1) with h | h
    · rw [show m1 (b + 1) = some (.obj o) from hH] at h; cases h
    · exact h
  have hfz : w'.frozen? = w.frozen? := by
    rw [fz_eq, fz_eq]
    funext a
    by_cases hx : a.block = b
    · rw [hx, hb, hbo]; simp only [Option.bind_some, hfr]
    · rw [hr _ hx]
  refine ⟨fun x => if x = b + 1 then some (.obj o') else none, m2, ?_, ?_, ?_, by simp [Sl.pts], hL⟩
  · intro x y e
    by_cases hx : x = b + 1
    · subst hx; simp at e; subst e; simp only [heapOf, hb]; rfl
    · simp [hx] at e
  · intro x y e
    by_cases hx : x = b + 1
    · subst hx; rw [hb2] at e; cases e
    · have := h2 x y e
      cases x with
      | zero => simp only [heapOf] at this ⊢; rw [e1, e2, hfz]; exact this
      | succ x => simp only [heapOf] at this ⊢; rw [hr x (by omega)]; exact this
  · intro x
    by_cases hx : x = b + 1
    · subst hx; exact .inr hb2
    · exact .inl (by simp [hx])

theorem Sat.new {w w' : World} {o : Obj} {L : List HP} (h : Sat w L) (e : w'.heap = w.heap.push o) (e1 : w'.os = w.os := by rfl) (e2 : w'.output = w.output := by rfl) (hfr : frObj o = some (0, 0) ∨ frObj o = none := by first | exact .inl rfl | exact .inr rfl) : Sat w' (Sl.pts w.heap.size o :: L) := by
  have hfz : w'.frozen? = w.frozen? := by
    rw [fz_eq, fz_eq]
    funext a
    rw [e, Array.getElem?_push]
    by_cases hx : a.block = w.heap.size
    · have : w.heap[a.block]? = none := by rw [hx]; simp
      rw [if_pos hx, this]
      rcases hfr with h | h
      · simp only [Option.bind_some, h, Option.bind_none]
        have : ¬ a.off < 0 := Nat.not_lt_zero _
        simp
      · simp only [Option.bind_some, h, Option.bind_none]
    · rw [if_neg hx]
  refine ⟨fun x => if x = w.heap.size + 1 then some (.obj o) else none, heapOf w, ?_, ?_, ?_, by simp [Sl.pts], h⟩
  · intro x y hx
    by_cases hxs : x = w.heap.size + 1
    · subst hxs; simp at hx; subst hx; simp only [heapOf]; rw [e]; simp
    · simp [hxs] at hx
  · intro x y hx
    cases x with
    | zero => simp only [heapOf] at hx ⊢; rw [e1, e2, hfz]; exact hx
    | succ x =>
      have hlt : x < w.heap.size := by
        rcases Nat.lt_or_ge x w.heap.size with h | h
        · exact h
        · simp [heapOf, Array.getElem?_eq_none h] at hx
      simp only [heapOf] at hx ⊢
      rw [e, Array.getElem?_push]
      simp [Nat.ne_of_lt hlt]
      simpa using hx
  · intro x
    by_cases hxs : x = w.heap.size + 1
    · subst hxs; exact .inr (by simp [heapOf])
    · exact .inl (by simp [hxs])

/-- Which chunk of the list speaks of block b, and the list with that chunk in front. -/
class FindB (b : Nat) (L : List HP) (o : outParam Obj) (R : outParam (List HP)) : Prop where
  perm : L.Perm (pts b o :: R)
instance (priority := 1100) FindB.here (b : Nat) (o : Obj) (R : List HP) : FindB b (pts b o :: R) o R := ⟨.refl _⟩
instance FindB.there (b : Nat) (o : Obj) (L R : List HP) (H : HP) [h : FindB b L o R] : FindB b (H :: L) o (H :: R) := ⟨(List.Perm.cons H h.perm).trans (.swap _ _ _)⟩

/-- The same, and how the list is with another object in its place. -/
class CtxB (b : Nat) (L : List HP) (o : outParam Obj) (C : outParam (Obj → List HP)) : Prop where
  perm : ∃ R, L.Perm (pts b o :: R) ∧ ∀ o', (pts b o' :: R).Perm (C o')
instance (priority := 1100) CtxB.here (b : Nat) (o : Obj) (R : List HP) : CtxB b (pts b o :: R) o (fun o' => pts b o' :: R) := ⟨R, .refl _, fun _ => .refl _⟩
instance CtxB.there (b : Nat) (o : Obj) (L : List HP) (C : Obj → List HP) (H : HP) [h : CtxB b L o C] : CtxB b (H :: L) o (fun o' => H :: C o') :=
  let ⟨R, p, q⟩ := h.perm
  ⟨H :: R, (List.Perm.cons H p).trans (.swap _ _ _), fun o' => (List.Perm.swap _ _ _).trans (List.Perm.cons H (q o'))⟩

/-- Some chunks out of the list, by their shape. -/
class Pick (c : HP) (L : List HP) (R : outParam (List HP)) : Prop where
  perm : L.Perm (c :: R)
instance (priority := 1100) Pick.here (c : HP) (R : List HP) : Pick c (c :: R) R := ⟨.refl _⟩
instance Pick.there (c H : HP) (L R : List HP) [h : Pick c L R] : Pick c (H :: L) (H :: R) := ⟨(List.Perm.cons H h.perm).trans (.swap _ _ _)⟩
class Picks (cs : List HP) (L : List HP) (R : outParam (List HP)) : Prop where
  perm : L.Perm (cs ++ R)
instance Picks.nil (L : List HP) : Picks [] L L := ⟨.refl _⟩
instance Picks.cons (c : HP) (cs L R1 R : List HP) [h : Pick c L R1] [h' : Picks cs R1 R] : Picks (c :: cs) L R := ⟨h.perm.trans (List.Perm.cons c h'.perm)⟩
class App (A B : List HP) (C : outParam (List HP)) : Prop where
  eq : A ++ B = C
instance App.nil (B : List HP) : App [] B B := ⟨rfl⟩
instance App.cons (a : HP) (A B C : List HP) [h : App A B C] : App (a :: A) B (a :: C) := ⟨by simp [h.eq]⟩
/-- R is what is left behind some chunks at the head of L. -/
class Tail (L R : List HP) : Prop where
  drop : ∀ m, big L m → big R m
instance (priority := 1100) Tail.here (L : List HP) : Tail L L := ⟨fun _ h => h⟩
instance Tail.there (H : HP) (L R : List HP) [h : Tail L R] : Tail (H :: L) R := ⟨fun _ x => h.drop _ (big_tail x)⟩

/-! ### the frame's slots -/
@[reducible] def lk : Env → Nat → Option Value
  | [], _ => none
  | (k, v) :: r, n => match Nat.beq k n with
    | true => some v
    | false => lk r n
theorem lk_here (k : Nat) (v : Value) (r : Env) : lk ((k, v) :: r) k = some v := by simp [lk]
theorem lk_there {k n : Nat} (h : k ≠ n) (v : Value) (r : Env) : lk ((k, v) :: r) n = lk r n := by
  have : Nat.beq k n = false := by rw [← Bool.not_eq_true, Nat.beq_eq]; exact h
  simp [lk, this]
@[reducible] def putE : Option Tmp → Value → Env → Env
  | none, _, env => env
  | some d, v, env => (d, v) :: env
@[reducible] def ev (env : Env) : Operand → Option Value
  | .tmp t => lk env t
  | .const v => some v
  | .global g => some (.pointer (some ⟨g, 0, none⟩))
  | .func f => some (.func (.func f) #[] #[])
@[reducible] def evs (env : Env) : List Operand → Option (List Value)
  | [] => some []
  | x :: r => match ev env x, evs env r with
    | some v, some vs => some (v :: vs)
    | _, _ => none
@[reducible] def ev2 (env : Env) (x y : Operand) : Option (Value × Value) :=
  match ev env x, ev env y with
  | some a, some b => some (a, b)
  | _, _ => none
@[reducible] def env0 : Nat → List Value → Env
  | _, [] => []
  | n, v :: r => (n, v) :: env0 (n + 1) r

structure Ag (N : Nat) (ds : List Deferred) (env : Env) (a : Act) : Prop where
  size : a.tmps.size = N
  defers : a.defers = ds
  get : ∀ k v, lk env k = some v → a.tmps[k]? = some v

def dstOk (N : Nat) (o : Oper) : Bool := match o.dst with | some d => Nat.blt d N | none => true
def below (N : Nat) : Code → Bool
  | .region _ ops _ => ops.toList.all (dstOk N)
  | .seq a b => below N a && below N b
  | .cond _ a b => below N a && below N b
  | .block _ a => below N a
  | .loop a => below N a
  | .scope a => below N a
  | .rangeFunc _ ps a b => ps.toList.all (Nat.blt · N) && below N a && below N b
  | _ => true

theorem Ag.ev {N : Nat} {ds : List Deferred} {env : Env} {a : Act} (h : Ag N ds env a) {x : Operand} {v : Value} (hx : Sl.ev env x = some v) : a.eval x = v := by
  cases x with
  | tmp t =>
    have := h.get t v hx
    simp [Act.eval, Array.getD_eq_getD_getElem?, this]
  | const c => exact Option.some.inj hx
  | global g => exact Option.some.inj hx
  | func f => exact Option.some.inj hx
theorem Ag.evs {N : Nat} {ds : List Deferred} {env : Env} {a : Act} (h : Ag N ds env a) : ∀ {xs : List Operand} {vs : List Value}, Sl.evs env xs = some vs → xs.map a.eval = vs
  | [], vs, e => by simpa [Sl.evs] using e
  | x :: r, vs, e => by
    unfold Sl.evs at e
    split at e
    · rename_i v vs' e1 e2
      cases e
      simp [h.ev e1, h.evs e2]
    · cases e
theorem ev2_some {env : Env} {x y : Operand} {u v : Value} (hx : Sl.ev2 env x y = some (u, v)) : ev env x = some u ∧ ev env y = some v := by
  unfold Sl.ev2 at hx
  split at hx
  · rename_i p q e1 e2; cases hx; exact ⟨e1, e2⟩
  · cases hx
theorem Ag.put {N : Nat} {ds : List Deferred} {env : Env} {a : Act} (h : Ag N ds env a) {d : Option Tmp} (hd : (match d with | some d => Nat.blt d N | none => true) = true) (v : Value) :
    Ag N ds (putE d v env) (a.put d v) := by
  cases d with
  | none => exact h
  | some d =>
    have hd : d < N := by simpa using hd
    refine ⟨by simp [Act.put, h.size], h.defers, fun k u hk => ?_⟩
    simp only [Act.put]
    by_cases hkd : d = k
    · subst hkd
      rw [lk_here] at hk; cases hk
      simp [h.size, hd]
    · rw [lk_there hkd] at hk
      rw [Array.getElem?_setIfInBounds]; simp [hkd]; exact h.get k u hk

def wideR (ro : Option Nat) : Fence := { Fence.wide with round := ro }
theorem callsIn_wideR {ro : Option Nat} {n : Nat} {P : Program} {f : FuncId} {args : Array Value} {w : World} {R : Ending → World → Prop} (h : Calls P f args w R) :
    CallsIn (wideR ro) n P f args w R := by
  refine ⟨trivial, fun cs _ => ?_⟩
  obtain ⟨e, w', fr, r, s, x⟩ := h cs
  exact ⟨e, w', fr, r, comesIn_wide.2 s, x⟩
theorem calls_of_wideR {n : Nat} {P : Program} {f : FuncId} {args : Array Value} {w : World} {R : Ending → World → Prop} (h : CallsIn (wideR none) n P f args w R) : Calls P f args w R :=
  callsIn_wide.1 h

structure SXR (P : Program) (ro : Option Nat) (N : Nat) (ds : List Deferred) (lops : List Oper) (Q : Exit → Act → World → Prop) (rest : List Oper) (env : Env) (L : List HP) : Prop where
  h : rest.all (dstOk N) = true → ∀ a w, Ag N ds env a → Sat w L → wpListIn (wideR ro) 0 P lops.toArray Q rest a w
structure SXC (P : Program) (ro : Option Nat) (N : Nat) (ds : List Deferred) (c : Code) (Q : Exit → Act → World → Prop) (env : Env) (L : List HP) : Prop where
  h : below N c = true → ∀ a w, Ag N ds env a → Sat w L → c.wpIn (wideR ro) 0 P Q a w
structure Fin (N : Nat) (ds : List Deferred) (Q : Exit → Act → World → Prop) (e : Exit) (env : Env) (L : List HP) : Prop where
  h : ∀ a w, Ag N ds env a → Sat w L → Q e a w
def thenC (P : Program) (ro : Option Nat) (N : Nat) (y : Code) (Q : Exit → Act → World → Prop) : Exit → Act → World → Prop :=
  Exit.then (fun a w => below N y = true → y.wpIn (wideR ro) 0 P Q a w) Q

/-- One step of the walk: what G comes to, once an equation E is met. -/
class Go (G : Prop) (V1 V2 V3 : outParam Type) (E K : outParam (V1 → V2 → V3 → Prop)) : Prop where
  h : ∀ v1 v2 v3, E v1 v2 v3 → K v1 v2 v3 → G
theorem go {G : Prop} {V1 V2 V3 : Type} {E K : V1 → V2 → V3 → Prop} [i : Go G V1 V2 V3 E K] {v1 : V1} {v2 : V2} {v3 : V3} (e : E v1 v2 v3) (k : K v1 v2 v3) : G := i.h _ _ _ e k

section
variable {P : Program} {ro : Option Nat} {N : Nat} {ds : List Deferred} {lops : List Oper} {Q : Exit → Act → World → Prop} {rest : List Oper} {env : Env} {L : List HP} {x y : Code} {id id' : Nat} {l : List Oper} {c : Operand}

instance : Go (SXC P ro N ds (.seq x y) Q env L) Unit Unit Unit (fun a b c => ((), (), ()) = (a, b, c)) (fun _ _ _ => SXC P ro N ds x (thenC P ro N y Q) env L) := ⟨fun _ _ _ _ k => ⟨fun hb a w ha hw => by
  simp only [below, Bool.and_eq_true] at hb
  refine wpIn_seq (wpIn_mono (k.h hb.1 a w ha hw) ?_)
  intro e a w q
  cases e <;> first | exact q hb.2 | exact q⟩⟩
instance : Go (SXC P ro N ds (.block id x) Q env L) Unit Unit Unit (fun a b c => ((), (), ()) = (a, b, c)) (fun _ _ _ => SXC P ro N ds x (Exit.inBlock id Q) env L) := ⟨fun _ _ _ _ k => ⟨fun hb a w ha hw =>
  wpIn_block (k.h hb a w ha hw)⟩⟩
instance : Go (SXC P ro N ds (.region id l.toArray false) Q env L) Unit Unit Unit (fun a b c => ((), (), ()) = (a, b, c)) (fun _ _ _ => SXR P ro N ds l Q l env L) := ⟨fun _ _ _ _ k => ⟨fun hb a w ha hw =>
  wpIn_region_lit (k.h hb a w ha hw)⟩⟩
instance : Go (SXC P ro N ds .skip Q env L) Unit Unit Unit (fun a b c => ((), (), ()) = (a, b, c)) (fun _ _ _ => Fin N ds Q .normal env L) := ⟨fun _ _ _ _ k => ⟨fun _ a w ha hw => wpIn_skip (k.h a w ha hw)⟩⟩
instance : Go (SXC P ro N ds .ret Q env L) Unit Unit Unit (fun a b c => ((), (), ()) = (a, b, c)) (fun _ _ _ => Fin N ds Q .ret env L) := ⟨fun _ _ _ _ k => ⟨fun _ a w ha hw => wpIn_ret (k.h a w ha hw)⟩⟩
instance : Go (SXC P ro N ds (.exit id) Q env L) Unit Unit Unit (fun a b c => ((), (), ()) = (a, b, c)) (fun _ _ _ => Fin N ds Q (.exit id) env L) := ⟨fun _ _ _ _ k => ⟨fun _ a w ha hw => wpIn_exit (k.h a w ha hw)⟩⟩
instance : Go (Fin N ds (thenC P ro N y Q) .normal env L) Unit Unit Unit (fun a b c => ((), (), ()) = (a, b, c)) (fun _ _ _ => SXC P ro N ds y Q env L) := ⟨fun _ _ _ _ k => ⟨fun a w ha hw hb => k.h hb a w ha hw⟩⟩
instance : Go (Fin N ds (thenC P ro N y Q) .ret env L) Unit Unit Unit (fun a b c => ((), (), ()) = (a, b, c)) (fun _ _ _ => Fin N ds Q .ret env L) := ⟨fun _ _ _ _ k => ⟨k.h⟩⟩
instance : Go (Fin N ds (thenC P ro N y Q) (.exit id) env L) Unit Unit Unit (fun a b c => ((), (), ()) = (a, b, c)) (fun _ _ _ => Fin N ds Q (.exit id) env L) := ⟨fun _ _ _ _ k => ⟨k.h⟩⟩
instance : Go (Fin N ds (Exit.inBlock id Q) .normal env L) Unit Unit Unit (fun a b c => ((), (), ()) = (a, b, c)) (fun _ _ _ => Fin N ds Q .normal env L) := ⟨fun _ _ _ _ k => ⟨k.h⟩⟩
instance : Go (Fin N ds (Exit.inBlock id Q) .ret env L) Unit Unit Unit (fun a b c => ((), (), ()) = (a, b, c)) (fun _ _ _ => Fin N ds Q .ret env L) := ⟨fun _ _ _ _ k => ⟨k.h⟩⟩
instance (priority := 1100) : Go (Fin N ds (Exit.inBlock id Q) (.exit id) env L) Unit Unit Unit (fun a b c => ((), (), ()) = (a, b, c)) (fun _ _ _ => Fin N ds Q .normal env L) := ⟨fun _ _ _ _ k => ⟨fun a w ha hw => by simp only [Exit.inBlock, if_true]; exact k.h a w ha hw⟩⟩
instance : Go (Fin N ds (Exit.inBlock id Q) (.exit id') env L) Bool Unit Unit (fun a b c => (Nat.beq id' id, (), ()) = (a, b, c)) (fun b _ _ => match b with | false => Fin N ds Q (.exit id') env L | true => Fin N ds Q .normal env L) := ⟨fun b _ _ e k => ⟨fun a w ha hw => by
  simp only [Prod.mk.injEq, and_true] at e
  cases b
  · have : id' ≠ id := Nat.ne_of_beq_eq_false e
    simp only [Exit.inBlock, this, if_false]; exact k.h a w ha hw
  · have : id' = id := Nat.eq_of_beq_eq_true e
    simp only [Exit.inBlock, this, if_true]; exact k.h a w ha hw⟩⟩
instance : Go (SXR P ro N ds lops Q [] env L) Unit Unit Unit (fun a b c => ((), (), ()) = (a, b, c)) (fun _ _ _ => Fin N ds Q .normal env L) := ⟨fun _ _ _ _ k => ⟨fun _ a w ha hw => k.h a w ha hw⟩⟩

/-! ### a test -/
structure SXB (P : Program) (ro : Option Nat) (N : Nat) (ds : List Deferred) (b : Bool) (x y : Code) (Q : Exit → Act → World → Prop) (env : Env) (L : List HP) : Prop where
  t : b = true → SXC P ro N ds x Q env L
  f : b = false → SXC P ro N ds y Q env L
instance : Go (SXC P ro N ds (.cond c x y) Q env L) Bool Unit Unit (fun a u v => (match ev env c with | some (.bool b) => some (b, (), ()) | _ => none) = some (a, u, v)) (fun a _ _ => SXB P ro N ds a x y Q env L) := ⟨fun b _ _ e' k => ⟨fun hb a w ha hw => by
  have e : ev env c = some (.bool b) := by split at e' <;> simp_all
  simp only [below, Bool.and_eq_true] at hb
  exact wpIn_cond_split (ha.ev e) (fun h => (k.t h).h hb.1 a w ha hw) (fun h => (k.f h).h hb.2 a w ha hw)⟩⟩
/-- What a test says. -/
class CondP (b : Bool) (p q : outParam Prop) : Prop where
  t : b = true → p
  f : b = false → q
instance (priority := 1100) CondP.dec (p : Prop) [Decidable p] : CondP (decide p) p (¬ p) := ⟨of_decide_eq_true, of_decide_eq_false⟩
instance (priority := 1100) CondP.beq (a b : Int) : CondP (a == b) (a = b) (a ≠ b) := ⟨by simp, by simp⟩
instance (priority := 1100) CondP.bne (a b : Int) : CondP (a != b) (a ≠ b) (a = b) := ⟨by simp, by simp⟩
instance (priority := 1100) CondP.not (b : Bool) (p q : Prop) [h : CondP b p q] : CondP (!b) q p := ⟨fun e => h.f (by simpa using e), fun e => h.t (by simpa using e)⟩
instance (priority := 100) CondP.any (b : Bool) : CondP b (b = true) (b = false) := ⟨fun h => h, fun h => h⟩
instance (priority := 1200) : Go (SXB P ro N ds true x y Q env L) Unit Unit Unit (fun a b c => ((), (), ()) = (a, b, c)) (fun _ _ _ => SXC P ro N ds x Q env L) := ⟨fun _ _ _ _ k => ⟨fun _ => k, fun h => by cases h⟩⟩
instance (priority := 1200) : Go (SXB P ro N ds false x y Q env L) Unit Unit Unit (fun a b c => ((), (), ()) = (a, b, c)) (fun _ _ _ => SXC P ro N ds y Q env L) := ⟨fun _ _ _ _ k => ⟨fun h => (by cases h), fun _ => k⟩⟩
theorem SXB.split {b : Bool} {p q : Prop} [h : CondP b p q] {x y : Code} (hx : p → SXC P ro N ds x Q env L) (hy : q → SXC P ro N ds y Q env L) : SXB P ro N ds b x y Q env L :=
  ⟨fun e => hx (h.t e), fun e => hy (h.f e)⟩

/-! ### one operation -/
theorem SXR.step {o : Oper} (hg : o.guard = none) (hd : ∀ ρ, o.semAt ro ρ = execOp ρ o)
    (hs : ∀ a w, Ag N ds env a → Sat w L → ∃ w' x L', ((execOp a.eval o).run P w = .ok (.value x) w' ∨ ((execOp a.eval o).run P w = .ok .skip w' ∧ x = undef)) ∧ Sat w' L' ∧
      SXR P ro N ds lops Q rest (putE o.dst x env) L') :
    SXR P ro N ds lops Q (o :: rest) env L := by
  refine ⟨fun hb a w ha hw => ?_⟩
  simp only [List.all_cons, Bool.and_eq_true] at hb
  obtain ⟨w', x, L', hrun, hsat, k⟩ := hs a w ha hw
  unfold wpListIn
  rw [if_pos (by simp [Region.wanted, hg])]
  refine ⟨fun _ _ => trivial, ?_⟩
  rw [show (wideR ro).round = ro from rfl, hd]
  rcases hrun with hrun | ⟨hrun, rfl⟩
  · rw [hrun]; exact k.h hb.2 _ _ (ha.put hb.1 x) hsat
  · rw [hrun]; exact k.h hb.2 _ _ (ha.put hb.1 undef) hsat
/-- An operation that gives a value and leaves the world alone. -/
theorem SXR.val {o : Oper} {x : Value} (hg : o.guard = none) (hd : ∀ ρ, o.semAt ro ρ = execOp ρ o)
    (hs : ∀ a w, Ag N ds env a → Sat w L → (execOp a.eval o).run P w = .ok (.value x) w) (k : SXR P ro N ds lops Q rest (putE o.dst x env) L) :
    SXR P ro N ds lops Q (o :: rest) env L :=
  SXR.step hg hd fun a w ha hw => ⟨w, x, L, .inl (hs a w ha hw), hw, k⟩
end
end Go.Sl
