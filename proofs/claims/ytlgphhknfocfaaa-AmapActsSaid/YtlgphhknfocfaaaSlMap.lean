import Derived.Test.YtlgphhknfocfaaaSlLib2
namespace Go.Sl

/-! ### lists of pairs -/
section
variable {K V : Type} [DecidableEq K]
def aget (k : K) : List (K × V) → Option V
  | [] => none
  | e :: r => if e.1 = k then some e.2 else aget k r
def aset (k : K) (v : V) : List (K × V) → List (K × V)
  | [] => [(k, v)]
  | e :: r => if e.1 = k then (k, v) :: r else e :: aset k v r
def adel (k : K) : List (K × V) → List (K × V)
  | [] => []
  | e :: r => if e.1 = k then r else e :: adel k r
def keysOf (l : List (K × V)) : List K := l.map (·.1)
theorem aget_none {k : K} : ∀ {l : List (K × V)}, aget k l = none ↔ k ∉ keysOf l
  | [] => by simp [aget, keysOf]
  | e :: r => by
    have ih := aget_none (k := k) (l := r)
    unfold aget
    by_cases h : e.1 = k
    · simp [h, keysOf]
    · simp only [h, if_false, ih, keysOf, List.map_cons, List.mem_cons, not_or]
      exact ⟨fun x => ⟨fun e' => h e'.symm, x⟩, fun x => x.2⟩
theorem aget_mem {k : K} {v : V} : ∀ {l : List (K × V)}, aget k l = some v → (k, v) ∈ l
  | [], h => by simp [aget] at h
  | e :: r, h => by
    unfold aget at h
    split at h
    · rename_i he; cases h; subst he; simp
    · exact List.mem_cons_of_mem _ (aget_mem h)
theorem mem_aget {k : K} {v : V} : ∀ {l : List (K × V)}, (keysOf l).Nodup → (k, v) ∈ l → aget k l = some v
  | [], _, h => by simp at h
  | e :: r, hn, h => by
    simp only [keysOf, List.map_cons, List.nodup_cons] at hn
    unfold aget
    rcases List.mem_cons.1 h with h | h
    · subst h; simp
    · have : e.1 ≠ k := fun he => hn.1 (he ▸ List.mem_map_of_mem (f := Prod.fst) h)
      rw [if_neg this]; exact mem_aget hn.2 h
theorem aget_aset (k k' : K) (v : V) : ∀ (l : List (K × V)), aget k' (aset k v l) = if k = k' then some v else aget k' l
  | [] => by simp [aget, aset]
  | e :: r => by
    unfold aset
    by_cases h : e.1 = k
    · rw [if_pos h]; subst h
      by_cases h2 : e.1 = k' <;> simp [aget, h2]
    · rw [if_neg h]
      unfold aget
      rw [aget_aset k k' v r]
      by_cases h2 : e.1 = k'
      · subst h2; simp [Ne.symm h]
      · simp [h2]
theorem keys_aset (k : K) (v : V) : ∀ (l : List (K × V)), keysOf (aset k v l) = if k ∈ keysOf l then keysOf l else keysOf l ++ [k]
  | [] => by simp [aset, keysOf]
  | e :: r => by
    have ih := keys_aset k v r
    unfold aset
    by_cases h : e.1 = k
    · subst h; simp [keysOf]
    · rw [if_neg h]
      have : k ∈ keysOf (e :: r) ↔ k ∈ keysOf r := by simp [keysOf, Ne.symm h]
      simp only [this]
      show e.1 :: keysOf (aset k v r) = _
      rw [ih]; split <;> simp [keysOf]
theorem keys_adel (k : K) : ∀ (l : List (K × V)), keysOf (adel k l) = (keysOf l).erase k
  | [] => by simp [adel, keysOf]
  | e :: r => by
    unfold adel
    by_cases h : e.1 = k
    · subst h; simp [keysOf]
    · rw [if_neg h]
      show e.1 :: keysOf (adel k r) = _
      rw [keys_adel k r]; simp [keysOf, List.erase_cons, h]
theorem nodup_aset {k : K} {v : V} {l : List (K × V)} (h : (keysOf l).Nodup) : (keysOf (aset k v l)).Nodup := by
  rw [keys_aset]; split
  · exact h
  · rename_i hk
    rw [List.nodup_append]; exact ⟨h, by simp, by rintro a ha b hb rfl; simp at hb; subst hb; exact hk ha⟩
theorem nodup_adel {k : K} {l : List (K × V)} (h : (keysOf l).Nodup) : (keysOf (adel k l)).Nodup := by
  rw [keys_adel]; exact h.erase k
theorem aget_adel {k k' : K} : ∀ {l : List (K × V)}, (keysOf l).Nodup → aget k' (adel k l) = if k = k' then none else aget k' l
  | [], _ => by simp [aget, adel]
  | e :: r, hn => by
    have hn' := hn
    simp only [keysOf, List.map_cons, List.nodup_cons] at hn
    unfold adel
    by_cases h : e.1 = k
    · rw [if_pos h]; subst h
      by_cases h2 : e.1 = k'
      · subst h2; simp only [if_true]; exact aget_none.2 hn.1
      · simp [aget, h2]
    · rw [if_neg h]
      unfold aget
      rw [aget_adel hn.2]
      by_cases h2 : e.1 = k'
      · subst h2; simp [Ne.symm h]
      · simp [h2]
theorem aset_length {k : K} {v : V} (l : List (K × V)) : (aset k v l).length = if aget k l = none then l.length + 1 else l.length := by
  induction l with
  | nil => simp [aset, aget]
  | cons e r ih => unfold aset aget; by_cases h : e.1 = k <;> simp [h, ih]; split <;> rfl
def amap {W : Type} (f : V → W) (l : List (K × V)) : List (K × W) := l.map fun e => (e.1, f e.2)
theorem aget_amap {W : Type} (f : V → W) (k : K) : ∀ l : List (K × V), aget k (amap f l) = (aget k l).map f
  | [] => rfl
  | e :: r => by
    have ih := aget_amap f k r
    unfold amap at ih ⊢
    simp only [List.map_cons, aget]
    split <;> simp [ih]
theorem aset_amap {W : Type} (f : V → W) (k : K) (v : V) : ∀ l : List (K × V), aset k (f v) (amap f l) = amap f (aset k v l)
  | [] => rfl
  | e :: r => by
    have ih := aset_amap f k v r
    unfold amap at ih ⊢
    simp only [List.map_cons, aset]
    split <;> simp [ih]
theorem adel_amap {W : Type} (f : V → W) (k : K) : ∀ l : List (K × V), adel k (amap f l) = amap f (adel k l)
  | [] => rfl
  | e :: r => by
    have ih := adel_amap f k r
    unfold amap at ih ⊢
    simp only [List.map_cons, adel]
    split <;> simp [ih]
omit [DecidableEq K] in
theorem keys_amap {W : Type} (f : V → W) (l : List (K × V)) : keysOf (amap f l) = keysOf l := by simp [keysOf, amap]
def findP (k : K) : List (K × V) → Nat → Option (Nat × V)
  | [], _ => none
  | e :: r, i => if e.1 = k then some (i, e.2) else findP k r (i + 1)
theorem findP_some {k : K} {i j : Nat} {v : V} : ∀ {l : List (K × V)}, findP k l i = some (j, v) → ∃ n, j = i + n ∧ l[n]? = some (k, v) ∧ (∀ v', l.set n (k, v') = aset k v' l) ∧ l.eraseIdx n = adel k l ∧ aget k l = some v
  | [], h => by simp [findP] at h
  | e :: r, h => by
    unfold findP at h
    split at h
    · rename_i he
      cases h
      subst he
      exact ⟨0, rfl, rfl, fun v' => by simp [aset], by simp [adel], by simp [aget]⟩
    · rename_i he
      obtain ⟨n, h1, h2, h3, h4, h5⟩ := findP_some h
      exact ⟨n + 1, by omega, by simpa using h2, fun v' => by simp [aset, he, h3 v'], by simp [adel, he, h4], by simp [aget, he, h5]⟩
theorem findP_none {k : K} {i : Nat} : ∀ {l : List (K × V)}, findP k l i = none → aget k l = none ∧ (∀ v, aset k v l = l ++ [(k, v)]) ∧ adel k l = l
  | [], _ => ⟨rfl, fun _ => rfl, rfl⟩
  | e :: r, h => by
    unfold findP at h
    split at h
    · cases h
    · rename_i he
      obtain ⟨h1, h2, h3⟩ := findP_none h
      exact ⟨by simp [aget, he, h1], fun v => by simp [aset, he, h2], by simp [adel, he, h3]⟩
end

theorem map_eraseIdx' {α β : Type} (f : α → β) : ∀ (l : List α) (n : Nat), (l.eraseIdx n).map f = (l.map f).eraseIdx n
  | [], n => by simp
  | x :: r, 0 => by simp
  | x :: r, n + 1 => by simp [map_eraseIdx' f r n]

/-! ### a map -/
/-- The keys of a map type, as data. -/
class KeyK (P : Program) (t : TypeId) {K : Type} [DecidableEq K] (ek : K → Value) : Prop where
  check : ∀ e k w, (Instr.checkKey e 10000 t (ek k)).run P w = .ok () w
  find : ∀ (k : K) (l : List (K × Value)) (es : List MapEntry), es.map (fun e => (e.key, e.val)) = l.map (fun p => (ek p.1, p.2)) → ∀ w, (Instr.findKey t (ek k) es).run P w = .ok (findP k l 0) w
  bits : ∀ k, Instr.sameBits 10000 (ek k) (ek k) = true
def intK (n : Int) : Value := .int .i64 n
def pairK (p : Int × Int) : Value := .agg #[.int .i64 p.1, .int .i64 p.2]
theorem findNow_int (k : Int) : ∀ (l : List (Int × Value)) (es : List MapEntry) (i : Nat), es.map (fun e => (e.key, e.val)) = l.map (fun p => (intK p.1, p.2)) → Instr.findNow (.int .i64) (intK k) es i = some (findP k l i)
  | [], [], i, _ => rfl
  | [], _ :: _, i, h => by simp at h
  | p :: l, [], i, h => by simp at h
  | p :: l, e :: es, i, h => by
    simp only [List.map_cons, List.cons.injEq, Prod.mk.injEq] at h
    obtain ⟨⟨h1, h2⟩, h3⟩ := h
    unfold Instr.findNow findP
    rw [h1]
    simp only [intK, Instr.sameNow, if_true, h2]
    by_cases hk : k = p.1
    · subst hk; simp
    · have : (k == p.1) = false := by simpa using hk
      rw [this, if_neg (Ne.symm hk)]
      exact findNow_int k l es (i + 1) h3
instance KeyK.int {P : Program} {t : TypeId} [h : Und P t (.int .i64)] : KeyK P t intK where
  check := fun e k w => by
    show (Instr.checkKey e (9999 + 1) t (intK k)).run P w = _
    unfold Instr.checkKey
    simp [run_underlying h.eq, intK]
  find := fun k l es he w => by
    unfold Instr.findKey
    simp only [Sem.run_bind, run_underlying h.eq, Result.andThen_ok, findNow_int k l es 0 he]
    simp
  bits := fun k => by
    show Instr.sameBits (9999 + 1) (intK k) (intK k) = true
    simp [intK, Instr.sameBits]
/-- A map of one's own: what it holds, in the order in which it came. -/
def mapB {K : Type} [DecidableEq K] (ek : K → Value) (b : Nat) (l : List (K × Value)) : HP := fun m => ∃ (es : List MapEntry) (clock : Nat),
  es.map (fun e => (e.key, e.val)) = l.map (fun p => (ek p.1, p.2)) ∧ (∀ e ∈ es, e.born < clock) ∧ (es.map (·.born)).Nodup ∧ (keysOf l).Nodup ∧ pts b (.map es.toArray clock) m

/-- Which chunk of the list is the map at b. -/
class FindM (b : Nat) (L : List HP) (K : outParam Type) (dec : outParam (DecidableEq K)) (ek : outParam (K → Value)) (l : outParam (List (K × Value))) (R : outParam (List HP)) : Prop where
  perm : L.Perm (mapB ek b l :: R)
instance (priority := 1100) FindM.here {K : Type} [dec : DecidableEq K] (ek : K → Value) (b : Nat) (l : List (K × Value)) (R : List HP) : FindM b (mapB ek b l :: R) K dec ek l R := ⟨.refl _⟩
instance FindM.there (b : Nat) {K : Type} [dec : DecidableEq K] (ek : K → Value) (l : List (K × Value)) (L R : List HP) (H : HP) [h : FindM b L K dec ek l R] : FindM b (H :: L) K dec ek l (H :: R) := ⟨(List.Perm.cons H h.perm).trans (.swap _ _ _)⟩
class CtxM (b : Nat) (L : List HP) (K : outParam Type) (dec : outParam (DecidableEq K)) (ek : outParam (K → Value)) (l : outParam (List (K × Value))) (C : outParam (List (K × Value) → List HP)) : Prop where
  perm : ∃ R, L.Perm (mapB ek b l :: R) ∧ ∀ l', (mapB ek b l' :: R).Perm (C l')
instance (priority := 1100) CtxM.here {K : Type} [dec : DecidableEq K] (ek : K → Value) (b : Nat) (l : List (K × Value)) (R : List HP) : CtxM b (mapB ek b l :: R) K dec ek l (fun l' => mapB ek b l' :: R) := ⟨R, .refl _, fun _ => .refl _⟩
instance CtxM.there (b : Nat) {K : Type} [dec : DecidableEq K] (ek : K → Value) (l : List (K × Value)) (L : List HP) (C : List (K × Value) → List HP) (H : HP) [h : CtxM b L K dec ek l C] : CtxM b (H :: L) K dec ek l (fun l' => H :: C l') :=
  let ⟨R, p, q⟩ := h.perm
  ⟨H :: R, (List.Perm.cons H p).trans (.swap _ _ _), fun l' => (List.Perm.swap _ _ _).trans (List.Perm.cons H (q l'))⟩
class KeyOf {K : Type} (ek : K → Value) (v : Value) (k : outParam K) : Prop where
  eq : v = ek k
instance KeyOf.int (n : Int) : KeyOf intK (.int .i64 n) n := ⟨rfl⟩
instance KeyOf.pair (a b : Int) : KeyOf pairK (.agg [.int .i64 a, .int .i64 b].toArray) (a, b) := ⟨rfl⟩
instance KeyOf.pair' (a b : Int) : KeyOf pairK (.agg #[.int .i64 a, .int .i64 b]) (a, b) := ⟨rfl⟩

section
variable {P : Program} {ro : Option Nat} {N : Nat} {ds : List Deferred} {lops : List Oper} {Q : Exit → Act → World → Prop} {rest : List Oper} {env env' : Env} {L R R0 : List HP}
variable {x y c ix ky : Operand} {d : Tmp} {t t2 tt s kt vt : TypeId} {p : String} {af : Array Edge}

theorem mapB_get {K : Type} [DecidableEq K] {ek : K → Value} {b : Nat} {l : List (K × Value)} {w : World} (hw : Sat w (mapB ek b l :: R)) : ∃ (es : List MapEntry) (clock : Nat),
    es.map (fun e => (e.key, e.val)) = l.map (fun p => (ek p.1, p.2)) ∧ (∀ e ∈ es, e.born < clock) ∧ (es.map (·.born)).Nodup ∧ (keysOf l).Nodup ∧ Sat w (pts b (.map es.toArray clock) :: R) := by
  obtain ⟨m1, m2, h1, h2, hd, ⟨es, clock, a1, a2, a3, a4, a5⟩, hL⟩ := hw
  exact ⟨es, clock, a1, a2, a3, a4, m1, m2, h1, h2, hd, a5, hL⟩
theorem mapB_put {K : Type} [DecidableEq K] {ek : K → Value} {b : Nat} {l : List (K × Value)} {w : World} {es : List MapEntry} {clock : Nat} (a1 : es.map (fun e => (e.key, e.val)) = l.map (fun p => (ek p.1, p.2))) (a2 : ∀ e ∈ es, e.born < clock) (a3 : (es.map (·.born)).Nodup) (a4 : (keysOf l).Nodup)
    (hw : Sat w (pts b (.map es.toArray clock) :: R)) : Sat w (mapB ek b l :: R) :=
  big_head (fun m h => ⟨es, clock, a1, a2, a3, a4, h⟩) _ hw

theorem run_getMap {w : World} {b : Nat} {es : Array MapEntry} {clock : Nat} (h : w.heap[b]? = some (.map es clock)) : (getObj b).run P w = .ok (.map es clock) w := by
  simp [getObj, Sem.run, h]
theorem run_setMap {w : World} {b : Nat} {es es' : Array MapEntry} {clock clock' : Nat} (h : w.heap[b]? = some (.map es clock)) : (setObj b (.map es' clock')).run P w = .ok () { w with heap := w.heap.setIfInBounds b (.map es' clock') } := by
  simp [setObj, Sem.run, h]

instance : Go (SXR P ro N ds lops Q (⟨some d, .makeMap t none, tt, p, af, none⟩ :: rest) env L) Unit Unit Unit (fun a b c => ((), (), ()) = (a, b, c))
    (fun _ _ _ => ∀ b, SXR P ro N ds lops Q rest ((d, .map (some b)) :: env) (pts b (.map [].toArray 0) :: L)) :=
  ⟨fun _ _ _ _ k => SXR.step rfl (fun _ => by cases ro <;> rfl) fun a w ha hw => by
    refine ⟨_, _, _, .inl ?_, hw.new (o := .map [].toArray 0) (w' := { w with heap := w.heap.push (.map [].toArray 0) }) rfl, k w.heap.size⟩
    simp [execOp, Instr.makeMap, newObj, Sem.run]⟩
theorem mapB_new {K : Type} [DecidableEq K] {ek : K → Value} {b : Nat} : ∀ m, pts b (.map [].toArray 0) m → mapB ek b [] m := fun m h => ⟨[], 0, rfl, by simp, by simp, by simp [keysOf], h⟩

/-- Behind a look-up. -/
structure SXM (P : Program) (ro : Option Nat) (N : Nat) (ds : List Deferred) (lops : List Oper) (Q : Exit → Act → World → Prop) (o : Option Value) (z : Value) (ok : Bool) (d : Tmp) (rest : List Oper) (env : Env) (L : List HP) : Prop where
  k0 : o = none → SXR P ro N ds lops Q rest ((d, if ok then .tuple [z, .bool false].toArray else z) :: env) L
  k1 : ∀ v, o = some v → SXR P ro N ds lops Q rest ((d, if ok then .tuple [v, .bool true].toArray else v) :: env) L
theorem SXM.hit {o : Option Value} {z v : Value} (h : o = some v) (k : SXR P ro N ds lops Q rest ((d, v) :: env) L) : SXM P ro N ds lops Q o z false d rest env L :=
  ⟨fun h' => (by rw [h] at h'; cases h'), fun v' h' => by rw [h] at h'; cases h'; exact k⟩
theorem SXM.hit2 {o : Option Value} {z v : Value} (h : o = some v) (k : SXR P ro N ds lops Q rest ((d, .tuple [v, .bool true].toArray) :: env) L) : SXM P ro N ds lops Q o z true d rest env L :=
  ⟨fun h' => (by rw [h] at h'; cases h'), fun v' h' => by rw [h] at h'; cases h'; exact k⟩
theorem SXM.miss {o : Option Value} {z : Value} (h : o = none) (k : SXR P ro N ds lops Q rest ((d, z) :: env) L) : SXM P ro N ds lops Q o z false d rest env L :=
  ⟨fun _ => k, fun v' h' => (by rw [h] at h'; cases h')⟩
theorem SXM.miss2 {o : Option Value} {z : Value} (h : o = none) (k : SXR P ro N ds lops Q rest ((d, .tuple [z, .bool false].toArray) :: env) L) : SXM P ro N ds lops Q o z true d rest env L :=
  ⟨fun _ => k, fun v' h' => (by rw [h] at h'; cases h')⟩
structure SXK (P : Program) (ro : Option Nat) (N : Nat) (ds : List Deferred) (lops : List Oper) (Q : Exit → Act → World → Prop) (t : TypeId) (b : Nat) (kv : Value) (ok : Bool) (d : Tmp) (rest : List Oper) (env : Env) (L : List HP) : Prop where
  h : ∀ o : Oper, (∃ x y s p af, o = ⟨some d, .lookup t x y ok, s, p, af, none⟩ ∧ ev env x = some (.map (some b)) ∧ ev env y = some kv) → SXR P ro N ds lops Q (o :: rest) env L
@[reducible] def evMapK (env : Env) (x y : Operand) : Option (Nat × Value) :=
  match ev env x with
  | some (.map (some b)) => match ev env y with
    | some v => some (b, v)
    | none => none
  | _ => none
theorem evMapK_some {b : Nat} {v : Value} (h : evMapK env x y = some (b, v)) : ev env x = some (.map (some b)) ∧ ev env y = some v := by
  unfold evMapK at h; split at h
  · rename_i e; split at h
    · rename_i e2; cases h; exact ⟨e, e2⟩
    · cases h
  · cases h
instance {ok : Bool} : Go (SXR P ro N ds lops Q (⟨some d, .lookup t x y ok, s, p, af, none⟩ :: rest) env L) Nat Value Unit (fun b v c => (match evMapK env x y with | some (b, v) => some (b, v, ()) | none => none) = some (b, v, c)) (fun b v _ => SXK P ro N ds lops Q t b v ok d rest env L) :=
  ⟨fun b v _ e k => k.h _ (by
    have h' : evMapK env x y = some (b, v) := by split at e <;> simp_all
    exact ⟨x, y, s, p, af, rfl, evMapK_some h'⟩)⟩
theorem run_lookup {K : Type} [DecidableEq K] {ek : K → Value} {b : Nat} {l : List (K × Value)} {w : World} {k : K} {z : Value} {ok : Bool} [hu : Und P t (.map kt vt)] [hk : KeyK P kt ek] [hz : ZeroV P vt z] (hw : Sat w (mapB ek b l :: R)) :
    (Instr.lookup t (.map (some b)) (ek k) ok).run P w = .ok (match aget k l with | some v => if ok then .tuple [v, .bool true].toArray else v | none => if ok then .tuple [z, .bool false].toArray else z) w := by
  obtain ⟨es, clock, a1, a2, a3, a4, a5⟩ := mapB_get hw
  unfold Instr.lookup
  simp only [Sem.run_bind, run_underlying hu.eq, Result.andThen_ok, run_getMap a5.pts, Sem.run_pure, hk.check]
  simp only [hk.find k l es a1]
  cases hf : findP k l 0 with
  | none =>
    obtain ⟨g1, _⟩ := findP_none hf
    rw [g1]
    simp only [Result.andThen_ok, Sem.run_bind, hz.zero, Sem.run_pure]
  | some q =>
    obtain ⟨n, v⟩ := q
    obtain ⟨_, _, _, _, _, g⟩ := findP_some hf
    rw [g]
    simp only [Result.andThen_ok, Sem.run_bind, Sem.run_pure]
instance {K : Type} [dec : DecidableEq K] {ek : K → Value} {b : Nat} {l : List (K × Value)} {k : K} {kv z : Value} {ok : Bool} [hf : FindM b L K dec ek l R] [hu : Und P t (.map kt vt)] [hk : KeyK P kt ek] [hz : ZeroV P vt z] [hq : KeyOf ek kv k] :
    Go (SXK P ro N ds lops Q t b kv ok d rest env L) Unit Unit Unit (fun a b c => ((), (), ()) = (a, b, c)) (fun _ _ _ => SXM P ro N ds lops Q (aget k l) z ok d rest env L) :=
  ⟨fun _ _ _ _ k' => ⟨by
    rintro _ ⟨x, y, s, p, af, rfl, hx, hy⟩
    have hq' := hq.eq
    subst hq'
    cases hg : aget k l with
    | none =>
      refine SXR.val rfl (fun _ => by cases ro <;> rfl) (fun a w ha hw => ?_) (k'.k0 hg)
      have := run_lookup (P := P) (t := t) (k := k) (ok := ok) (hw.perm hf.perm)
      rw [hg] at this
      simp [execOp, ha.ev hx, ha.ev hy, this]
    | some v =>
      refine SXR.val rfl (fun _ => by cases ro <;> rfl) (fun a w ha hw => ?_) (k'.k1 v hg)
      have := run_lookup (P := P) (t := t) (k := k) (ok := ok) (hw.perm hf.perm)
      rw [hg] at this
      simp [execOp, ha.ev hx, ha.ev hy, this]⟩⟩

/-! ### an entry more, an entry less -/
structure SXU (P : Program) (ro : Option Nat) (N : Nat) (ds : List Deferred) (lops : List Oper) (Q : Exit → Act → World → Prop) (t : TypeId) (b : Nat) (kv v : Value) (rest : List Oper) (env : Env) (L : List HP) : Prop where
  h : ∀ o : Oper, (∃ x y c s p af, o = ⟨none, .mapUpdate t x y c, s, p, af, none⟩ ∧ ev env x = some (.map (some b)) ∧ ev env y = some kv ∧ ev env c = some v) → SXR P ro N ds lops Q (o :: rest) env L
@[reducible] def evMapU (env : Env) (x y c : Operand) : Option (Nat × Value × Value) :=
  match ev env x with
  | some (.map (some b)) => match ev env y with
    | some v => match ev env c with
      | some u => some (b, v, u)
      | none => none
    | none => none
  | _ => none
theorem evMapU_some {b : Nat} {v u : Value} (h : evMapU env x y c = some (b, v, u)) : ev env x = some (.map (some b)) ∧ ev env y = some v ∧ ev env c = some u := by
  unfold evMapU at h; split at h
  · rename_i e; split at h
    · rename_i e2; split at h
      · rename_i e3; cases h; exact ⟨e, e2, e3⟩
      · cases h
    · cases h
  · cases h
instance : Go (SXR P ro N ds lops Q (⟨none, .mapUpdate t x y c, s, p, af, none⟩ :: rest) env L) Nat Value Value (fun b v u => evMapU env x y c = some (b, v, u)) (fun b v u => SXU P ro N ds lops Q t b v u rest env L) :=
  ⟨fun b v u e k => k.h _ ⟨x, y, c, s, p, af, rfl, evMapU_some e⟩⟩
theorem modify_map {es : List MapEntry} {K : Type} {ek : K → Value} {l : List (K × Value)} {n : Nat} {k : K} {v : Value} (a1 : es.map (fun e => (e.key, e.val)) = l.map (fun p => (ek p.1, p.2))) :
    (es.modify n fun e => { e with key := ek k, val := v }).map (fun e => (e.key, e.val)) = (l.set n (k, v)).map (fun p => (ek p.1, p.2)) := by
  apply List.ext_getElem?
  intro i
  have ai : (es.map (fun e => (e.key, e.val)))[i]? = (l.map (fun p => (ek p.1, p.2)))[i]? := by rw [a1]
  simp only [List.getElem?_map, List.getElem?_modify, List.getElem?_set] at ai ⊢
  by_cases h : n = i
  · subst h
    have hl : es.length = l.length := by simpa using congrArg List.length a1
    by_cases hn : n < l.length
    · rw [List.getElem?_eq_getElem (by omega)]; simp [hn]
    · rw [List.getElem?_eq_none (by omega)]; simp [hn]
  · simp only [h, if_false]
    rw [← ai]
    cases es[i]? <;> rfl
theorem run_mapUpdate {K : Type} [DecidableEq K] {ek : K → Value} {b : Nat} {l : List (K × Value)} {w : World} {k : K} {v : Value} [hu : Und P t (.map kt vt)] [hk : KeyK P kt ek] (hw : Sat w (mapB ek b l :: R)) :
    ∃ w', (Instr.mapUpdate t (.map (some b)) (ek k) v).run P w = .ok () w' ∧ Sat w' (mapB ek b (aset k v l) :: R) := by
  obtain ⟨es, clock, a1, a2, a3, a4, a5⟩ := mapB_get hw
  unfold Instr.mapUpdate
  simp only [Sem.run_bind, run_underlying hu.eq, Result.andThen_ok, run_getMap a5.pts, hk.check]
  simp only [hk.find k l es a1]
  cases hf : findP k l 0 with
  | none =>
    obtain ⟨g1, g2, _⟩ := findP_none hf
    simp only [Result.andThen_ok, run_setMap a5.pts]
    obtain ⟨q1, q2⟩ := upd_heap (.map (es.toArray.push ⟨ek k, v, clock⟩) (clock + 1)) a5.pts
    refine ⟨_, rfl, ?_⟩
    rw [g2 v]
    have hnb : ∀ e ∈ es, e.born ≠ clock := fun e he => Nat.ne_of_lt (a2 e he)
    refine mapB_put (es := es ++ [⟨ek k, v, clock⟩]) (clock := clock + 1) (by simp [a1]) ?_ ?_ ?_ (by rw [show (es ++ [(⟨ek k, v, clock⟩ : MapEntry)]).toArray = es.toArray.push ⟨ek k, v, clock⟩ by simp]; exact a5.upd q1 q2)
    · intro e he
      rcases List.mem_append.1 he with h | h
      · have := a2 e h; omega
      · simp at h; subst h; simp
    · rw [List.map_append, List.nodup_append]
      refine ⟨a3, by simp, ?_⟩
      intro x hx y hy e
      simp at hy; subst hy; subst e
      obtain ⟨e', he', h2⟩ := List.mem_map.1 hx
      exact hnb e' he' h2
    · rw [← g2 v]; exact nodup_aset a4
  | some q =>
    obtain ⟨n, u⟩ := q
    obtain ⟨n', hn', h2, h3, _, _⟩ := findP_some hf
    have hn' : n = n' := by omega
    subst hn'
    have hkey : (((es.toArray[n]?).map (·.key)).getD (ek k)) = ek k := by
      have := congrArg (fun x => x[n]?) a1
      simp only [List.getElem?_map, h2, Option.map_some] at this
      simp only [List.getElem?_toArray]
      cases he : es[n]? with
      | none => rfl
      | some e => rw [he] at this; simp at this; simp [this.1]
    have hkt : ∀ w, (Instr.keyThatStays (ek k) (ek k)).run P w = .ok (ek k) w := fun w => by simp [Instr.keyThatStays, hk.bits]
    simp only [Result.andThen_ok, hkey, Sem.run_bind, hkt, run_setMap a5.pts]
    obtain ⟨q1, q2⟩ := upd_heap (.map (es.toArray.modify n fun e => { e with key := ek k, val := v }) clock) a5.pts
    refine ⟨_, rfl, ?_⟩
    have e1 : es.toArray.modify n (fun e => { e with key := ek k, val := v }) = (es.modify n fun e => { e with key := ek k, val := v }).toArray := by simp
    rw [← h3 v]
    have hb : (es.modify n fun e => { e with key := ek k, val := v }).map (·.born) = es.map (·.born) := by
      apply List.ext_getElem?
      intro i
      simp only [List.getElem?_map, List.getElem?_modify]
      cases es[i]? with
      | none => rfl
      | some e => simp; split <;> rfl
    refine mapB_put (modify_map a1) ?_ (by rw [hb]; exact a3) (by rw [h3 v]; exact nodup_aset a4) (by rw [← e1]; exact a5.upd q1 q2)
    intro e he
    have : e.born ∈ (es.modify n fun e => { e with key := ek k, val := v }).map (·.born) := List.mem_map_of_mem (f := MapEntry.born) he
    rw [hb] at this
    obtain ⟨e', h1, h2⟩ := List.mem_map.1 this
    rw [← h2]; exact a2 e' h1
instance {K : Type} [dec : DecidableEq K] {ek : K → Value} {b : Nat} {l : List (K × Value)} {k : K} {kv v : Value} {C : List (K × Value) → List HP} [hf : CtxM b L K dec ek l C] [hu : Und P t (.map kt vt)] [hk : KeyK P kt ek] [hq : KeyOf ek kv k] :
    Go (SXU P ro N ds lops Q t b kv v rest env L) Unit Unit Unit (fun a b c => ((), (), ()) = (a, b, c)) (fun _ _ _ => SXR P ro N ds lops Q rest env (C (aset k v l))) :=
  ⟨fun _ _ _ _ k' => ⟨by
    rintro _ ⟨x, y, c, s, p, af, rfl, hx, hy, hc⟩
    have hq' := hq.eq
    subst hq'
    obtain ⟨R, p1, p2⟩ := hf.perm
    refine SXR.step rfl (fun _ => by cases ro <;> rfl) fun a w ha hw => ?_
    obtain ⟨w', r1, r2⟩ := run_mapUpdate (P := P) (t := t) (k := k) (v := v) (hw.perm p1)
    refine ⟨w', undef, _, .inr ⟨?_, rfl⟩, r2.perm (p2 _), k'⟩
    simp [execOp, ha.ev hx, ha.ev hy, ha.ev hc, r1]⟩⟩
structure SXD (P : Program) (ro : Option Nat) (N : Nat) (ds : List Deferred) (lops : List Oper) (Q : Exit → Act → World → Prop) (t : TypeId) (b : Nat) (kv : Value) (d : Tmp) (rest : List Oper) (env : Env) (L : List HP) : Prop where
  h : ∀ o : Oper, (∃ x y t2 s p af, o = ⟨some d, .call ⟨.builtin .delete, [x, y].toArray, [t, t2].toArray⟩, s, p, af, none⟩ ∧ ev env x = some (.map (some b)) ∧ ev env y = some kv) → SXR P ro N ds lops Q (o :: rest) env L
instance : Go (SXR P ro N ds lops Q (⟨some d, .call ⟨.builtin .delete, [x, y].toArray, [t, t2].toArray⟩, s, p, af, none⟩ :: rest) env L) Nat Value Unit (fun b v c => (match evMapK env x y with | some (b, v) => some (b, v, ()) | none => none) = some (b, v, c)) (fun b v _ => SXD P ro N ds lops Q t b v d rest env L) :=
  ⟨fun b v _ e k => k.h _ (by
    have h' : evMapK env x y = some (b, v) := by split at e <;> simp_all
    exact ⟨x, y, t2, s, p, af, rfl, evMapK_some h'⟩)⟩
theorem run_delete {K : Type} [DecidableEq K] {ek : K → Value} {b : Nat} {l : List (K × Value)} {w : World} {k : K} [hu : Und P t (.map kt vt)] [hk : KeyK P kt ek] (hw : Sat w (mapB ek b l :: R)) :
    ∃ w', (Builtin.delete_ #[t, t2] tt #[.map (some b), ek k]).run P w = .ok (.tuple #[]) w' ∧ Sat w' (mapB ek b (adel k l) :: R) := by
  obtain ⟨es, clock, a1, a2, a3, a4, a5⟩ := mapB_get hw
  unfold Builtin.delete_
  simp only [List.getElem?_toArray, List.getElem?_cons_zero, List.getElem?_cons_succ, Sem.run_bind, run_underlying hu.eq, Result.andThen_ok, run_getMap a5.pts, hk.check]
  simp only [hk.find k l es a1]
  cases hf : findP k l 0 with
  | none =>
    obtain ⟨_, _, g3⟩ := findP_none hf
    simp only [Result.andThen_ok, Sem.run_bind, run_setMap a5.pts, Sem.run_pure]
    obtain ⟨q1, q2⟩ := upd_heap (.map es.toArray clock) a5.pts
    refine ⟨_, rfl, ?_⟩
    rw [g3]
    exact mapB_put a1 a2 a3 a4 (a5.upd q1 q2)
  | some q =>
    obtain ⟨n, u⟩ := q
    obtain ⟨n', hn', h2, _, h4, _⟩ := findP_some hf
    have hn' : n = n' := by omega
    subst hn'
    simp only [Result.andThen_ok, Sem.run_bind, run_setMap a5.pts, Sem.run_pure]
    obtain ⟨q1, q2⟩ := upd_heap (.map (es.toArray.eraseIdxIfInBounds n) clock) a5.pts
    refine ⟨_, rfl, ?_⟩
    have hl : es.length = l.length := by simpa using congrArg List.length a1
    have hnl : n < l.length := (List.getElem?_eq_some_iff.1 h2).1
    have e1 : es.toArray.eraseIdxIfInBounds n = (es.eraseIdx n).toArray := by
      unfold Array.eraseIdxIfInBounds
      rw [dif_pos (by simpa [hl] using hnl)]
      simp
    rw [← h4]
    refine mapB_put (es := es.eraseIdx n) (clock := clock) ?_ (fun e he => a2 e (List.mem_of_mem_eraseIdx he)) ?_ (by rw [h4]; exact nodup_adel a4) (by rw [← e1]; exact a5.upd q1 q2)
    · rw [map_eraseIdx', a1, map_eraseIdx']
    · rw [map_eraseIdx']; exact List.Nodup.sublist (List.eraseIdx_sublist _ _) a3
instance {K : Type} [dec : DecidableEq K] {ek : K → Value} {b : Nat} {l : List (K × Value)} {k : K} {kv : Value} {C : List (K × Value) → List HP} [hf : CtxM b L K dec ek l C] [hu : Und P t (.map kt vt)] [hk : KeyK P kt ek] [hq : KeyOf ek kv k] :
    Go (SXD P ro N ds lops Q t b kv d rest env L) Unit Unit Unit (fun a b c => ((), (), ()) = (a, b, c)) (fun _ _ _ => SXR P ro N ds lops Q rest ((d, .tuple #[]) :: env) (C (adel k l))) :=
  ⟨fun _ _ _ _ k' => ⟨by
    rintro _ ⟨x, y, t2, s, p, af, rfl, hx, hy⟩
    have hq' := hq.eq
    subst hq'
    obtain ⟨R, p1, p2⟩ := hf.perm
    refine SXR.step rfl (fun _ => by cases ro <;> rfl) fun a w ha hw => ?_
    obtain ⟨w', r1, r2⟩ := run_delete (P := P) (t := t) (t2 := t2) (tt := s) (k := k) (hw.perm p1)
    refine ⟨w', .tuple #[], _, .inl ?_, r2.perm (p2 _), k'⟩
    simp [execOp, resolve, invoke, builtin, ha.ev hx, ha.ev hy, r1]⟩⟩
theorem SXR.mapLen {K : Type} [dec : DecidableEq K] {ek : K → Value} {b : Nat} {l : List (K × Value)} [hf : FindM b L K dec ek l R] [hu : Und P t (.map kt vt)] (hx : ev env x = some (.map (some b)))
    (k : SXR P ro N ds lops Q rest ((d, .int .i64 l.length) :: env) L) : SXR P ro N ds lops Q (⟨some d, .call ⟨.builtin .len, [x].toArray, [t].toArray⟩, tt, p, af, none⟩ :: rest) env L :=
  SXR.val rfl (fun _ => by cases ro <;> rfl) (fun A w ha hw => by
    obtain ⟨es, clock, a1, a2, a3, a4, a5⟩ := mapB_get (hw.perm hf.perm)
    have hl : es.length = l.length := by simpa using congrArg List.length a1
    simp [execOp, resolve, invoke, builtin, Builtin.len_, ha.ev hx, run_underlying hu.eq, run_getMap a5.pts, goInt, hl]) k

/-! ### a range over a map -/
/-- A map while it is ranged over: what it holds, and what of it has not come yet. -/
def mapIt {K : Type} [DecidableEq K] (ek : K → Value) (b it : Nat) (l todo : List (K × Value)) : HP := fun m => ∃ (es : List MapEntry) (clock : Nat) (seen : List Nat),
  (es.map (fun e => (e.key, e.val)) = l.map (fun p => (ek p.1, p.2)) ∧ (∀ e ∈ es, e.born < clock) ∧ (es.map (·.born)).Nodup ∧ (keysOf l).Nodup ∧ (es.filter fun e => !seen.contains e.born).map (fun e => (e.key, e.val)) = todo.map (fun p => (ek p.1, p.2))) ∧
  big [pts b (.map es.toArray clock), pts it (.mapIter (some b) clock seen.toArray clock)] m
instance : Go (SXR P ro N ds lops Q (⟨some d, .range t x, tt, p, af, none⟩ :: rest) env L) Nat Unit Unit (fun b a c => (match ev env x with | some (.map (some b)) => some (b, (), ()) | _ => none) = some (b, a, c))
    (fun b _ _ => ∀ (o : Oper), o = ⟨some d, .range t x, tt, p, af, none⟩ → ev env x = some (.map (some b)) → SXR P ro N ds lops Q (o :: rest) env L) :=
  ⟨fun b _ _ e k => k _ rfl (by split at e <;> simp_all)⟩
theorem SXR.range {K : Type} [dec : DecidableEq K] {ek : K → Value} {b : Nat} {l : List (K × Value)} [hf : FindM b L K dec ek l R] [hu : Und P t (.map kt vt)] (hx : ev env x = some (.map (some b)))
    (k : ∀ it, SXR P ro N ds lops Q rest ((d, .pointer (some ⟨it, 0, none⟩)) :: env) (mapIt ek b it l l :: R)) : SXR P ro N ds lops Q (⟨some d, .range t x, tt, p, af, none⟩ :: rest) env L :=
  SXR.step rfl (fun _ => by cases ro <;> rfl) fun a w ha hw => by
    obtain ⟨es, clock, a1, a2, a3, a4, a5⟩ := mapB_get (hw.perm hf.perm)
    refine ⟨{ w with heap := w.heap.push (.mapIter (some b) clock #[] clock) }, _, _, .inl ?_, ?_, k w.heap.size⟩
    · simp [execOp, Instr.range, ha.ev hx, run_underlying hu.eq, run_getMap a5.pts, newObj, Sem.run]
    · have h2 : Sat { w with heap := w.heap.push (.mapIter (some b) clock #[] clock) } (pts w.heap.size (.mapIter (some b) clock #[] clock) :: pts b (.map es.toArray clock) :: R) := a5.new rfl
      have h3 := big_pack (L1 := [pts b (.map es.toArray clock), pts w.heap.size (.mapIter (some b) clock #[] clock)]) (L2 := R) (big_swap h2)
      exact big_head (fun m h => ⟨es, clock, [], ⟨a1, a2, a3, a4, by rw [← a1]; congr 1; simp⟩, h⟩) _ h3
theorem mapIt_done {K : Type} [DecidableEq K] {ek : K → Value} {b it : Nat} {l todo : List (K × Value)} : ∀ m, mapIt ek b it l todo m → mapB ek b l m :=
  fun m ⟨es, clock, seen, ⟨a1, a2, a3, a4, a5⟩, h⟩ => ⟨es, clock, a1, a2, a3, a4, by
    obtain ⟨m1, m2, h1, _, _, hH, _⟩ := h
    exact h1 _ _ hH⟩
theorem run_choose_next {n : Nat} (hn : 0 < n) (w : World) : ∃ i w', i < n ∧ (choose (.mapNext n)).run P w = .ok i w' ∧ w'.heap = w.heap ∧ w'.os = w.os ∧ w'.output = w.output := by
  rw [run_choose]
  by_cases h : n ≤ 1
  · have : n = 1 := by omega
    subst this
    exact ⟨0, w, by omega, by simp [Question.forced], rfl, rfl, rfl⟩
  · refine ⟨(Question.mapNext n).cut (w.tape w.drawn (.mapNext n)), w.drew, ?_, by simp [Question.forced, h], rfl, rfl, rfl⟩
    simp only [Question.cut]; exact Nat.mod_lt _ hn
/-- The next of a map. -/
theorem SXR.next {K : Type} [dec : DecidableEq K] {ek : K → Value} {b it : Nat} {l todo : List (K × Value)} [hf : Pick (mapIt ek b it l todo) L R] (hx : ev env x = some (.pointer (some ⟨it, 0, none⟩)))
    (k0 : todo = [] → SXR P ro N ds lops Q rest ((d, .tuple [.bool false].toArray) :: env) (mapIt ek b it l todo :: R))
    (k1 : ∀ i q, todo[i]? = some q → SXR P ro N ds lops Q rest ((d, .tuple [.bool true, ek q.1, q.2].toArray) :: env) (mapIt ek b it l (todo.eraseIdx i) :: R)) :
    SXR P ro N ds lops Q (⟨some d, .next x false, tt, p, af, none⟩ :: rest) env L := by
  cases htodo : todo with
  | nil =>
    subst htodo
    refine SXR.step rfl (fun _ => by cases ro <;> rfl) fun a w ha hw => ?_
    have hw' := hw.perm hf.perm
    obtain ⟨m1, m2, g1, g2, hd, ⟨es, clock, seen, ⟨a1, a2, a3, a4, a5⟩, hb⟩, hL⟩ := hw.perm hf.perm
    have hs : Sat w ([pts b (.map es.toArray clock), pts it (.mapIter (some b) clock seen.toArray clock)] ++ R) := big_flat ⟨m1, m2, g1, g2, hd, hb, hL⟩
    have hs0 := hs
    have hmap := hs.pts
    have hit := Sat.pts (big_tail hs0)
    have hfil : (es.filter fun e => !seen.contains e.born) = [] := by simpa using a5
    refine ⟨w, .tuple [.bool false].toArray, _, .inl ?_, hw', k0 rfl⟩
    have hgi : (getObj it).run P w = .ok (.mapIter (some b) clock seen.toArray clock) w := by simp [getObj, Sem.run, hit]
    have hall : (!seen.toArray.isEmpty && !es.toArray.isEmpty && es.toArray.all (·.born ≥ clock)) = false := by
      cases es with
      | nil => simp
      | cons e r =>
        have := a2 e (by simp)
        simp; intro _; omega
    have hl : (es.toArray.filter fun e => !seen.toArray.contains e.born) = #[] := by
      apply Array.ext'
      simp only [Array.toList_filter, List.contains_toArray] 
      simpa using hfil
    simp only [execOp, Instr.next, ha.ev hx, Sem.run_bind, hgi, Result.andThen_ok, run_getMap hmap, hall, hl]
    simp [run_choose, Question.forced]
  | cons q0 r0 =>
    have hne : 0 < todo.length := by rw [htodo]; simp
    clear htodo
    refine SXR.step rfl (fun _ => by cases ro <;> rfl) fun a w ha hw => ?_
    obtain ⟨m1, m2, g1, g2, hd, ⟨es, clock, seen, ⟨a1, a2, a3, a4, a5⟩, hbb⟩, hL⟩ := hw.perm hf.perm
    have hs : Sat w ([pts b (.map es.toArray clock), pts it (.mapIter (some b) clock seen.toArray clock)] ++ R) := big_flat ⟨m1, m2, g1, g2, hd, hbb, hL⟩
    have hs0 := hs
    have hmap := hs.pts
    have hit := Sat.pts (big_tail hs0)
    have hgi : (getObj it).run P w = .ok (.mapIter (some b) clock seen.toArray clock) w := by simp [getObj, Sem.run, hit]
    have hall : (!seen.toArray.isEmpty && !es.toArray.isEmpty && es.toArray.all (·.born ≥ clock)) = false := by
      cases es with
      | nil => simp
      | cons e r =>
        have := a2 e (by simp)
        simp; intro _; omega
    -- what is left
    let left := es.filter fun e => !seen.contains e.born
    have hleft : (es.toArray.filter fun e => !seen.toArray.contains e.born) = left.toArray := by
      apply Array.ext'
      simp only [Array.toList_filter, List.contains_toArray]; rfl
    have hll : left.length = todo.length := by have := congrArg List.length a5; rwa [List.length_map, List.length_map] at this
    have hold : (left.toArray.filter fun e => decide (e.born < clock)) = left.toArray := by
      apply Array.ext'
      simp only [Array.toList_filter]
      rw [List.filter_eq_self]
      intro e he
      have := a2 e (List.mem_filter.1 he).1
      simpa using this
    have hnew : (left.toArray.filter fun e => decide (e.born ≥ clock)) = #[] := by
      apply Array.ext'
      simp only [Array.toList_filter]
      rw [List.filter_eq_nil_iff]
      intro e he
      have := a2 e (List.mem_filter.1 he).1
      simp; omega
    obtain ⟨i, w1, hi, hch, e1, e2, e3⟩ := run_choose_next (P := P) hne w
    obtain ⟨e, he⟩ : ∃ e, left[i]? = some e := ⟨left[i]'(by omega), List.getElem?_eq_getElem (by omega)⟩
    obtain ⟨q, hq⟩ : ∃ q, todo[i]? = some q := ⟨todo[i], List.getElem?_eq_getElem hi⟩
    have heq : (e.key, e.val) = (ek q.1, q.2) := by
      have := congrArg (fun x => x[i]?) a5
      have h2 : (left.map fun e => (e.key, e.val))[i]? = (todo.map (fun p => (ek p.1, p.2)))[i]? := this
      rw [List.getElem?_map, List.getElem?_map, he, hq] at h2
      simpa using h2
    simp only [Prod.mk.injEq] at heq
    have hs1 : Sat w1 ([pts b (.map es.toArray clock), pts it (.mapIter (some b) clock seen.toArray clock)] ++ R) := Sat.heap hs0 e1 e2 e3
    have hit1 : w1.heap[it]? = some (.mapIter (some b) clock seen.toArray clock) := by rw [e1]; exact hit
    obtain ⟨q1, q2⟩ := upd_heap (.mapIter (some b) clock (seen.toArray.push e.born) clock) hit1
    have hs2 : Sat { w1 with heap := w1.heap.setIfInBounds it (.mapIter (some b) clock (seen.toArray.push e.born) clock) } (pts it (.mapIter (some b) clock (seen.toArray.push e.born) clock) :: pts b (.map es.toArray clock) :: R) :=
      Sat.upd (big_swap hs1) q1 q2
    have hmem : e ∈ left := List.mem_of_getElem? he
    have hes : e ∈ es := (List.mem_filter.1 hmem).1
    have hfil2 : (es.filter fun x => !(seen ++ [e.born]).contains x.born) = left.eraseIdx i := by
      have h0 : (es.filter fun x => !(seen ++ [e.born]).contains x.born) = left.filter (fun x => x.born != e.born) := by
        show _ = (es.filter fun e => !seen.contains e.born).filter _
        rw [List.filter_filter]
        apply List.filter_congr
        intro x hx
        simp [Bool.and_comm]
        by_cases h1 : x.born ∈ seen <;> by_cases h2 : x.born = e.born <;> simp [h1, h2]
      rw [h0]
      have hnd : (left.map (·.born)).Nodup := List.Nodup.sublist (List.Sublist.map _ List.filter_sublist) a3
      have key : ∀ (l : List MapEntry) (i : Nat), (l.map (·.born)).Nodup → l[i]? = some e → l.filter (fun x => x.born != e.born) = l.eraseIdx i := by
        intro l
        induction l with
        | nil => intro i _ h; simp at h
        | cons y r ih =>
          intro i hn h
          simp only [List.map_cons, List.nodup_cons] at hn
          cases i with
          | zero =>
            simp at h; subst h
            simp only [List.filter_cons, bne_self_eq_false, Bool.false_eq_true, if_false, List.eraseIdx_cons_zero]
            rw [List.filter_eq_self]
            intro x hx
            have : x.born ≠ y.born := fun h => hn.1 (h ▸ List.mem_map_of_mem (f := MapEntry.born) hx)
            simpa using this
          | succ i =>
            simp at h
            have : y.born ≠ e.born := fun h' => hn.1 (h' ▸ List.mem_map_of_mem (f := MapEntry.born) (List.mem_of_getElem? h))
            simp only [List.filter_cons, List.eraseIdx_cons_succ]
            rw [if_pos (by simpa using this), ih i hn.2 h]
      exact key left i hnd he
    have hfin : Sat { w1 with heap := w1.heap.setIfInBounds it (.mapIter (some b) clock (seen.toArray.push e.born) clock) } (mapIt ek b it l (todo.eraseIdx i) :: R) := by
      refine big_head (fun m h => ⟨es, clock, seen ++ [e.born], ⟨a1, a2, a3, a4, ?_⟩, h⟩) _ (big_pack (L1 := [pts b (.map es.toArray clock), pts it (.mapIter (some b) clock (seen ++ [e.born]).toArray clock)]) (L2 := R) ?_)
      · rw [hfil2, map_eraseIdx']
        rw [show left.map (fun e => (e.key, e.val)) = todo.map (fun p => (ek p.1, p.2)) from a5, map_eraseIdx']
      · rw [show (seen ++ [e.born]).toArray = seen.toArray.push e.born by simp]
        exact big_swap hs2
    refine ⟨_, .tuple [.bool true, ek q.1, q.2].toArray, _, .inl ?_, hfin, k1 i q hq⟩
    have hsz : left.toArray.size = todo.length := by simp [hll]
    simp only [execOp, Instr.next, ha.ev hx, Sem.run_bind, hgi, Result.andThen_ok, run_getMap hmap, hall, hleft, hold, hnew]
    have hne2 : left.toArray.isEmpty = false := by
      rw [Array.isEmpty_eq_false_iff]
      intro h
      rw [h] at hsz; simp at hsz; omega
    simp only [hne2, Bool.false_eq_true, if_false, Array.append_empty, Array.empty_append, Array.size_map, hsz, hch, Sem.run_bind, Result.andThen_ok, Array.getElem?_map, List.getElem?_toArray, he, Option.map_some]
    have hset : (setObj it (.mapIter (some b) clock (seen.toArray.push e.born) clock)).run P w1 = .ok () { w1 with heap := w1.heap.setIfInBounds it (.mapIter (some b) clock (seen.toArray.push e.born) clock) } := by
      simp [setObj, Sem.run, hit1]
    simp only [hset, Sem.run_bind, Result.andThen_ok, Sem.run_pure, heq.1, heq.2]
end
end Go.Sl
