import Derived.Test.YtlgphhknfocfaaaSlLoop
namespace Go.Sl
section
variable {P : Program} {ro : Option Nat} {N : Nat} {ds : List Deferred} {lops : List Oper} {Q : Exit → Act → World → Prop} {rest : List Oper} {env env' : Env} {L R R0 : List HP}

/-! ### the frame of a function -/
def ResC (P : Program) (L : List HP) (env : Env) (a : Tmp) (t : TypeId) (v : Value) : Prop :=
  ∃ b off, lk env a = some (.pointer (some ⟨b, off, none⟩)) ∧ (∀ w, Sat w L → (loadVar t ⟨b, off, none⟩).run P w = .ok v w)
inductive ResR (P : Program) (L : List HP) (env : Env) : List ResultVar → List Value → Prop
  | nil : ResR P L env [] []
  | tmp {t : Tmp} {v : Value} {r : List ResultVar} {vs : List Value} : lk env t = some v → ResR P L env r vs → ResR P L env (.tmp t :: r) (v :: vs)
  | cell {a : Tmp} {t : TypeId} {v : Value} {r : List ResultVar} {vs : List Value} : ResC P L env a t v → ResR P L env r vs → ResR P L env (.cell a t :: r) (v :: vs)
theorem resC {a : Tmp} {t : TypeId} {b off : Nat} {vs : List Value} {T : TypeId} {fr : Nat × Nat} {v : Value} (h : lk env a = some (.pointer (some ⟨b, off, none⟩))) [ht : Scalar P t] [hf : FindB b L (.cells vs.toArray T fr) R] (hn : nth vs off = some v) : ResC P L env a t v :=
  ⟨b, off, h, fun w hw => by simp [loadVar, ht.agg, cell_of (Sat.find (h := hf) hw), ← nth_eq, hn]⟩
@[reducible] def retV : List Value → Value
  | [v] => v
  | vs => .tuple vs.toArray
theorem results_list {rs : List ResultVar} {vs : List Value} {a : Act} {w : World} (ha : Ag N ds env a) (hw : Sat w L) {fn : Func} (hrs : fn.results = rs.toArray) (hr : ResR P L env rs vs) : (results fn a.tmps).run P w = .ok (retV vs) w := by
  have get : ∀ t v, lk env t = some v → a.tmps.getD t undef = v := fun t v h => by simp [Array.getD_eq_getD_getElem?, ha.get _ _ h]
  have key : ∀ (F : ResultVar → Sem Value), (∀ t, F (.tmp t) = pure (a.tmps.getD t undef)) → (∀ b t, F (.cell b t) = do loadVar t (← asAddr (a.tmps.getD b undef))) → ∀ (rs : List ResultVar) (vs : List Value), ResR P L env rs vs → (rs.mapM F).run P w = .ok vs w := by
    intro F hF hC rs vs h
    induction h with
    | nil => simp
    | tmp h1 h2 ih => simp only [List.mapM_cons, Sem.run_bind, hF, Sem.run_pure, Result.andThen_ok, ih, get _ _ h1]
    | cell h0 h2 ih =>
      obtain ⟨b', off, h1, h3⟩ := h0
      simp only [List.mapM_cons, Sem.run_bind, hC, Sem.run_pure, Result.andThen_ok, ih, get _ _ h1, asAddr, h3 w hw]
  unfold results
  rw [hrs, List.mapM_toArray, Sem.run_bind, Sem.run_map, key _ (fun _ => rfl) (fun _ _ => rfl) rs vs hr]
  match vs with
  | [] => simp [retV]
  | [v] => simp [retV]
  | v :: u :: r => simp [retV]

def RetM (P : Program) (rs : List ResultVar) (R : List HP) (Post : Value → List HP → Prop) : Exit → Act → World → Prop
  | .normal, a, w | .ret, a, w => ∀ fn : Func, fn.results = rs.toArray → LeavesInM (wideR none) 0 P fn a.tmps (fun e w' => ∃ v L', Post v L' ∧ e = .returned v ∧ Sat w' (L' ++ R)) a.defers .returning w
  | _, _, _ => False
theorem tri_intro {f : FuncId} {fn : Func} {c : Code} {rs : List ResultVar} {args : List Value} {pre : List HP} {Post : Value → List HP → Prop} (hf : P.funcs[f]? = some fn) (hb : fn.body = some c) (hrs : fn.results = rs.toArray)
    (hN : fn.ntmps = N) (hlen : Nat.ble args.length N = true) (hbel : below N c = true)
    {F : List HP → List HP} [hA : ∀ R, App pre R (F R)] (h0 : ∀ R, SXC P none N [] c (RetM P rs R Post) (env0 0 args) (F R)) : Tri P f args pre Post := by
  have h : ∀ R, SXC P none N [] c (RetM P rs R Post) (env0 0 args) (pre ++ R) := fun R => by rw [(hA R).eq]; exact h0 R
  refine ⟨fun w R hw => calls_of_wideR (n := 0) (callsIn_of_wp_marks hf hb trivial (wpIn_mono ((h R).h hbel _ _ ?_ hw) ?_))⟩
  · have hlen : args.length ≤ N := Nat.le_of_ble_eq_true hlen
    have key : ∀ (l : List Value) (n k : Nat) (v : Value), lk (env0 n l) k = some v → n ≤ k ∧ l[k - n]? = some v := by
      intro l
      induction l with
      | nil => intro n k v h; unfold env0 lk at h; cases h
      | cons u r ih =>
        intro n k v h
        unfold env0 at h
        by_cases e : n = k
        · subst e; rw [lk_here] at h; cases h; simp
        · rw [lk_there e] at h
          obtain ⟨h1, h2⟩ := ih _ _ _ h
          refine ⟨by omega, ?_⟩
          rw [show k - n = (k - (n + 1)) + 1 by omega]; simpa using h2
    refine ⟨by simp [hN]; omega, rfl, fun k v hk => ?_⟩
    obtain ⟨_, h2⟩ := key _ _ _ _ hk
    have : k < args.length := by
      have := (List.getElem?_eq_some_iff.1 h2).1; omega
    rw [Array.getElem?_append_left (by simpa using this)]
    simpa using h2
  · intro e a w q
    cases e with
    | normal => exact q fn hrs
    | ret => exact q fn hrs
    | exit => exact q.elim
    | goto => exact q.elim
    | panic => exact q.elim
    | outgrown => exact q.elim
theorem big_appR {A B C : List HP} (h : ∀ m, big B m → big C m) : ∀ {m : PH}, big (A ++ B) m → big (A ++ C) m := by
  induction A with
  | nil => exact fun x => h _ x
  | cons X A ih => exact fun x => big_map (fun m y => ih y) _ x
theorem fin_ret {rs : List ResultVar} {vs : List Value} {R R' L' : List HP} {Post : Value → List HP → Prop} (hr : ResR P L env rs vs) (hP : Post (retV vs) L') [hp : Picks L' L R'] [ht : Tail R' R] :
    Fin N [] (RetM P rs R Post) .ret env L :=
  ⟨fun a w ha hw fn hrs => by
    rw [ha.defers]
    exact ⟨_, results_list ha hw hrs hr, _, L', hP, rfl, big_appR ht.drop (hw.perm hp.perm)⟩⟩
theorem fin_end {rs : List ResultVar} {vs : List Value} {R R' L' : List HP} {Post : Value → List HP → Prop} (hr : ResR P L env rs vs) (hP : Post (retV vs) L') [hp : Picks L' L R'] [ht : Tail R' R] :
    Fin N [] (RetM P rs R Post) .normal env L := ⟨(fin_ret (N := N) hr hP).h⟩
def markOf (D : Nat) : Deferred := { target := .collected D, args := #[] }
/-- The mark of a range over a function, at the frame's end. -/
theorem fin_mark {rs : List ResultVar} {R L1 : List HP} {D : Nat} {Post : Value → List HP → Prop} [hp : Pick (pts D (.deferred (some []))) L L1] (k : Fin N ds (RetM P rs R Post) .ret env L1) :
    Fin N (markOf D :: ds) (RetM P rs R Post) .ret env L :=
  ⟨fun a w ha hw fn hrs => by
    have hD := (hw.perm hp.perm).pts
    obtain ⟨g1, g2⟩ := upd_heap (.deferred none) hD
    have := k.h { a with defers := ds } { w with heap := w.heap.setIfInBounds D (.deferred none) } ⟨ha.size, rfl, ha.get⟩ (big_tail ((hw.perm hp.perm).upd g1 g2)) fn hrs
    rw [ha.defers]
    refine ⟨by simp, .inl ⟨D, _, rfl, ?_, this⟩⟩
    simp only [Instr.takeDeferred, getObj, setObj, Sem.run_bind, Sem.run, hD, Result.andThen_ok, Sem.run_pure]⟩
theorem fin_mark_end {rs : List ResultVar} {R L1 : List HP} {D : Nat} {Post : Value → List HP → Prop} [hp : Pick (pts D (.deferred (some []))) L L1] (k : Fin N ds (RetM P rs R Post) .normal env L1) :
    Fin N (markOf D :: ds) (RetM P rs R Post) .normal env L := ⟨(fin_mark (hp := hp) ⟨k.h⟩).h⟩

/-! ### the statement that ranges over a function -/
structure IsLoop (N : Nat) (env : Env) (ps : List Tmp) (as body : Code) (r : Loop) : Prop where
  state : r.state = .ready
  pending : r.pending = none
  params : r.params = ps.toArray
  assign : r.assign = as
  body : r.body = body
  size : r.tmps.size = N
  get : ∀ k v, lk env k = some v → r.tmps[k]? = some v
theorem ytri_of {ps : List Tmp} {asg body : Code} {l : Nat} {r : Loop} {args : List Value} {pre : List HP} {Post : Value → List HP → Prop} (hl : IsLoop N env ps asg body r) (hlen : Nat.beq ps.length args.length = true)
    (hb1 : below N asg = true) (hb2 : below N body = true) (hps2 : ps.all (Nat.blt · N) = true) {F : List HP → List HP} [hA : ∀ R, App (pts l (.loop r) :: pre) R (F R)]
    (h : ∀ R, SXC P (some l) N [] asg (AsgQ P l N body R Post) ((ps.zip args).reverse ++ env) (F R)) : YTri P l args (pts l (.loop r) :: pre) Post :=
  ytri_intro (hA := hA) hl.size hl.get hl.params (Nat.eq_of_beq_eq_true hlen) (by rw [hl.assign]; exact hb1) (by rw [hl.body]; exact hb2) hps2 (by rw [hl.assign, hl.body]; exact h)
theorem SXC.rangeFunc {g : Operand} {ps : List Tmp} {as body : Code} {f : FuncId} {caps : List Value} {pre : List HP} {Post : Option Code → List HP → Prop} [hc : CalF P f] (hg : ev env g = some (.func (.func f) #[] caps.toArray))
    [hp : Picks pre L R]
    (spec : ∀ l r, IsLoop N env ps as body r → Tri P f (.func (.yield l) #[] #[] :: caps) (pts l (.loop r) :: pre) (fun _ L' => ∃ st pd L'', st ≠ .busy ∧ L' = pts l (.loop { r with state := st, pending := pd }) :: L'' ∧ Post pd L''))
    (kn : ∀ D L'', Post none L'' → Fin N (markOf D :: ds) Q .normal env (pts D (.deferred (some [])) :: (L'' ++ R)))
    (ks : ∀ D L'' c, Post (some c) L'' → below N c = true ∧ SXC P none N (markOf D :: ds) c Q env (pts D (.deferred (some [])) :: (L'' ++ R))) :
    SXC P none N ds (.rangeFunc g ps.toArray as body) Q env L := by
  refine ⟨fun hb a w ha hw => wpIn_rangeFunc fun fn _ => ?_⟩
  let r : Loop := { state := .ready, pending := none, fn, tmps := a.tmps, params := ps.toArray, assign := as, body, defers := w.heap.size }
  let w1 : World := { w with heap := w.heap.push (.deferred (some [])) }
  let w2 : World := { w1 with heap := w1.heap.push (.loop r) }
  have hr : IsLoop N env ps as body r := ⟨rfl, rfl, rfl, rfl, rfl, ha.size, ha.get⟩
  have hs1 : Sat w1 (pts w.heap.size (.deferred (some [])) :: L) := hw.new rfl
  have hs2 : Sat w2 (pts w1.heap.size (.loop r) :: pts w.heap.size (.deferred (some [])) :: L) := hs1.new rfl
  have hs3 : Sat w2 ((pts w1.heap.size (.loop r) :: pre) ++ (pts w.heap.size (.deferred (some [])) :: R)) := by
    refine hs2.perm ?_
    refine List.Perm.cons _ ?_
    exact (List.Perm.cons _ hp.perm).trans (List.perm_middle.symm)
  refine ⟨w1.heap.size, [markOf w.heap.size], w2, { target := .fn (.func f) caps.toArray, args := #[.func (.yield w1.heap.size) #[] #[]] }, w2, f, (.func (.yield w1.heap.size) #[] #[] :: caps).toArray, w2, ?_, ?_, fun _ _ => trivial, ?_, by simp [wideR, Fence.wide], callsIn_wideR ?_⟩
  · simp [Instr.enterLoop, wideR, newObj, Sem.run, markOf, w1, w2, r]
  · have hgv := ha.ev hg
    have hy : ∀ v, a.eval (.const v) = v := fun _ => rfl
    simp [resolve, hgv, hy, Deferred.ofValue]
  · simp [invoke, hc.run]
  · intro cs
    obtain ⟨e, w', fr, ⟨v, L', ⟨st, pd, L'', hst, rfl, hP⟩, rfl, hS⟩, rest'⟩ := (spec w1.heap.size r hr).h w2 _ hs3 cs
    refine ⟨.returned v, w', fr, ?_, rest'⟩
    have hl : w'.heap[w1.heap.size]? = some (.loop { r with state := st, pending := pd }) := Sat.pts hS
    obtain ⟨g1, g2⟩ := upd_heap (.loop { r with state := .exhausted, pending := pd }) hl
    have hS2 := Sat.upd (w' := { w' with heap := w'.heap.setIfInBounds w1.heap.size (.loop { r with state := .exhausted, pending := pd }) }) hS g1 g2
    have hS3 : Sat { w' with heap := w'.heap.setIfInBounds w1.heap.size (.loop { r with state := .exhausted, pending := pd }) } (pts w.heap.size (.deferred (some [])) :: (L'' ++ R)) :=
      (big_perm List.perm_middle (big_tail hS2))
    refine ⟨pd, { w' with heap := w'.heap.setIfInBounds w1.heap.size (.loop { r with state := .exhausted, pending := pd }) }, ?_, ?_⟩
    · simp only [Instr.endLoop, Sem.run_bind, run_getLoop hl, Result.andThen_ok, run_setObj hl]
      rw [if_neg (by simpa using hst)]
      simp [run_setObj hl]
    · have hag : Ag N (markOf w.heap.size :: ds) env { a with defers := [markOf w.heap.size] ++ a.defers } := ⟨ha.size, by simp [ha.defers], ha.get⟩
      cases pd with
      | none => exact (kn _ _ hP).h _ _ hag hS3
      | some c =>
        obtain ⟨hbc, k⟩ := ks w.heap.size L'' c hP
        exact k.h hbc _ _ hag hS3
end
end Go.Sl
