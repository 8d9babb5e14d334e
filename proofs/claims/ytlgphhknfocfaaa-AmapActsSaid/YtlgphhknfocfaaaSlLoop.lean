import Derived.Test.YtlgphhknfocfaaaSlDraw
import Derived.RangeFuncIn
import Derived.RangeFuncLeaves
import Derived.Deep.LoopGhost
namespace Go.Sl
section
variable {P : Program} {ro : Option Nat} {N : Nat} {ds : List Deferred} {lops : List Oper} {Q : Exit → Act → World → Prop} {rest : List Oper} {env env' : Env} {L R R0 : List HP}

/-! ### a loop -/
def SubL (env : Env) : Env → Prop
  | [] => True
  | (k, v) :: r => lk env k = some v ∧ SubL env r
theorem SubL.get : ∀ {r : Env} {k : Nat} {v : Value}, SubL env r → lk r k = some v → lk env k = some v
  | [], _, _, _, h => by unfold lk at h; cases h
  | (k', v') :: r, k, v, ⟨h1, h2⟩, h => by
    by_cases e : k' = k
    · subst e; rw [lk_here] at h; cases h; exact h1
    · rw [lk_there e] at h; exact h2.get h
theorem Ag.sub {a : Act} (ha : Ag N ds env a) (h : SubL env env') : Ag N ds env' a := ⟨ha.size, ha.defers, fun _ _ hk => ha.get _ _ (h.get hk)⟩
theorem SXC.weak {c : Code} (h : SubL env env') (k : SXC P ro N ds c Q env' L) : SXC P ro N ds c Q env L := ⟨fun hb a w ha hw => k.h hb a w (ha.sub h) hw⟩
theorem SXC.ent {c : Code} {L' : List HP} (h : ∀ m, big L m → big L' m) (k : SXC P ro N ds c Q env L') : SXC P ro N ds c Q env L := ⟨fun hb a w ha hw => k.h hb a w ha (h _ hw)⟩
theorem SXR.ent {L' : List HP} (h : ∀ m, big L m → big L' m) (k : SXR P ro N ds lops Q rest env L') : SXR P ro N ds lops Q rest env L := ⟨fun hb a w ha hw => k.h hb a w ha (h _ hw)⟩
theorem Fin.ent {e : Exit} {L' : List HP} (h : ∀ m, big L m → big L' m) (k : Fin N ds Q e env L') : Fin N ds Q e env L := ⟨fun a w ha hw => k.h a w ha (h _ hw)⟩

def LoopQ {X : Type} (p : X → Prop) (N : Nat) (ds : List Deferred) (E : X → Env) (Li : X → List HP) (R0 : List HP) (μ : X → Nat) (x : X) (Q : Exit → Act → World → Prop) : Exit → Act → World → Prop :=
  Exit.then (fun a w => ∃ x', p x' ∧ μ x' < μ x ∧ Ag N ds (E x') a ∧ Sat w (Li x' ++ R0)) Q
theorem SXC.loop {X : Type} {c : Code} (p : X → Prop) (E : X → Env) (Li : X → List HP) (μ : X → Nat) (x0 : X) {F : X → List HP} (h0 : p x0) (hE : SubL env (E x0)) [hp : Picks (Li x0) L R0] [hA : ∀ x, App (Li x) R0 (F x)]
    (round : ∀ x, p x → SXC P ro N ds c (LoopQ p N ds E Li R0 μ x Q) (E x) (F x)) : SXC P ro N ds (.loop c) Q env L := by
  refine ⟨fun hb a w ha hw => ?_⟩
  let I : Nat → Act → World → Prop := fun n a w => ∃ x, p x ∧ μ x = n ∧ Ag N ds (E x) a ∧ Sat w (Li x ++ R0)
  refine wpIn_loop (fun a w => ∃ n, I n a w) (fun a w => leastOf (fun n => I n a w)) ⟨μ x0, x0, h0, rfl, ha.sub hE, hw.perm hp.perm⟩ ?_
  intro a w hI
  obtain ⟨x, hpx, hx, ha', hw'⟩ := (leastOf_spec hI).1
  have := (round x hpx).h hb a w ha' (by rw [← (hA x).eq]; exact hw')
  refine wpIn_mono this ?_
  intro e a' w' hq
  cases e with
  | normal =>
    obtain ⟨x', hp', hlt, h1, h2⟩ := hq
    refine ⟨⟨μ x', x', hp', rfl, h1, h2⟩, ?_⟩
    have := (leastOf_spec (p := fun n => I n a' w') ⟨μ x', x', hp', rfl, h1, h2⟩).2 (μ x') ⟨x', hp', rfl, h1, h2⟩
    omega
  | exit id => exact hq
  | goto l => exact hq
  | ret => exact hq
  | panic ch => exact hq
  | outgrown => exact hq
theorem fin_round {X : Type} {p : X → Prop} {E : X → Env} {Li : X → List HP} {μ : X → Nat} {x : X} {R' : List HP} (x' : X) (hp' : p x') (hμ : μ x' < μ x) (hE : SubL env (E x')) [hp : Picks (Li x') L R'] [ht : Tail R' R0] :
    Fin N ds (LoopQ p N ds E Li R0 μ x Q) .normal env L :=
  ⟨fun a w ha hw => ⟨x', hp', hμ, ha.sub hE, by
    have key : ∀ (A B C : List HP) (m : PH), (∀ m, big B m → big C m) → big (A ++ B) m → big (A ++ C) m := by
      intro A
      induction A with
      | nil => exact fun B C m h x => h m x
      | cons X A ih => exact fun B C m h x => big_map (fun m y => ih B C m h y) _ x
    exact key _ _ _ _ ht.drop (hw.perm hp.perm)⟩⟩
variable {X : Type} {pp : X → Prop} {E : X → Env} {Li : X → List HP} {μ : X → Nat} {x : X} {id : Nat}
instance : Go (Fin N ds (LoopQ pp N ds E Li R0 μ x Q) .ret env L) Unit Unit Unit (fun a b c => ((), (), ()) = (a, b, c)) (fun _ _ _ => Fin N ds Q .ret env L) := ⟨fun _ _ _ _ k => ⟨k.h⟩⟩
instance : Go (Fin N ds (LoopQ pp N ds E Li R0 μ x Q) (.exit id) env L) Unit Unit Unit (fun a b c => ((), (), ()) = (a, b, c)) (fun _ _ _ => Fin N ds Q (.exit id) env L) := ⟨fun _ _ _ _ k => ⟨k.h⟩⟩
end

/-! ### a range over a function -/
section
variable {P : Program} {ro : Option Nat} {N : Nat} {ds : List Deferred} {lops : List Oper} {Q : Exit → Act → World → Prop} {rest : List Oper} {env env' : Env} {L R R0 : List HP}

theorem roundIn_wideR {ro ro' : Option Nat} {n m : Nat} {l : Nat} {f : FuncId} {tmps : Array Value} {assign body : Code} {w : World} {K : Ending → World → Prop} (h : RoundIn (wideR ro) n P l f tmps assign body w K) :
    RoundIn (wideR ro') m P l f tmps assign body w K := ⟨trivial, fun c cs _ => h.2 c cs (fun _ h => by cases h)⟩
def withArgs (r : Loop) (args : List Value) : Array Value := (r.params.zip args.toArray).foldl (fun tmps (t, a) => tmps.setIfInBounds t a) r.tmps
/-- What one call of yield does: the round of loop l. -/
structure YTri (P : Program) (l : Nat) (args : List Value) (pre : List HP) (Post : Value → List HP → Prop) : Prop where
  h : ∀ w R, Sat w (pre ++ R) → ∃ r : Loop, w.heap[l]? = some (.loop r) ∧ r.params.size = args.length ∧
    RoundIn (wideR none) 0 P l r.fn (withArgs r args) r.assign r.body w fun e w' => ∃ v L', Post v L' ∧ e = .returned v ∧ Sat w' (L' ++ R)
theorem SXR.yield {l : Nat} {xs : List Operand} {f : Operand} {d : Tmp} {p : String} {af : Array Edge} {pre : List HP} {vs : List Value} {Post : Value → List HP → Prop} {tt : TypeId} {ts : Array TypeId} (spec : YTri P l vs pre Post)
    (hf : ev env f = some (.func (.yield l) #[] #[])) (hargs : evs env xs = some vs) [hp : Picks pre L R]
    (k : ∀ v L', Post v L' → SXR P ro N ds lops Q rest ((d, v) :: env) (L' ++ R)) : SXR P ro N ds lops Q (⟨some d, .call ⟨.value f, xs.toArray, ts⟩, tt, p, af, none⟩ :: rest) env L := by
  refine ⟨fun hb a w ha hw => ?_⟩
  simp only [List.all_cons, Bool.and_eq_true] at hb
  unfold wpListIn
  rw [if_pos (by simp [Region.wanted])]
  refine ⟨fun _ _ => trivial, ?_⟩
  obtain ⟨r, h1, h2, h3⟩ := spec.h w R (hw.perm hp.perm)
  have hrun : (execOp a.eval ⟨some d, .call ⟨.value f, xs.toArray, ts⟩, tt, p, af, none⟩).run P w = .ok (.round l r.fn (withArgs r vs) r.assign r.body) w := by
    simp [execOp, resolve, Deferred.ofValue, invoke, ha.ev hf, ha.evs hargs, Instr.yield, Instr.getLoop, getObj, Sem.run, h1, h2, withArgs]
  rw [show ∀ ρ, Oper.semAt (wideR ro).round ρ ⟨some d, .call ⟨.value f, xs.toArray, ts⟩, tt, p, af, none⟩ = execOp ρ ⟨some d, .call ⟨.value f, xs.toArray, ts⟩, tt, p, af, none⟩ from fun _ => by cases ro <;> rfl, hrun]
  refine ⟨by simp [wideR, Fence.wide], (roundIn_wideR h3).mono ?_⟩
  rintro e w' ⟨v, L', hP, rfl, hS⟩
  exact (k v L' hP).h hb.2 _ _ (ha.put (d := some d) hb.1 v) hS

/-- A round's end. -/
def RndQ (P : Program) (l : Nat) (R : List HP) (Post : Value → List HP → Prop) : Exit → Act → World → Prop := roundPost P l fun e w' => ∃ v L', Post v L' ∧ e = .returned v ∧ Sat w' (L' ++ R)
def AsgQ (P : Program) (l N : Nat) (body : Code) (R : List HP) (Post : Value → List HP → Prop) : Exit → Act → World → Prop :=
  Exit.then (fun a₁ w₁ => ∃ w₂, (Instr.beginRound l).run P w₁ = .ok () w₂ ∧ (below N body = true → body.wpIn (wideR (some l)) 0 P (RndQ P l R Post) a₁ w₂)) (fun _ _ _ => False)
/-- One call of yield, out of the walks of the assignment and of the body. -/
theorem ytri_intro {l : Nat} {r : Loop} {args : List Value} {pre : List HP} {Post : Value → List HP → Prop} {ps : List Tmp} (hN : r.tmps.size = N) (henv : ∀ k v, lk env k = some v → r.tmps[k]? = some v) (hps : r.params = ps.toArray) (hlen : ps.length = args.length)
    (hb1 : below N r.assign = true) (hb2 : below N r.body = true) (hps2 : ps.all (Nat.blt · N) = true)
    {F : List HP → List HP} [hA : ∀ R, App (pts l (.loop r) :: pre) R (F R)]
    (h : ∀ R, SXC P (some l) N [] r.assign (AsgQ P l N r.body R Post) ((ps.zip args).reverse ++ env) (F R)) : YTri P l args (pts l (.loop r) :: pre) Post := by
  refine ⟨fun w R hw => ⟨r, hw.pts, by simp [hps, hlen], ?_⟩⟩
  refine roundIn_of_wpIn (F := wideR none) trivial ?_
  have hag : Ag N [] ((ps.zip args).reverse ++ env) { tmps := withArgs r args, defers := [] } := by
    have key : ∀ (q : List (Tmp × Value)) (tm : Array Value) (e : Env), (q.all fun x => Nat.blt x.1 N) = true → Ag N [] e { tmps := tm, defers := [] } →
        Ag N [] (q.reverse ++ e) { tmps := q.foldl (fun tmps x => tmps.setIfInBounds x.1 x.2) tm, defers := [] } := by
      intro q
      induction q with
      | nil => intro tm e _ h; simpa using h
      | cons x q ih =>
        intro tm e hq h
        simp only [List.all_cons, Bool.and_eq_true] at hq
        have h1 : Ag N [] ((x.1, x.2) :: e) (Act.put { tmps := tm, defers := [] } (some x.1) x.2) := h.put (d := some x.1) hq.1 x.2
        have := ih _ _ hq.2 h1
        simp only [List.reverse_cons, List.append_assoc, List.foldl_cons]
        exact this
    have h0 := key (ps.zip args) r.tmps env (by
      rw [List.all_eq_true]
      intro x hx
      have : x.1 ∈ ps := (List.of_mem_zip (a := x.1) (b := x.2) hx).1
      exact List.all_eq_true.1 hps2 _ this) ⟨hN, rfl, henv⟩
    have e : withArgs r args = (ps.zip args).foldl (fun tmps x => tmps.setIfInBounds x.1 x.2) r.tmps := by
      unfold withArgs
      rw [hps, List.zip_toArray, List.foldl_toArray']
      · rfl
    rw [e]; exact h0
  have := (h R).h hb1 _ w hag (by rw [← (hA R).eq]; exact hw)
  refine wpIn_mono this ?_
  intro e a w q
  cases e with
  | normal => obtain ⟨w2, h1, h2⟩ := q; exact ⟨w2, h1, h2 hb2⟩
  | _ => exact q.elim
theorem run_getLoop {w : World} {l : Nat} {r : Loop} (h : w.heap[l]? = some (.loop r)) : (Instr.getLoop l).run P w = .ok r w := by
  simp [Instr.getLoop, getObj, Sem.run, h]
theorem upd_heap {w : World} {l : Nat} {o : Obj} (o' : Obj) (h : w.heap[l]? = some o) : ({ w with heap := w.heap.setIfInBounds l o' } : World).heap[l]? = some o' ∧ ∀ x, x ≠ l → ({ w with heap := w.heap.setIfInBounds l o' } : World).heap[x]? = w.heap[x]? := by
  have hl : l < w.heap.size := (Array.getElem?_eq_some_iff.1 h).1
  exact ⟨by simp [hl], fun x hx => by simp [Ne.symm hx]⟩
theorem run_setObj {w : World} {l : Nat} {r r' : Loop} (h : w.heap[l]? = some (.loop r)) : (setObj l (.loop r')).run P w = .ok () { w with heap := w.heap.setIfInBounds l (.loop r') } := by
  simp [setObj, Sem.run, h]
/-- The assignment is over: the round begins. -/
theorem fin_asg {l : Nat} {r : Loop} {body : Code} {Post : Value → List HP → Prop} {C : Obj → List HP} [hc : CtxB l L (.loop r) C] (hs : r.state = .ready)
    (k : SXC P (some l) N [] body (RndQ P l R Post) env (C (.loop { r with state := .busy }))) : Fin N [] (AsgQ P l N body R Post) .normal env L :=
  ⟨fun a w ha hw => by
    obtain ⟨R', p1, p2⟩ := hc.perm
    have hl := (hw.perm p1).pts
    obtain ⟨g1, g2⟩ := upd_heap (.loop { r with state := .busy }) hl
    refine ⟨_, ?_, fun hb => k.h hb a _ ha (((hw.perm p1).upd g1 g2).perm (p2 _))⟩
    simp only [Instr.beginRound, Sem.run_bind, run_getLoop hl, Result.andThen_ok, run_setObj hl, hs]
    simp⟩
theorem end_round {l : Nat} {r : Loop} {C : Obj → List HP} [hc : CtxB l L (.loop r) C] (j : Option Code) {w : World} (hw : Sat w L) :
    ∃ w', (Instr.endRound l j).run P w = .ok (.bool j.isNone) w' ∧ Sat w' (C (.loop { r with state := if j.isNone then .ready else .done, pending := j })) := by
  obtain ⟨R', p1, p2⟩ := hc.perm
  have hl := (hw.perm p1).pts
  obtain ⟨g1, g2⟩ := upd_heap (.loop { r with state := if j.isNone then .ready else .done, pending := j }) hl
  refine ⟨_, ?_, ((hw.perm p1).upd g1 g2).perm (p2 _)⟩
  simp only [Instr.endRound, Sem.run_bind, run_getLoop hl, Result.andThen_ok, run_setObj hl]
  rfl
theorem fin_rnd {l : Nat} {r : Loop} {Post : Value → List HP → Prop} {C : Obj → List HP} {L' R' R0 : List HP} [hc : CtxB l L (.loop r) C] (hP : Post (.bool true) L') [hp : Picks L' (C (.loop { r with state := .ready, pending := none })) R'] [ht : Tail R' R0] :
    Fin N [] (RndQ P l R0 Post) .normal env L :=
  ⟨fun a w ha hw => by
    obtain ⟨w', h1, h2⟩ := end_round (P := P) (hc := hc) none hw
    refine ⟨_, w', h1, _, L', hP, rfl, ?_⟩
    have key : ∀ (A B C : List HP) (m : PH), (∀ m, big B m → big C m) → big (A ++ B) m → big (A ++ C) m := by
      intro A
      induction A with
      | nil => exact fun B C m h x => h m x
      | cons X A ih => exact fun B C m h x => big_map (fun m y => ih B C m h y) _ x
    exact key _ _ _ _ ht.drop (h2.perm hp.perm)⟩
theorem fin_rnd_out {l : Nat} {r : Loop} {e : Exit} {j : Code} {Post : Value → List HP → Prop} {C : Obj → List HP} {L' R' R0 : List HP} (he : (e = .ret ∧ j = .ret) ∨ ∃ id, e = .exit id ∧ j = .exit id) [hc : CtxB l L (.loop r) C] (hP : Post (.bool false) L') [hp : Picks L' (C (.loop { r with state := .done, pending := some j })) R'] [ht : Tail R' R0] :
    Fin N [] (RndQ P l R0 Post) e env L :=
  ⟨fun a w ha hw => by
    obtain ⟨w', h1, h2⟩ := end_round (P := P) (hc := hc) (some j) hw
    have key : ∀ (A B C : List HP) (m : PH), (∀ m, big B m → big C m) → big (A ++ B) m → big (A ++ C) m := by
      intro A
      induction A with
      | nil => exact fun B C m h x => h m x
      | cons X A ih => exact fun B C m h x => big_map (fun m y => ih B C m h y) _ x
    have h3 := key _ _ _ _ ht.drop (h2.perm hp.perm)
    rcases he with ⟨rfl, rfl⟩ | ⟨id, rfl, rfl⟩
    · exact ⟨_, w', h1, _, L', hP, rfl, h3⟩
    · exact ⟨_, w', h1, _, L', hP, rfl, h3⟩⟩
end
end Go.Sl
