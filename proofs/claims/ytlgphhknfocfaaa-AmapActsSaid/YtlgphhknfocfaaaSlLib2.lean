import Derived.Test.YtlgphhknfocfaaaSlLib
namespace Go.Sl
section
variable {P : Program} {ro : Option Nat} {N : Nat} {ds : List Deferred} {l lops : List Oper} {Q : Exit → Act → World → Prop} {rest : List Oper} {env env' : Env} {Lr L R R0 : List HP} {cc : Code} {e : Exit}

theorem fin_qeP {done : List Nat} {k d : Nat} {v : Value} {Lx' L' : List HP} [hp : Picks Lr L' Lx'] (h : lk env' d = some v) (k' : SXE P ro N ds l Q Lr (k :: done) [] ((d, v) :: env) Lx') :
    Fin N ds (QE P ro N ds l Q Lr done env k (some d)) .normal env' L' := fin_qe h k' (fun _ hm => big_perm hp.perm hm)
theorem fin_qe0P {done : List Nat} {k : Nat} {Lx' L' : List HP} [hp : Picks Lr L' Lx'] (k' : SXE P ro N ds l Q Lr (k :: done) [] env Lx') :
    Fin N ds (QE P ro N ds l Q Lr done env k none) .normal env' L' := fin_qe0 k' (fun _ hm => big_perm hp.perm hm)
/-- Behind an operation that waits for all that has been done: the chunks that stay may be others from here on. -/
def QE2 (P : Program) (ro : Option Nat) (N : Nat) (ds : List Deferred) (l : List Oper) (Q : Exit → Act → World → Prop) (done : List Nat) (env : Env) (k : Nat) (dst : Option Tmp) : Exit → Act → World → Prop := fun e a w =>
  e = .normal ∧ a.defers = ds ∧ ∃ v Lr Lx', (∀ d, dst = some d → a.tmps[d]? = some v) ∧ Sat w (Lr ++ Lx') ∧ SXE P ro N ds l Q Lr (k :: done) [] (putE dst v env) Lx'
theorem fin_qe2 {done : List Nat} {k d : Nat} {v : Value} {Lx' L' : List HP} (Lr : List HP) [hp : Picks Lr L' Lx'] (h : lk env' d = some v) (k' : SXE P ro N ds l Q Lr (k :: done) [] ((d, v) :: env) Lx') :
    Fin N ds (QE2 P ro N ds l Q done env k (some d)) .normal env' L' :=
  ⟨fun _ _ ha hw => ⟨rfl, ha.defers, v, Lr, Lx', fun d' e => by cases e; exact ha.get _ _ h, big_perm hp.perm hw, k'⟩⟩
theorem fin_qe20 {done : List Nat} {k : Nat} {Lx' L' : List HP} (Lr : List HP) [hp : Picks Lr L' Lx'] (k' : SXE P ro N ds l Q Lr (k :: done) [] env Lx') :
    Fin N ds (QE2 P ro N ds l Q done env k none) .normal env' L' :=
  ⟨fun _ _ ha hw => ⟨rfl, ha.defers, undef, Lr, Lx', (fun d' e => by cases e), big_perm hp.perm hw, k'⟩⟩
theorem SXE.syncB {done ph : List Nat} {Lx : List HP} (hne : readyL l done ≠ []) (hph : ∀ k ∈ readyL l done, ∀ o, l[k]? = some o → ∀ i ∈ done, i ∈ depOf o ∨ ∃ y o', y ∈ depOf o ∧ l[y]? = some o' ∧ i ∈ depOf o') (h : ∀ k ∈ readyL l done, ∀ o, l[k]? = some o → SXR P ro N ds l (QE2 P ro N ds l Q done env k o.dst) [o] env (Lr ++ Lx)) : SXE P ro N ds l Q Lr done ph env Lx := by
  refine ⟨fun hD hN s => ?_⟩
  induction s with
  | nil =>
    intro S a w hS hcl hq ha hw hl
    obtain ⟨k, hk⟩ := List.exists_mem_of_ne_nil _ hne
    obtain ⟨h1, h2⟩ := mem_ready hk
    exact absurd (hS k (hl k h2)).1 h1
  | cons i s ih =>
    intro S a w hS hcl hq ha hw hl
    obtain ⟨⟨hiS, o, ho, hdep⟩, hl'⟩ := hl
    have hop : ∀ t ∈ tmpsOf l o, ∀ u, lk env t = some u → a.tmps[t]? = some u := fun t ht u hu => ha.get t u hu fun j o' hj hd' => hdep j (hD.reads i o j o' t ho hj hd' ht)
    by_cases hid : i ∈ done
    · obtain ⟨o', d, v, ho', hd, hv, hne, hstep⟩ := (hq i hid hiS).at.h
      rw [ho] at ho'; cases ho'
      refine wpOps_step ho (hstep a w _ ha.size ha.defers hop hw fun w' hw' => ?_)
      refine ih (i :: S) _ w' (fun k hk => ?_) hcl (fun k hk hk' => hq k hk (fun h => hk' (List.mem_cons_of_mem _ h))) ?_ hw' hl'
      · rcases List.mem_cons.1 hk with h | h
        · subst h; exact ⟨hid, fun o' ho' j hj => by rw [ho] at ho'; cases ho'; exact List.mem_cons_of_mem _ (hdep j hj)⟩
        · exact ⟨(hS k h).1, fun o' ho' j hj => List.mem_cons_of_mem _ ((hS k h).2 o' ho' j hj)⟩
      · have hdN : d < N := by
          have := List.all_eq_true.1 hN o (List.mem_of_getElem? ho)
          simpa [dstOk, hd] using this
        refine ⟨by simp [Act.put, ha.size], ha.defers, fun x u hx hw2 => ?_⟩
        simp only [Act.put]
        by_cases e : d = x
        · subst e; rw [hv] at hx; cases hx; simp [ha.size, hdN]
        · rw [Array.getElem?_setIfInBounds]; simp only [e, if_false]
          refine ha.get x u hx fun j o' hj hd' => ?_
          rcases List.mem_cons.1 (hw2 j o' hj hd') with h | h
          · subst h; rw [ho] at hj; cases hj; rw [hd] at hd'; cases hd'; exact absurd rfl e
          · exact h
    · have hrd : i ∈ readyL l done := ready_mem ⟨hid, o, ho, fun j hj => (hS j (hdep j hj)).1⟩
      refine wpOps_step ho (stepO_of (hD.plain _ _ ho) hN ho (over_ag hN ha) ha.size ha.defers hop hw (h i hrd o ho) ?_ (fun _ _ q => q.2.1) (fun _ _ _ q => q.1))
      rintro u w' ⟨_, _, v, Lr', Lx', hv, hs, k'⟩
      have hput : ∀ d, o.dst = some d → u = v := by
        intro d hd
        have := hv d hd
        rw [hd] at this
        have hdN : d < N := by
          have := List.all_eq_true.1 hN o (List.mem_of_getElem? ho)
          simpa [dstOk, hd] using this
        simp only [Act.put] at this
        rw [Array.getElem?_setIfInBounds_self_of_lt (by simp [over]; exact hdN)] at this
        exact Option.some.inj this
      refine k'.h hD hN s (i :: S) _ w' (fun k hk => ?_) ?_ ?_ ?_ hs hl'
      · rcases List.mem_cons.1 hk with h | h
        · subst h; exact ⟨List.mem_cons_self, fun o' ho' j hj => by rw [ho] at ho'; cases ho'; exact List.mem_cons_of_mem _ (hdep j hj)⟩
        · exact ⟨List.mem_cons_of_mem _ (hS k h).1, fun o' ho' j hj => List.mem_cons_of_mem _ ((hS k h).2 o' ho' j hj)⟩
      · intro x hx o' ho' j hj
        rcases List.mem_cons.1 hx with e | e
        · subst e; rw [ho] at ho'; cases ho'; exact List.mem_cons_of_mem _ (hS j (hdep j hj)).1
        · exact List.mem_cons_of_mem _ (hcl x e o' ho' j hj)
      · intro x hx hxS
        rcases List.mem_cons.1 hx with e | e
        · subst e; exact absurd List.mem_cons_self hxS
        · rcases hph i hrd o ho x e with e1 | ⟨y, o', e1, e2, e3⟩
          · exact absurd (List.mem_cons_of_mem _ (hdep x e1)) hxS
          · exact absurd (List.mem_cons_of_mem _ ((hS y (hdep y e1)).2 o' e2 x e3)) hxS
      · cases hd : o.dst with
        | none =>
          refine ⟨ha.size, ha.defers, fun x u' hx hw2 => ha.get x u' hx fun j o' hj hd' => ?_⟩
          rcases List.mem_cons.1 (hw2 j o' hj hd') with h | h
          · subst h; rw [ho] at hj; cases hj; rw [hd] at hd'; cases hd'
          · exact h
        | some d =>
          have hdN : d < N := by
            have := List.all_eq_true.1 hN o (List.mem_of_getElem? ho)
            simpa [dstOk, hd] using this
          have := hput d hd
          subst this
          refine ⟨by simp [Act.put, ha.size], ha.defers, fun x u' hx hw2 => ?_⟩
          simp only [Act.put]
          by_cases e : d = x
          · subst e; simp only [putE] at hx; rw [lk_here] at hx; cases hx; simp [ha.size, hdN]
          · simp only [putE] at hx; rw [lk_there e] at hx
            rw [Array.getElem?_setIfInBounds]; simp only [e, if_false]
            refine ha.get x u' hx fun j o' hj hd' => ?_
            rcases List.mem_cons.1 (hw2 j o' hj hd') with h | h
            · subst h; rw [ho] at hj; cases hj; rw [hd] at hd'; cases hd'; exact absurd rfl e
            · exact h
theorem SXE.sync {done ph : List Nat} {Lx L0 : List HP} (i : Nat) {o : Oper} (hr : readyL l done = [i]) (ho : nthO l i = some o) (hph : (done.all fun x => (depOf o).contains x || (depOf o).any fun y => match nthO l y with | some o' => (depOf o').contains x | none => false) = true) [hA : App Lr Lx L0]
    (h : SXR P ro N ds l (QE2 P ro N ds l Q done env i o.dst) [o] env L0) : SXE P ro N ds l Q Lr done ph env Lx :=
  SXE.syncB (by rw [hr]; simp) (by
    intro k hk o' ho' x hx
    rw [hr] at hk
    obtain rfl := List.mem_singleton.1 hk
    rw [nthO_eq] at ho; rw [ho] at ho'; cases ho'
    have := List.all_eq_true.1 hph x hx
    rcases Bool.or_eq_true_iff.1 this with h1 | h1
    · exact .inl (List.contains_iff_mem.1 h1)
    · obtain ⟨y, hy, h2⟩ := List.any_eq_true.1 h1
      split at h2
      · rename_i o' ho'
        exact .inr ⟨y, o', hy, by rw [← nthO_eq]; exact ho', List.contains_iff_mem.1 h2⟩
      · cases h2) (by
    intro k hk o' ho'
    rw [hr] at hk
    obtain rfl := List.mem_singleton.1 hk
    rw [nthO_eq] at ho; rw [ho] at ho'; cases ho'
    rw [hA.eq]; exact h)
/-- A point where roads meet: what holds there, for some x. -/
def CutQ {X : Type} (p : X → Prop) (N : Nat) (ds : List Deferred) (E : X → Env) (Li : X → List HP) (R0 : List HP) (Q : Exit → Act → World → Prop) : Exit → Act → World → Prop :=
  Exit.then (fun a w => ∃ x, p x ∧ Ag N ds (E x) a ∧ Sat w (Li x ++ R0)) Q
theorem SXC.cut {X : Type} {c y : Code} (R0 : List HP) (p : X → Prop) (E : X → Env) (Li : X → List HP) {F : X → List HP} [hA : ∀ x, App (Li x) R0 (F x)]
    (h1 : SXC P ro N ds c (CutQ p N ds E Li R0 Q) env L) (h2 : ∀ x, p x → SXC P ro N ds y Q (E x) (F x)) : SXC P ro N ds c (thenC P ro N y Q) env L := by
  refine ⟨fun hb a w ha hw => ?_⟩
  refine wpIn_mono (h1.h hb a w ha hw) ?_
  intro e a' w' hq
  cases e with
  | normal =>
    obtain ⟨x, hp', h3, h4⟩ := hq
    intro hb2
    exact (h2 x hp').h hb2 a' w' h3 (by rw [← (hA x).eq]; exact h4)
  | exit id => exact hq
  | goto l => exact hq
  | ret => exact hq
  | panic ch => exact hq
  | outgrown => exact hq
theorem fin_cut {X : Type} {p : X → Prop} {E : X → Env} {Li : X → List HP} {R' R0 : List HP} (x : X) (hp' : p x) (hE : SubL env (E x)) [hp : Picks (Li x) L R'] [ht : Tail R' R0] :
    Fin N ds (CutQ p N ds E Li R0 Q) .normal env L :=
  ⟨fun a w ha hw => ⟨x, hp', ha.sub hE, by
    have key : ∀ (A B C : List HP) (m : PH), (∀ m, big B m → big C m) → big (A ++ B) m → big (A ++ C) m := by
      intro A
      induction A with
      | nil => exact fun B C m h x => h m x
      | cons X A ih => exact fun B C m h x => big_map (fun m y => ih B C m h y) _ x
    exact key _ _ _ _ ht.drop (hw.perm hp.perm)⟩⟩
instance {X : Type} {p : X → Prop} {E : X → Env} {Li : X → List HP} {R0 : List HP} : Go (Fin N ds (CutQ p N ds E Li R0 Q) .ret env L) Unit Unit Unit (fun a b c => ((), (), ()) = (a, b, c)) (fun _ _ _ => Fin N ds Q .ret env L) := ⟨fun _ _ _ _ k => ⟨k.h⟩⟩
instance {X : Type} {p : X → Prop} {E : X → Env} {Li : X → List HP} {R0 : List HP} {id : Nat} : Go (Fin N ds (CutQ p N ds E Li R0 Q) (.exit id) env L) Unit Unit Unit (fun a b c => ((), (), ()) = (a, b, c)) (fun _ _ _ => Fin N ds Q (.exit id) env L) := ⟨fun _ _ _ _ k => ⟨k.h⟩⟩
theorem RdS.old {W w : World} {v : Value} {n : Nat} {cs : List Value} [hp : Pick (Sl.old W) L R] (hw : Sat w L) (h : RdS W v n cs) : RdS w v n cs := by
  rcases h with h | ⟨b, off, cap, vs, T, fr, h1, h2, h3, h4⟩
  · exact .inl h
  · exact .inr ⟨b, off, cap, vs, T, fr, h1, old_heap (hp := hp) hw h2, h3, h4⟩
theorem SXR.rem {d : Tmp} {t t2 s : TypeId} {p : String} {af : Array Edge} {x y : Operand} {k : IntKind} {a b : Int} (e : ev2 env x y = some (.int k a, .int k b)) (hb : b ≠ 0) (k' : SXR P ro N ds lops Q rest ((d, .int k (a.tmod b)) :: env) L) :
    SXR P ro N ds lops Q (⟨some d, .binOp .rem t x y t2, s, p, af, none⟩ :: rest) env L :=
  SXR.val rfl (fun _ => by cases ro <;> rfl) (fun A w ha _ => by
    obtain ⟨h1, h2⟩ := int2 e ha
    simp [execOp, h1, h2, eqGuard, binOp, Op.intDiv, hb]) k'
theorem SXR.quo {d : Tmp} {t t2 s : TypeId} {p : String} {af : Array Edge} {x y : Operand} {k : IntKind} {a b : Int} (e : ev2 env x y = some (.int k a, .int k b)) (hb : b ≠ 0) (k' : SXR P ro N ds lops Q rest ((d, .int k (k.wrap (a.tdiv b))) :: env) L) :
    SXR P ro N ds lops Q (⟨some d, .binOp .quo t x y t2, s, p, af, none⟩ :: rest) env L :=
  SXR.val rfl (fun _ => by cases ro <;> rfl) (fun A w ha _ => by
    obtain ⟨h1, h2⟩ := int2 e ha
    simp [execOp, h1, h2, eqGuard, binOp, Op.intDiv, hb]) k'
theorem SXR.lenSl {d : Tmp} {t tt e1 : TypeId} {p : String} {af : Array Edge} {x : Operand} {v : Value} {n : Nat} [hu : Und P t (.slice e1)] (hx : ev env x = some v) (hv : ∃ a c, v = .slice a n c) (k : SXR P ro N ds lops Q rest ((d, .int .i64 n) :: env) L) :
    SXR P ro N ds lops Q (⟨some d, .call ⟨.builtin .len, [x].toArray, [t].toArray⟩, tt, p, af, none⟩ :: rest) env L := by
  obtain ⟨a, c, rfl⟩ := hv
  exact SXR.val rfl (fun _ => by cases ro <;> rfl) (fun A w ha _ => by
    simp [execOp, resolve, invoke, builtin, Builtin.len_, ha.ev hx, run_underlying hu.eq, goInt]) k
theorem pk (A : HP) {L R : List HP} [hp : Pick A L R] : L.Perm (A :: R) := hp.perm
theorem vec_is {v : Value} {n sz : Nat} {T : TypeId} {cs : List Value} : ∀ m, vec v n sz T cs m → ∃ a c, v = .slice a n c := by
  rintro m ⟨_, ⟨rfl, rfl⟩ | ⟨b, cap, sp, rfl, _⟩⟩ <;> exact ⟨_, _, rfl⟩
@[reducible] def forceL : List Value → Option (List Value)
  | [] => some []
  | x :: xs => match forceL xs with | some ys => some (x :: ys) | none => none
theorem forceL_some : ∀ {l l' : List Value}, forceL l = some l' → l' = l
  | [], _, h => by cases h; rfl
  | x :: xs, l', h => by
    unfold forceL at h
    split at h
    · rename_i ys hy
      cases h; rw [forceL_some hy]
    · cases h
instance {tt : TypeId} {t : TypeId} {p : String} {af : Array Edge} {d : Tmp} {e1 : TypeId} {ps : List (Nat × Operand)} {len sz : Nat} {zs : List Value} [hu : Und P t (.slice e1)] [hsz : SizeT P e1 sz] [hz : ZeroT P e1 zs] : Go (SXR P ro N ds lops Q (⟨some d, .buildSlice t len ps.toArray, tt, p, af, none⟩ :: rest) env L) (List Value) Unit Unit
    (fun v a b => (match Nat.beq zs.length sz, Nat.blt 0 sz, Nat.ble (len * sz) 16777216, evParts env ps with | true, true, true, some l => (match fillL (fun i => some (i * sz, sz)) (zerosL zs len) l with | some v => (match forceL v with | some v => some (v, (), ()) | none => none) | none => none) | _, _, _, _ => none) = some (v, a, b))
    (fun v _ _ => ∀ b, SXR P ro N ds lops Q rest ((d, .slice (some ⟨b, 0, none⟩) len len) :: env) (pts b (.cells v.toArray e1 (0, 0)) :: L)) :=
  ⟨fun v v2 v3 h k => by
    refine go (v1 := v) (v2 := v2) (v3 := v3) ?_ k
    split at h
    · rename_i l h1 h2 h3 hl
      split at h
      · rename_i v' hv
        split at h
        · rename_i v'' hf
          have := forceL_some hf
          subst this
          rw [← h, h1, h2, h3, hl]
          show (match fillL (fun i => some (i * sz, sz)) (zerosL zs len) l with | some v => some (v, (), ()) | none => none) = _
          rw [hv]
        · cases h
      · cases h
    · cases h⟩
end
end Go.Sl
