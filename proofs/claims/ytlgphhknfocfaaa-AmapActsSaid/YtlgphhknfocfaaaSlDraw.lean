import Derived.Test.YtlgphhknfocfaaaSlMem
namespace Go.Sl

/-! ### a region whose order is drawn -/
def depOf (o : Oper) : List Nat := (o.after.toList.filter (Region.binds .any)).map (·.on)
def Ready (l : List Oper) (S : List Nat) (i : Nat) : Prop := i ∉ S ∧ ∃ o, l[i]? = some o ∧ ∀ j ∈ depOf o, j ∈ S
def Lin (l : List Oper) : List Nat → List Nat → Prop
  | S, [] => ∀ i, i < l.length → i ∈ S
  | S, k :: s => Ready l S k ∧ Lin l (k :: S) s

theorem go_lin (l : List Oper) (hb : ∀ i o, l[i]? = some o → ∀ j ∈ depOf o, j < i) :
    ∀ (fuel t : Nat) (listed : Array Bool) (acc S : List Nat), listed.size = l.length → (∀ i, i < l.length → (listed.getD i true = true ↔ i ∈ S)) → (∀ i ∈ S, i < l.length) →
      ((List.range l.length).filter fun i => !listed.getD i true).length ≤ fuel →
      ∃ s, Region.linearise.go .any l.toArray fuel t listed acc = acc.reverse ++ s ∧ Lin l S s := by
  intro fuel
  induction fuel with
  | zero =>
    intro t listed acc S hsz hS hlt hlen
    refine ⟨[], by simp [Region.linearise.go], fun i hi => ?_⟩
    have h0 : ((List.range l.length).filter fun i => !listed.getD i true) = [] := List.length_eq_zero_iff.1 (by omega)
    have := List.filter_eq_nil_iff.1 h0 i (List.mem_range.2 hi)
    exact (hS i hi).1 (by simpa using this)
  | succ fuel ih =>
    intro t listed acc S hsz hS hlt hlen
    simp only [Region.linearise.go]
    generalize hrs : ((List.range l.toArray.size).filter fun i => !listed.getD i true && ((l.toArray[i]?).map (·.after.all fun e => !Region.binds .any e || listed.getD e.on false)).getD false) = rs
    cases hx : rs[t % rs.length]? with
    | none =>
      refine ⟨[], by simp, ?_⟩
      have hnil : rs = [] := by
        rcases Nat.eq_zero_or_pos rs.length with h | h
        · exact List.length_eq_zero_iff.1 h
        · have := List.getElem?_eq_none_iff.1 hx
          have := Nat.mod_lt t h; omega
      rw [hnil] at hrs
      intro i
      induction i using Nat.strongRecOn with
      | _ i ihi =>
        intro hi
        apply Classical.byContradiction
        intro hn
        have hf := List.filter_eq_nil_iff.1 hrs i (List.mem_range.2 (by simpa using hi))
        apply hf
        have h1 : listed.getD i true = false := by
          cases h : listed.getD i true with
          | false => rfl
          | true => exact absurd ((hS i hi).1 h) hn
        rw [h1]
        simp only [Bool.not_false, Bool.true_and, List.getElem?_toArray, List.getElem?_eq_getElem hi, Option.map_some, Option.getD_some, Array.all_eq_true_iff_forall_mem]
        intro e he
        cases hbe : Region.binds .any e with
        | false => rfl
        | true =>
          simp only [Bool.not_true, Bool.false_or]
          have hm : e.on ∈ depOf l[i] := by
            unfold depOf; exact List.mem_map.2 ⟨e, List.mem_filter.2 ⟨by simpa using he, hbe⟩, rfl⟩
          have hlt' := hb i _ (List.getElem?_eq_getElem hi) _ hm
          have := (hS e.on (by omega)).2 (ihi _ hlt' (by omega))
          rw [Array.getD_eq_getD_getElem?] at this ⊢
          rw [Array.getElem?_eq_getElem (by omega)] at this ⊢
          simpa using this
    | some i =>
      have hmem : i ∈ rs := List.mem_of_getElem? hx
      rw [← hrs] at hmem
      obtain ⟨hr, hp⟩ := List.mem_filter.1 hmem
      have hi : i < l.length := by simpa using List.mem_range.1 hr
      simp only [Bool.and_eq_true, Bool.not_eq_true', List.getElem?_toArray, List.getElem?_eq_getElem hi, Option.map_some, Option.getD_some, Array.all_eq_true_iff_forall_mem] at hp
      obtain ⟨hp1, hp2⟩ := hp
      have hiS : i ∉ S := fun h => by rw [(hS i hi).2 h] at hp1; cases hp1
      have hset : ∀ k, k < l.length → ((listed.setIfInBounds i true).getD k true = true ↔ k ∈ i :: S) := by
        intro k hk
        rw [Array.getD_eq_getD_getElem?, Array.getElem?_setIfInBounds]
        by_cases hik : i = k
        · subst hik; simp [hsz, hi]
        · simp only [hik, if_false, List.mem_cons]
          rw [← Array.getD_eq_getD_getElem?, hS k hk]
          constructor
          · exact .inr
          · rintro (h | h)
            · exact absurd h.symm hik
            · exact h
      obtain ⟨s, hs1, hs2⟩ := ih (t / rs.length) (listed.setIfInBounds i true) (i :: acc) (i :: S) (by simp [hsz]) hset (fun k hk => by
        rcases List.mem_cons.1 hk with h | h
        · subst h; exact hi
        · exact hlt k h) (by
        have e : ((List.range l.length).filter fun k => !(listed.setIfInBounds i true).getD k true) = (((List.range l.length).filter fun k => !listed.getD k true).filter fun k => k != i) := by
          rw [List.filter_filter]
          apply List.filter_congr
          intro k hk
          have hk := List.mem_range.1 hk
          have h1 := hset k hk
          have h2 := hS k hk
          by_cases hki : k = i
          · subst hki
            have : (listed.setIfInBounds k true).getD k true = true := h1.2 (by simp)
            simp [this]
          · have : ((listed.setIfInBounds i true).getD k true = true) ↔ (listed.getD k true = true) := by rw [h1, h2]; simp [hki]
            have : (listed.setIfInBounds i true).getD k true = listed.getD k true := by rw [Bool.eq_iff_iff]; exact this
            simp [this, hki]
        rw [e]
        have : (((List.range l.length).filter fun k => !listed.getD k true).filter fun k => k != i).length < ((List.range l.length).filter fun k => !listed.getD k true).length := by
          rw [List.length_filter_lt_length_iff_exists]
          exact ⟨i, List.mem_filter.2 ⟨List.mem_range.2 hi, by rw [hp1]; rfl⟩, by simp⟩
        omega)
      refine ⟨i :: s, hs1.trans (by simp), ⟨hiS, _, List.getElem?_eq_getElem hi, fun j hj => ?_⟩, hs2⟩
      obtain ⟨e, he, rfl⟩ := List.mem_map.1 hj
      obtain ⟨he1, he2⟩ := List.mem_filter.1 he
      have := hp2 e (by simpa using he1)
      rw [he2] at this
      simp only [Bool.not_true, Bool.false_or] at this
      have hlt' := hb i _ (List.getElem?_eq_getElem hi) _ hj
      refine (hS _ (by omega)).1 ?_
      rw [Array.getD_eq_getD_getElem?] at this ⊢
      rw [Array.getElem?_eq_getElem (by omega)] at this ⊢
      simpa using this
theorem schedule_lin (l : List Oper) (hb : ∀ i o, l[i]? = some o → ∀ j ∈ depOf o, j < i) (t : Nat) : Lin l [] (Region.schedule true l.toArray t) := by
  obtain ⟨s, h1, h2⟩ := go_lin l hb l.length t (Array.replicate l.length false) [] [] (by simp) (fun i hi => by simp [Array.getD_eq_getD_getElem?, hi]) (by simp)
    (by
      refine Nat.le_trans (List.length_filter_le _ _) (by simp))
  unfold Region.schedule Region.linearise
  simp only [Bool.true_or, if_true, List.size_toArray]
  rw [h1]; exact h2

theorem map_congr_arr {ρ ρ' : Operand → Value} {xs : Array Operand} (h : ∀ x ∈ xs, ρ x = ρ' x) : xs.map ρ = xs.map ρ' := Array.map_congr_left h
theorem exec_congr {ρ ρ' : Operand → Value} {o : Oper} (hsel : ∀ cs b, o.op ≠ .select cs b) (h : ∀ x ∈ o.op.operands, ρ x = ρ' x) : execOp ρ o = execOp ρ' o := by
  obtain ⟨dst, op, t, p, af, g⟩ := o
  cases op with
  | call c =>
    have h1 : ∀ x ∈ c.args, ρ x = ρ' x := fun x hx => h x (by simp [Op.operands, Call.operands, hx])
    cases hc : c.callee with
    | value f =>
      have h2 : ρ f = ρ' f := h f (by simp [Op.operands, Call.operands, hc])
      simp [execOp, resolve, hc, h2, map_congr_arr h1]
    | invoke r n =>
      have h2 : ρ r = ρ' r := h r (by simp [Op.operands, Call.operands, hc])
      simp [execOp, resolve, hc, h2, map_congr_arr h1]
    | builtin b => simp [execOp, resolve, hc, map_congr_arr h1]
  | go c =>
    have h1 : ∀ x ∈ c.args, ρ x = ρ' x := fun x hx => h x (by simp [Op.operands, Call.operands, hx])
    cases hc : c.callee with
    | value f =>
      have h2 : ρ f = ρ' f := h f (by simp [Op.operands, Call.operands, hc])
      simp [execOp, resolve, hc, h2, map_congr_arr h1]
    | invoke r n =>
      have h2 : ρ r = ρ' r := h r (by simp [Op.operands, Call.operands, hc])
      simp [execOp, resolve, hc, h2, map_congr_arr h1]
    | builtin b => simp [execOp, resolve, hc, map_congr_arr h1]
  | defer c =>
    have h1 : ∀ x ∈ c.args, ρ x = ρ' x := fun x hx => h x (by simp [Op.operands, Call.operands, hx])
    cases hc : c.callee with
    | value f =>
      have h2 : ρ f = ρ' f := h f (by simp [Op.operands, Call.operands, hc])
      simp [execOp, resolve, hc, h2, map_congr_arr h1]
    | invoke r n =>
      have h2 : ρ r = ρ' r := h r (by simp [Op.operands, Call.operands, hc])
      simp [execOp, resolve, hc, h2, map_congr_arr h1]
    | builtin b => simp [execOp, resolve, hc, map_congr_arr h1]
  | build t ps =>
    have : (ps.map fun q => (q.1, ρ q.2)) = ps.map fun q => (q.1, ρ' q.2) := Array.map_congr_left fun q hq => by rw [h q.2 (by simp only [Op.operands]; simpa using ⟨q.1, hq⟩)]
    simp only [execOp, this]
  | buildSlice t n ps =>
    have : (ps.map fun q => (q.1, ρ q.2)) = ps.map fun q => (q.1, ρ' q.2) := Array.map_congr_left fun q hq => by rw [h q.2 (by simp only [Op.operands]; simpa using ⟨q.1, hq⟩)]
    simp only [execOp, this]
  | makeFunc fn first captured =>
    have h1 : first.map ρ = first.map ρ' := map_congr_arr fun x hx => h x (by simp [Op.operands, hx])
    have h2 : captured.map ρ = captured.map ρ' := map_congr_arr fun x hx => h x (by simp [Op.operands, hx])
    simp only [execOp, h1, h2]
  | makeMap t r => cases r <;> simp_all [execOp, Op.operands]
  | slice t x lo hi mx => cases lo <;> cases hi <;> cases mx <;> simp_all [execOp, Op.operands]
  | select cs b => exact absurd rfl (hsel cs b)
  | _ => simp_all [execOp, Op.operands]

def plainOp : Op → Bool
  | .defer _ => false
  | .select _ _ => false
  | _ => true
def tmpsOf (l : List Oper) (o : Oper) : List Tmp :=
  (o.op.operands.toList.filterMap fun | .tmp t => some t | _ => none) ++ (match o.guard with | some (j, _) => ((l[j]?).bind (·.dst)).toList | none => [])
def drawOk (l : List Oper) : Bool :=
  (List.range l.length).all fun i => match l[i]? with
    | none => true
    | some o => plainOp o.op && (depOf o).all (Nat.blt · i) &&
      (List.range l.length).all fun j => match l[j]? with
        | none => true
        | some o' => match o'.dst with
          | none => true
          | some d => ((tmpsOf l o).all fun t => !(Nat.beq t d) || (depOf o).contains j) && (Nat.beq i j || (match o.dst with | some d' => !(Nat.beq d d') | none => true))
structure DrawOk (l : List Oper) : Prop where
  plain : ∀ (i : Nat) (o : Oper), l[i]? = some o → plainOp o.op = true
  back : ∀ (i : Nat) (o : Oper), l[i]? = some o → ∀ j ∈ depOf o, j < i
  reads : ∀ (i : Nat) (o : Oper) (j : Nat) (o' : Oper) (d : Nat), l[i]? = some o → l[j]? = some o' → o'.dst = some d → d ∈ tmpsOf l o → j ∈ depOf o
  once : ∀ (i : Nat) (o : Oper) (j : Nat) (o' : Oper) (d : Nat), l[i]? = some o → l[j]? = some o' → o.dst = some d → o'.dst = some d → i = j
theorem drawOk_spec {l : List Oper} (h : drawOk l = true) : DrawOk l := by
  have key : ∀ (i : Nat) (o : Oper), l[i]? = some o → (plainOp o.op = true ∧ (∀ j ∈ depOf o, j < i)) ∧ ∀ (j : Nat) (o' : Oper) (d : Nat), l[j]? = some o' → o'.dst = some d → (∀ t ∈ tmpsOf l o, t = d → j ∈ depOf o) ∧ (i = j ∨ ∀ d', o.dst = some d' → d ≠ d') := by
    intro i o ho
    have hi : i < l.length := (List.getElem?_eq_some_iff.1 ho).1
    have h1 := List.all_eq_true.1 h i (List.mem_range.2 hi)
    rw [ho] at h1
    simp only [Bool.and_eq_true] at h1
    obtain ⟨⟨h2, h3⟩, h4⟩ := h1
    refine ⟨⟨h2, fun j hj => by have := List.all_eq_true.1 h3 j hj; simpa using this⟩, fun j o' d hj hd => ?_⟩
    have hjl : j < l.length := (List.getElem?_eq_some_iff.1 hj).1
    have h5 := List.all_eq_true.1 h4 j (List.mem_range.2 hjl)
    rw [hj] at h5
    simp only [hd, Bool.and_eq_true, Bool.or_eq_true] at h5
    obtain ⟨h6, h7⟩ := h5
    refine ⟨fun t ht e => ?_, ?_⟩
    · have h8 := List.all_eq_true.1 h6 t ht
      subst e
      simpa using h8
    · rcases h7 with h7 | h7
      · exact .inl (Nat.eq_of_beq_eq_true h7)
      · right
        intro d' hd'
        rw [hd'] at h7
        intro e; subst e; simp at h7
  exact ⟨fun i o h => (key i o h).1.1, fun i o h => (key i o h).1.2, fun i o j o' d h h' hd ht => ((key i o h).2 j o' d h' hd).1 d ht rfl,
    fun i o j o' d h h' hd hd' => ((key i o h).2 j o' d h' hd').2.resolve_right fun x => x d hd rfl⟩

section
variable {P : Program} {ro : Option Nat} {N : Nat} {ds : List Deferred} {l : List Oper} {Q : Exit → Act → World → Prop} {env : Env} {L R Lr : List HP}

structure AgS (N : Nat) (ds : List Deferred) (l : List Oper) (S : List Nat) (env : Env) (a : Act) : Prop where
  size : a.tmps.size = N
  defers : a.defers = ds
  get : ∀ k v, lk env k = some v → (∀ (j : Nat) (o : Oper), l[j]? = some o → o.dst = some k → j ∈ S) → a.tmps[k]? = some v

/-- One operation, taken or passed over. -/
def StepO (P : Program) (ro : Option Nat) (l : List Oper) (o : Oper) (a : Act) (w : World) (next : Act → World → Prop) (Q : Exit → Act → World → Prop) : Prop :=
  if Region.wanted o (yielded l.toArray a.tmps) then o.wpIn (wideR ro) 0 P a w next Q else next (a.put o.dst undef) w
/-- An operation that gives v wherever its operands are as env has them, and leaves the chunks LL as they are. -/
structure QuietAt (P : Program) (ro : Option Nat) (N : Nat) (ds : List Deferred) (l : List Oper) (LL : List HP) (Q : Exit → Act → World → Prop) (env : Env) (i : Nat) : Prop where
  h : ∃ (o : Oper) (d : Nat) (v : Value), l[i]? = some o ∧ o.dst = some d ∧ lk env d = some v ∧ (∀ t ∈ tmpsOf l o, ∀ u, lk env t = some u → t ≠ d) ∧
    ∀ (a : Act) (w : World) (next : Act → World → Prop), a.tmps.size = N → a.defers = ds → (∀ t ∈ tmpsOf l o, ∀ u, lk env t = some u → a.tmps[t]? = some u) → Sat w LL →
      (∀ w', Sat w' LL → next (a.put (some d) v) w') → StepO P ro l o a w next Q
/-- An operation that has been taken ahead: it may come at any time (Lr stays), or before the next that changes memory (ph). -/
def Pend (P : Program) (ro : Option Nat) (N : Nat) (ds : List Deferred) (l : List Oper) (Q : Exit → Act → World → Prop) (Lr : List HP) (ph : List Nat) (env : Env) (Lx : List HP) (i : Nat) : Prop :=
  (∀ X, QuietAt P ro N ds l (Lr ++ X) Q env i) ∨ (i ∈ ph ∧ QuietAt P ro N ds l (Lr ++ Lx) Q env i)
theorem Pend.at {i : Nat} {ph : List Nat} {Lx : List HP} (h : Pend P ro N ds l Q Lr ph env Lx i) : QuietAt P ro N ds l (Lr ++ Lx) Q env i := by
  rcases h with h | ⟨_, h⟩
  · exact h Lx
  · exact h

structure SXE (P : Program) (ro : Option Nat) (N : Nat) (ds : List Deferred) (l : List Oper) (Q : Exit → Act → World → Prop) (Lr : List HP) (done ph : List Nat) (env : Env) (Lx : List HP) : Prop where
  h : DrawOk l → l.all (dstOk N) = true → ∀ s S a w, (∀ i ∈ S, i ∈ done ∧ ∀ o, l[i]? = some o → ∀ j ∈ depOf o, j ∈ S) → (∀ i ∈ done, ∀ o, l[i]? = some o → ∀ j ∈ depOf o, j ∈ done) → (∀ i ∈ done, i ∉ S → Pend P ro N ds l Q Lr ph env Lx i) →
    AgS N ds l S env a → Sat w (Lr ++ Lx) → Lin l S s → wpOpsIn (wideR ro) 0 P l.toArray Q s a w

theorem wpOps_step {k : Nat} {o : Oper} {s : List Nat} {a : Act} {w : World} (ho : l[k]? = some o) (h : StepO P ro l o a w (wpOpsIn (wideR ro) 0 P l.toArray Q s) Q) : wpOpsIn (wideR ro) 0 P l.toArray Q (k :: s) a w := by
  simp only [wpOpsIn, List.getElem?_toArray, ho]
  unfold StepO at h
  split
  · rename_i hw; rw [if_pos hw] at h; exact h
  · rename_i hw; rw [if_neg hw] at h; exact ⟨fun _ _ => trivial, h⟩

/-- All has been done: the region's end. -/
theorem SXE.done {done ph : List Nat} {Lx : List HP} {L0 : List HP} [hA : App Lr Lx L0] (hall : (List.range l.length).all (done.contains ·) = true) (k : Fin N ds Q .normal env L0) : SXE P ro N ds l Q Lr done ph env Lx := by
  refine ⟨fun hD hN s => ?_⟩
  induction s with
  | nil =>
    intro S a w hS hcl hq ha hw hl
    refine k.h a w ⟨ha.size, ha.defers, fun x v hx => ha.get x v hx fun j o hj _ => hl j (List.getElem?_eq_some_iff.1 hj).1⟩ (by rw [← hA.eq]; exact hw)
  | cons i s ih =>
    intro S a w hS hcl hq ha hw hl
    obtain ⟨⟨hiS, o, ho, hdep⟩, hl'⟩ := hl
    have hi : i < l.length := (List.getElem?_eq_some_iff.1 ho).1
    have hid : i ∈ done := by
      have := List.all_eq_true.1 hall i (List.mem_range.2 hi); simpa using this
    obtain ⟨o', d, v, ho', hd, hv, hne, hstep⟩ := (hq i hid hiS).at.h
    rw [ho] at ho'; cases ho'
    refine wpOps_step ho (hstep a w _ ha.size ha.defers (fun t ht u hu => ha.get t u hu fun j o' hj hd' => hdep j (hD.reads i o j o' t ho hj hd' ht)) hw fun w' hw' => ?_)
    refine ih (i :: S) _ w' (fun k hk => ?_) hcl (fun k hk hk' => hq k hk (fun h => hk' (List.mem_cons_of_mem _ h))) ?_ hw' hl'
    · rcases List.mem_cons.1 hk with h | h
      · subst h; exact ⟨hid, fun o' ho' j hj => by rw [ho] at ho'; cases ho'; exact List.mem_cons_of_mem _ (hdep j hj)⟩
      · exact ⟨(hS k h).1, fun o' ho' j hj => List.mem_cons_of_mem _ ((hS k h).2 o' ho' j hj)⟩
    · have hdN : d < N := by
        have := List.all_eq_true.1 hN o (List.mem_of_getElem? ho)
        simpa [dstOk, hd] using this
      refine ⟨by simp [Act.put, ha.size], ha.defers, fun x u hx hw2 => ?_⟩
      simp only [Act.put]
      by_cases e : d = x
      · subst e; rw [hv] at hx; cases hx; simp [ha.size, hdN]
      · rw [Array.getElem?_setIfInBounds]; simp only [e, if_false]
        refine ha.get x u hx fun j o' hj hd' => ?_
        rcases List.mem_cons.1 (hw2 j o' hj hd') with h | h
        · subst h; rw [ho] at hj; cases hj; rw [hd] at hd'; cases hd'; exact absurd rfl e
        · exact h

def QS (ds : List Deferred) (d : Nat) (v : Value) (LX : List HP) : Exit → Act → World → Prop := fun e a w => e = .normal ∧ a.defers = ds ∧ a.tmps[d]? = some v ∧ Sat w LX
theorem fin_qs {d : Nat} {v : Value} {LX : List HP} (h : lk env d = some v) [ht : Tail L LX] : Fin N ds (QS ds d v LX) .normal env L :=
  ⟨fun _ _ ha hw => ⟨rfl, ha.defers, ha.get _ _ h, ht.drop _ hw⟩⟩

/-- The frame with env's values laid over it. -/
def over (N : Nat) (env : Env) (a : Act) : Act := { tmps := ((List.range N).map fun k => (lk env k).getD (a.tmps.getD k undef)).toArray, defers := a.defers }
theorem over_get {N : Nat} {env : Env} {a : Act} {k : Nat} (hk : k < N) : (over N env a).tmps[k]? = some ((lk env k).getD (a.tmps.getD k undef)) := by
  simp [over, hk]
theorem over_ag {S : List Nat} {a : Act} (hN : l.all (dstOk N) = true) (ha : AgS N ds l S env a) : Ag N ds env (over N env a) := by
  refine ⟨by simp [over], ha.defers, fun k v hk => ?_⟩
  by_cases hkN : k < N
  · rw [over_get hkN, hk]; rfl
  · exfalso
    have := ha.get k v hk fun j o hj hd => by
      have := List.all_eq_true.1 hN o (List.mem_of_getElem? hj)
      simp [dstOk, hd] at this; omega
    have := (Array.getElem?_eq_some_iff.1 this).1
    rw [ha.size] at this; exact hkN this
theorem over_eval {a : Act} {o : Oper} (hs : a.tmps.size = N) (hop : ∀ t ∈ tmpsOf l o, ∀ u, lk env t = some u → a.tmps[t]? = some u) : ∀ t ∈ tmpsOf l o, (over N env a).tmps[t]? = a.tmps[t]? := by
  intro t ht
  by_cases htN : t < N
  · rw [over_get htN]
    have hlt : t < a.tmps.size := by rw [hs]; exact htN
    cases hl : lk env t with
    | none => simp [Array.getD_eq_getD_getElem?, Array.getElem?_eq_getElem hlt]
    | some u => rw [hop t ht u hl]; rfl
  · have h1 : N ≤ t := Nat.le_of_not_lt htN
    rw [Array.getElem?_eq_none (by simp [over]; exact h1), Array.getElem?_eq_none (by rw [hs]; exact h1)]
theorem over_wanted {a : Act} {o : Oper} (h : ∀ t ∈ tmpsOf l o, (over N env a).tmps[t]? = a.tmps[t]?) : Region.wanted o (yielded l.toArray (over N env a).tmps) = Region.wanted o (yielded l.toArray a.tmps) := by
  unfold Region.wanted
  cases hg : o.guard with
  | none => rfl
  | some g =>
    obtain ⟨j, want⟩ := g
    have : yielded l.toArray (over N env a).tmps j = yielded l.toArray a.tmps j := by
      unfold yielded
      simp only [List.getElem?_toArray]
      cases hd : (l[j]?).bind (·.dst) with
      | none => rfl
      | some d =>
        simp only [Option.bind_some]
        rw [h d (by unfold tmpsOf; rw [hg]; simp [hd])]
    simp only [this]
theorem over_exec {a : Act} {o : Oper} (hp : plainOp o.op = true) (h : ∀ t ∈ tmpsOf l o, (over N env a).tmps[t]? = a.tmps[t]?) : execOp (over N env a).eval o = execOp a.eval o := by
  refine exec_congr (fun cs b e => by rw [e] at hp; cases hp) fun x hx => ?_
  cases x with
  | tmp t =>
    have ht : t ∈ tmpsOf l o := by
      unfold tmpsOf
      refine List.mem_append_left _ (List.mem_filterMap.2 ⟨.tmp t, by simpa using hx, rfl⟩)
    simp only [Act.eval, Array.getD_eq_getD_getElem?, h t ht]
  | const c => rfl
  | global g => rfl
  | func f => rfl
theorem semAt_plain {o : Oper} (hp : plainOp o.op = true) (ρ : Operand → Value) : o.semAt ro ρ = execOp ρ o :=
  Oper.semAt_eq ro ρ o fun c e => by rw [e] at hp; cases hp

theorem uponIn_over {o : Oper} {a b : Act} {next next' : Act → World → Prop} {Q Q' : Exit → Act → World → Prop} {r : Result Next} (h : o.uponIn (wideR ro) 0 P b next' Q' r)
    (hn : ∀ v w, next' (b.put o.dst v) w → next (a.put o.dst v) w) (hdf : ∀ d w, ¬ next' ({ b with defers := d :: b.defers }.put o.dst undef) w) (hq : ∀ c w, Q' (.panic c) b w → False) (ho : ¬ LetsOut Q') :
    o.uponIn (wideR ro) 0 P a next Q r := by
  cases r with
  | halt hh w =>
    cases hh with
    | panic v => exact (hq _ _ h).elim
    | _ => exact h.elim
  | ok x w =>
    cases x with
    | value v => exact hn _ _ h
    | skip => exact hn _ _ h
    | defer d => exact (hdf _ _ h).elim
    | enter f args =>
      refine ⟨h.1, h.2.mono fun e w' k => ?_⟩
      cases e with
      | returned v => exact hn _ _ k
      | panicked c => exact (hq _ _ k).elim
      | outgrown => exact (ho k).elim
    | row f args => exact ⟨h.1, h.2.mono fun v w' k => hn _ _ k⟩
    | round l f t a' b' =>
      refine ⟨h.1, h.2.mono fun e w' k => ?_⟩
      cases e with
      | returned v => exact hn _ _ k
      | panicked c => exact (hq _ _ k).elim
      | outgrown => exact (ho k).elim
    | _ => exact h.elim

/-- From the walk of one operation under all of env to that operation in whatever frame agrees on its operands. -/
theorem stepO_of {k : Nat} {o : Oper} {a : Act} {w : World} {next : Act → World → Prop} {Q Q' : Exit → Act → World → Prop} (hp : plainOp o.op = true) (hN : l.all (dstOk N) = true) (ho : l[k]? = some o)
    (hag : Ag N ds env (over N env a)) (hsz : a.tmps.size = N) (hdf : a.defers = ds) (hop : ∀ t ∈ tmpsOf l o, ∀ u, lk env t = some u → a.tmps[t]? = some u) (hw : Sat w L) (h : SXR P ro N ds l Q' [o] env L)
    (hn : ∀ v w', Q' .normal ((over N env a).put o.dst v) w' → next (a.put o.dst v) w') (hqn : ∀ a' w', Q' .normal a' w' → a'.defers = ds) (hq : ∀ e a' w', Q' e a' w' → e = .normal) : StepO P ro l o a w next Q := by
  have hov := over_eval hsz hop
  have h1 := h.h (by simp [List.all_eq_true.1 hN o (List.mem_of_getElem? ho)]) _ w hag hw
  unfold wpListIn at h1
  unfold StepO
  rw [over_wanted hov] at h1
  split
  · rename_i hwant
    rw [if_pos hwant] at h1
    obtain ⟨_, h2⟩ := h1
    refine ⟨fun _ _ => trivial, ?_⟩
    rw [semAt_plain hp] at h2 ⊢
    rw [over_exec hp hov] at h2
    refine uponIn_over h2 (fun v w' q => hn v w' q) (fun d w' q => ?_) (fun c w' q => ?_) ?_
    · have := hqn _ _ q
      have e : ({ over N env a with defers := d :: (over N env a).defers }.put o.dst undef).defers = d :: ds := by
        cases o.dst <;> simp [Act.put, over, hdf]
      rw [e] at this
      have := congrArg List.length this
      simp at this
    · have := hq _ _ _ q; cases this
    · rintro ⟨a', w', q⟩
      have := hq _ _ _ q
      cases this
  · rename_i hwant
    rw [if_neg hwant] at h1
    exact hn _ _ h1.2

/-- What is known of a pending operation stays when another one's slot is laid over env. -/
theorem QuietAt.put {i d' : Nat} {v' : Value} {o' : Oper} {k : Nat} {LL : List HP} (hD : DrawOk l) (hk : l[k]? = some o') (hd' : o'.dst = some d') (hki : k ≠ i) (hdep : ∀ o, l[i]? = some o → k ∉ depOf o) (h : QuietAt P ro N ds l LL Q env i) :
    QuietAt P ro N ds l LL Q ((d', v') :: env) i := by
  obtain ⟨o, d, v, ho, hd, hv, hne, hs⟩ := h.h
  have hdd : d' ≠ d := fun e => hki (hD.once k o' i o d' hk ho hd' (e ▸ hd))
  have hnt : ∀ t ∈ tmpsOf l o, d' ≠ t := fun t ht e => hdep o ho (hD.reads i o k o' d' ho hk hd' (e ▸ ht))
  exact ⟨o, d, v, ho, hd, by rw [lk_there hdd]; exact hv, fun t ht u hu => hne t ht u (by rw [lk_there (hnt t ht)] at hu; exact hu),
    fun a w next h1 h2 h3 => hs a w next h1 h2 fun t ht u hu => h3 t ht u (by rw [lk_there (hnt t ht)]; exact hu)⟩
theorem Pend.put {i d' : Nat} {v' : Value} {o' : Oper} {k : Nat} {ph : List Nat} {Lx : List HP} (hD : DrawOk l) (hk : l[k]? = some o') (hd' : o'.dst = some d') (hki : k ≠ i) (hdep : ∀ o, l[i]? = some o → k ∉ depOf o) (h : Pend P ro N ds l Q Lr ph env Lx i) :
    Pend P ro N ds l Q Lr ph ((d', v') :: env) Lx i := by
  rcases h with h | ⟨h1, h2⟩
  · exact .inl fun X => (h X).put hD hk hd' hki hdep
  · exact .inr ⟨h1, h2.put hD hk hd' hki hdep⟩
theorem QuietAt.of {i : Nat} {o : Oper} {d : Nat} {v : Value} {LL : List HP} {S : List Nat} {a : Act} (hD : DrawOk l) (hN : l.all (dstOk N) = true) (ho : l[i]? = some o) (hd : o.dst = some d) (hnt : ∀ t ∈ tmpsOf l o, d ≠ t) (ha : AgS N ds l S env a)
    (h : SXR P ro N ds l (QS ds d v LL) [o] env LL) : QuietAt P ro N ds l LL Q ((d, v) :: env) i := by
  refine ⟨o, d, v, ho, hd, lk_here _ _ _, fun t ht u _ e => hnt t ht e.symm, fun b wb next hsz hdf hop hwb hnext => ?_⟩
  refine stepO_of (hD.plain _ _ ho) hN ho ?_ hsz hdf (fun t ht u hu => hop t ht u (by rw [lk_there (hnt t ht)]; exact hu)) hwb h ?_ (fun _ _ q => q.2.1) (fun _ _ _ q => q.1)
  · refine ⟨by simp [over], hdf, fun y u hy => ?_⟩
    have hyN : y < N := by
      have := (Array.getElem?_eq_some_iff.1 ((over_ag hN ha).get y u hy)).1
      simpa [over] using this
    rw [over_get hyN, hy]; rfl
  · rintro u w' ⟨_, _, hg, hs⟩
    rw [hd] at hg ⊢
    have hdN : d < N := by
      have := List.all_eq_true.1 hN o (List.mem_of_getElem? ho)
      simpa [dstOk, hd] using this
    have : u = v := by
      simp only [Act.put] at hg
      rw [Array.getElem?_setIfInBounds_self_of_lt (by simp [over]; exact hdN)] at hg
      exact Option.some.inj hg
    subst this
    exact hnext w' hs

theorem SXE.ahead {done ph ph' : List Nat} {Lx : List HP} (i : Nat) {o : Oper} {d : Nat} {v : Value} (ho : nthO l i = some o) (hr : (!(done.contains i) && (depOf o).all (done.contains ·)) = true) (hd : o.dst = some d)
    (hph : ∀ x ∈ ph, x ∈ ph') (h : ∀ S a, DrawOk l → l.all (dstOk N) = true → (∀ t ∈ tmpsOf l o, d ≠ t) → AgS N ds l S env a → Pend P ro N ds l Q Lr ph' ((d, v) :: env) Lx i) (k : SXE P ro N ds l Q Lr (i :: done) ph' ((d, v) :: env) Lx) : SXE P ro N ds l Q Lr done ph env Lx := by
  rw [nthO_eq] at ho
  simp only [Bool.and_eq_true, Bool.not_eq_true', List.all_eq_true] at hr
  obtain ⟨hr1, hr2⟩ := hr
  have hi : i ∉ done := fun hh => by rw [List.contains_iff_mem.2 hh] at hr1; cases hr1
  have hdeps : ∀ j ∈ depOf o, j ∈ done := fun j hj => List.contains_iff_mem.1 (hr2 j hj)
  refine ⟨fun hD hN s S a w hS hcl hq ha hw hl => k.h hD hN s S a w (fun x hx => ⟨List.mem_cons_of_mem _ (hS x hx).1, (hS x hx).2⟩) ?_ ?_ ?_ hw hl⟩
  · intro x hx o' ho' j hj
    rcases List.mem_cons.1 hx with e | e
    · subst e; rw [ho] at ho'; cases ho'; exact List.mem_cons_of_mem _ (hdeps j hj)
    · exact List.mem_cons_of_mem _ (hcl x e o' ho' j hj)
  · intro x hx hxS
    rcases List.mem_cons.1 hx with e | e
    · subst e
      exact h S a hD hN (fun t ht e => hi (hdeps x (hD.reads x o x o d ho ho hd (e ▸ ht)))) ha
    · have := (hq x e hxS).put (v' := v) hD ho hd (fun e' => hi (e' ▸ e)) fun o' ho' hm => hi (hcl x e o' ho' i hm)
      rcases this with h1 | ⟨h1, h2⟩
      · exact .inl h1
      · exact .inr ⟨hph x h1, h2⟩
  · refine ⟨ha.size, ha.defers, fun x u hx hw2 => ?_⟩
    by_cases e : d = x
    · subst e
      exact absurd (hS i (hw2 i o ho hd)).1 hi
    · rw [lk_there e] at hx; exact ha.get x u hx hw2
/-- AN OPERATION THAT LEAVES ALL AS IT IS AND NEEDS Lr ALONE: taken ahead, whenever it may come. -/
theorem SXE.quiet {done ph : List Nat} {Lx : List HP} (i : Nat) {o : Oper} {d : Nat} {v : Value} (ho : nthO l i = some o) (hr : (!(done.contains i) && (depOf o).all (done.contains ·)) = true) (hd : o.dst = some d)
    {F : List HP → List HP} [hA : ∀ X, App Lr X (F X)] (h : ∀ X, SXR P ro N ds l (QS ds d v (F X)) [o] env (F X)) (k : SXE P ro N ds l Q Lr (i :: done) ph ((d, v) :: env) Lx) : SXE P ro N ds l Q Lr done ph env Lx :=
  SXE.ahead i ho hr hd (fun _ h => h) (fun S a hD hN hnt ha => .inl fun X => QuietAt.of hD hN (by rw [← nthO_eq]; exact ho) hd hnt ha (by rw [(hA X).eq]; exact h X)) k
/-- AN OPERATION THAT LEAVES ALL AS IT IS: the next that changes memory must wait for it. -/
theorem SXE.phase {done ph : List Nat} {Lx L0 : List HP} (i : Nat) {o : Oper} {d : Nat} {v : Value} (ho : nthO l i = some o) (hr : (!(done.contains i) && (depOf o).all (done.contains ·)) = true) (hd : o.dst = some d)
    [hA : App Lr Lx L0] (h : SXR P ro N ds l (QS ds d v L0) [o] env L0) (k : SXE P ro N ds l Q Lr (i :: done) (i :: ph) ((d, v) :: env) Lx) : SXE P ro N ds l Q Lr done ph env Lx :=
  SXE.ahead i ho hr hd (fun _ h => List.mem_cons_of_mem _ h) (fun S a hD hN hnt ha => .inr ⟨List.mem_cons_self, QuietAt.of hD hN (by rw [← nthO_eq]; exact ho) hd hnt ha (by rw [hA.eq]; exact h)⟩) k

def readyL (l : List Oper) (done : List Nat) : List Nat := (List.range l.length).filter fun i => !(done.contains i) && (match l[i]? with | some o => (depOf o).all (done.contains ·) | none => false)
theorem ready_mem {done : List Nat} {k : Nat} (h : Ready l done k) : k ∈ readyL l done := by
  obtain ⟨h1, o, ho, hd⟩ := h
  refine List.mem_filter.2 ⟨List.mem_range.2 (List.getElem?_eq_some_iff.1 ho).1, ?_⟩
  simp only [ho, Bool.and_eq_true, Bool.not_eq_true', List.all_eq_true]
  exact ⟨by cases h : done.contains k with | false => rfl | true => exact absurd (List.contains_iff_mem.1 h) h1, fun j hj => List.contains_iff_mem.2 (hd j hj)⟩
theorem mem_ready {done : List Nat} {k : Nat} (h : k ∈ readyL l done) : k ∉ done ∧ k < l.length := by
  obtain ⟨h1, h2⟩ := List.mem_filter.1 h
  simp only [Bool.and_eq_true, Bool.not_eq_true'] at h2
  exact ⟨(fun hh => by rw [List.contains_iff_mem.2 hh] at h2; exact absurd h2.1 (by simp)), List.mem_range.1 h1⟩
/-- Behind an operation that is taken where it stands. -/
def QE (P : Program) (ro : Option Nat) (N : Nat) (ds : List Deferred) (l : List Oper) (Q : Exit → Act → World → Prop) (Lr : List HP) (done : List Nat) (env : Env) (k : Nat) (dst : Option Tmp) : Exit → Act → World → Prop := fun e a w =>
  e = .normal ∧ a.defers = ds ∧ ∃ v Lx', (∀ d, dst = some d → a.tmps[d]? = some v) ∧ Sat w (Lr ++ Lx') ∧ SXE P ro N ds l Q Lr (k :: done) [] (putE dst v env) Lx'
theorem fin_qe {done : List Nat} {env' : Env} {k d : Nat} {v : Value} {Lx' L' : List HP} (h : lk env' d = some v) (k' : SXE P ro N ds l Q Lr (k :: done) [] ((d, v) :: env) Lx') (hL : ∀ m, big L' m → big (Lr ++ Lx') m) :
    Fin N ds (QE P ro N ds l Q Lr done env k (some d)) .normal env' L' :=
  ⟨fun _ _ ha hw => ⟨rfl, ha.defers, v, Lx', fun d' e => by cases e; exact ha.get _ _ h, hL _ hw, k'⟩⟩
theorem fin_qe0 {done : List Nat} {env' : Env} {k : Nat} {Lx' L' : List HP} (k' : SXE P ro N ds l Q Lr (k :: done) [] env Lx') (hL : ∀ m, big L' m → big (Lr ++ Lx') m) :
    Fin N ds (QE P ro N ds l Q Lr done env k none) .normal env' L' :=
  ⟨fun _ _ ha hw => ⟨rfl, ha.defers, undef, Lx', (fun d' e => by cases e), hL _ hw, k'⟩⟩
theorem SXE.branch {done ph : List Nat} {Lx : List HP} (hne : readyL l done ≠ []) (hph : ∀ k ∈ readyL l done, ∀ o, l[k]? = some o → ∀ i ∈ ph, i ∈ depOf o) (h : ∀ k ∈ readyL l done, ∀ o, l[k]? = some o → SXR P ro N ds l (QE P ro N ds l Q Lr done env k o.dst) [o] env (Lr ++ Lx)) : SXE P ro N ds l Q Lr done ph env Lx := by
  refine ⟨fun hD hN s => ?_⟩
  induction s with
  | nil =>
    intro S a w hS hcl hq ha hw hl
    obtain ⟨k, hk⟩ := List.exists_mem_of_ne_nil _ hne
    obtain ⟨h1, h2⟩ := mem_ready hk
    exact absurd (hS k (hl k h2)).1 h1
  | cons i s ih =>
    intro S a w hS hcl hq ha hw hl
    obtain ⟨⟨hiS, o, ho, hdep⟩, hl'⟩ := hl
    have hop : ∀ t ∈ tmpsOf l o, ∀ u, lk env t = some u → a.tmps[t]? = some u := fun t ht u hu => ha.get t u hu fun j o' hj hd' => hdep j (hD.reads i o j o' t ho hj hd' ht)
    by_cases hid : i ∈ done
    · obtain ⟨o', d, v, ho', hd, hv, hne, hstep⟩ := (hq i hid hiS).at.h
      rw [ho] at ho'; cases ho'
      refine wpOps_step ho (hstep a w _ ha.size ha.defers hop hw fun w' hw' => ?_)
      refine ih (i :: S) _ w' (fun k hk => ?_) hcl (fun k hk hk' => hq k hk (fun h => hk' (List.mem_cons_of_mem _ h))) ?_ hw' hl'
      · rcases List.mem_cons.1 hk with h | h
        · subst h; exact ⟨hid, fun o' ho' j hj => by rw [ho] at ho'; cases ho'; exact List.mem_cons_of_mem _ (hdep j hj)⟩
        · exact ⟨(hS k h).1, fun o' ho' j hj => List.mem_cons_of_mem _ ((hS k h).2 o' ho' j hj)⟩
      · have hdN : d < N := by
          have := List.all_eq_true.1 hN o (List.mem_of_getElem? ho)
          simpa [dstOk, hd] using this
        refine ⟨by simp [Act.put, ha.size], ha.defers, fun x u hx hw2 => ?_⟩
        simp only [Act.put]
        by_cases e : d = x
        · subst e; rw [hv] at hx; cases hx; simp [ha.size, hdN]
        · rw [Array.getElem?_setIfInBounds]; simp only [e, if_false]
          refine ha.get x u hx fun j o' hj hd' => ?_
          rcases List.mem_cons.1 (hw2 j o' hj hd') with h | h
          · subst h; rw [ho] at hj; cases hj; rw [hd] at hd'; cases hd'; exact absurd rfl e
          · exact h
    · have hrd : i ∈ readyL l done := ready_mem ⟨hid, o, ho, fun j hj => (hS j (hdep j hj)).1⟩
      refine wpOps_step ho (stepO_of (hD.plain _ _ ho) hN ho (over_ag hN ha) ha.size ha.defers hop hw (h i hrd o ho) ?_ (fun _ _ q => q.2.1) (fun _ _ _ q => q.1))
      rintro u w' ⟨_, _, v, Lx', hv, hs, k'⟩
      have hput : ∀ d, o.dst = some d → u = v := by
        intro d hd
        have := hv d hd
        rw [hd] at this
        have hdN : d < N := by
          have := List.all_eq_true.1 hN o (List.mem_of_getElem? ho)
          simpa [dstOk, hd] using this
        simp only [Act.put] at this
        rw [Array.getElem?_setIfInBounds_self_of_lt (by simp [over]; exact hdN)] at this
        exact Option.some.inj this
      refine k'.h hD hN s (i :: S) _ w' (fun k hk => ?_) ?_ ?_ ?_ hs hl'
      · rcases List.mem_cons.1 hk with h | h
        · subst h; exact ⟨List.mem_cons_self, fun o' ho' j hj => by rw [ho] at ho'; cases ho'; exact List.mem_cons_of_mem _ (hdep j hj)⟩
        · exact ⟨List.mem_cons_of_mem _ (hS k h).1, fun o' ho' j hj => List.mem_cons_of_mem _ ((hS k h).2 o' ho' j hj)⟩
      · intro x hx o' ho' j hj
        rcases List.mem_cons.1 hx with e | e
        · subst e; rw [ho] at ho'; cases ho'; exact List.mem_cons_of_mem _ (hS j (hdep j hj)).1
        · exact List.mem_cons_of_mem _ (hcl x e o' ho' j hj)
      · intro x hx hxS
        rcases List.mem_cons.1 hx with e | e
        · subst e; exact absurd List.mem_cons_self hxS
        · have hqx : ∀ X, QuietAt P ro N ds l (Lr ++ X) Q env x := by
            rcases hq x e (fun h => hxS (List.mem_cons_of_mem _ h)) with h1 | ⟨h1, _⟩
            · exact h1
            · exact absurd (List.mem_cons_of_mem _ (hdep x (hph i hrd o ho x h1))) hxS
          cases hd : o.dst with
          | none => exact .inl hqx
          | some d => exact .inl fun X => (hqx X).put hD ho hd (fun e' => hid (e' ▸ e)) fun o' ho' hm => hid (hcl x e o' ho' i hm)
      · cases hd : o.dst with
        | none =>
          refine ⟨ha.size, ha.defers, fun x u' hx hw2 => ha.get x u' hx fun j o' hj hd' => ?_⟩
          rcases List.mem_cons.1 (hw2 j o' hj hd') with h | h
          · subst h; rw [ho] at hj; cases hj; rw [hd] at hd'; cases hd'
          · exact h
        | some d =>
          have hdN : d < N := by
            have := List.all_eq_true.1 hN o (List.mem_of_getElem? ho)
            simpa [dstOk, hd] using this
          have := hput d hd
          subst this
          refine ⟨by simp [Act.put, ha.size], ha.defers, fun x u' hx hw2 => ?_⟩
          simp only [Act.put]
          by_cases e : d = x
          · subst e; simp only [putE] at hx; rw [lk_here] at hx; cases hx; simp [ha.size, hdN]
          · simp only [putE] at hx; rw [lk_there e] at hx
            rw [Array.getElem?_setIfInBounds]; simp only [e, if_false]
            refine ha.get x u' hx fun j o' hj hd' => ?_
            rcases List.mem_cons.1 (hw2 j o' hj hd') with h | h
            · subst h; rw [ho] at hj; cases hj; rw [hd] at hd'; cases hd'; exact absurd rfl e
            · exact h
/-- The one operation that is ready. -/
theorem SXE.one {done ph : List Nat} {Lx L0 : List HP} (i : Nat) {o : Oper} (hr : readyL l done = [i]) (ho : nthO l i = some o) (hph : ph.all ((depOf o).contains ·) = true) [hA : App Lr Lx L0]
    (h : SXR P ro N ds l (QE P ro N ds l Q Lr done env i o.dst) [o] env L0) : SXE P ro N ds l Q Lr done ph env Lx :=
  SXE.branch (by rw [hr]; simp) (by
    intro k hk o' ho' x hx
    rw [hr] at hk
    obtain rfl := List.mem_singleton.1 hk
    rw [nthO_eq] at ho; rw [ho] at ho'; cases ho'
    exact List.contains_iff_mem.1 (List.all_eq_true.1 hph x hx)) (by
    intro k hk o' ho'
    rw [hr] at hk
    obtain rfl := List.mem_singleton.1 hk
    rw [nthO_eq] at ho; rw [ho] at ho'; cases ho'
    rw [hA.eq]; exact h)
/-- Two that are ready. -/
theorem SXE.two {done ph : List Nat} {Lx L0 : List HP} (i j : Nat) {o o2 : Oper} (hr : readyL l done = [i, j]) (ho : nthO l i = some o) (ho2 : nthO l j = some o2) (hph : ph.all ((depOf o).contains ·) = true) (hph2 : ph.all ((depOf o2).contains ·) = true) [hA : App Lr Lx L0]
    (h : SXR P ro N ds l (QE P ro N ds l Q Lr done env i o.dst) [o] env L0) (h2 : SXR P ro N ds l (QE P ro N ds l Q Lr done env j o2.dst) [o2] env L0) : SXE P ro N ds l Q Lr done ph env Lx :=
  SXE.branch (by rw [hr]; simp) (by
    intro k hk o' ho' x hx
    rw [hr] at hk
    rcases List.mem_cons.1 hk with e | e
    · subst e; rw [nthO_eq] at ho; rw [ho] at ho'; cases ho'; exact List.contains_iff_mem.1 (List.all_eq_true.1 hph x hx)
    · obtain rfl := List.mem_singleton.1 e
      rw [nthO_eq] at ho2; rw [ho2] at ho'; cases ho'; exact List.contains_iff_mem.1 (List.all_eq_true.1 hph2 x hx)) (by
    intro k hk o' ho'
    rw [hr] at hk
    rcases List.mem_cons.1 hk with e | e
    · subst e; rw [nthO_eq] at ho; rw [ho] at ho'; cases ho'; rw [hA.eq]; exact h
    · obtain rfl := List.mem_singleton.1 e
      rw [nthO_eq] at ho2; rw [ho2] at ho'; cases ho'; rw [hA.eq]; exact h2)

class Mixed (P : Program) : Prop where
  eq : P.follows .mixedOrders = true
/-- A region that draws its order. Lr: the chunks that no operation of it changes; Lx: the rest. -/
theorem SXC.draw {id : Nat} {Lx : List HP} [hm : Mixed P] (Lr : List HP) (hok : drawOk l = true) [hp : Picks Lr L Lx] (h : SXE P ro N ds l Q Lr [] [] env Lx) : SXC P ro N ds (.region id l.toArray true) Q env L := by
  refine ⟨fun hb a w ha hw => wpIn_region_draw fun t => ?_⟩
  have hD := drawOk_spec hok
  rw [hm.eq]
  refine h.h hD (by simpa [below] using hb) _ [] _ _ (by simp) (by simp) (by simp) ⟨ha.size, ha.defers, fun k v hk _ => ha.get k v hk⟩ ?_ (schedule_lin l hD.back t)
  exact Sat.heap (hw.perm hp.perm) rfl
end
end Go.Sl
