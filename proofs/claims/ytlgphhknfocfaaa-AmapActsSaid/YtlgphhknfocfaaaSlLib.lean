import Derived.Test.YtlgphhknfocfaaaSlAbs
namespace Go.Sl
section
variable {P : Program} {ro : Option Nat} {N : Nat} {ds : List Deferred} {lops : List Oper} {Q : Exit → Act → World → Prop} {rest : List Oper} {env env' : Env} {L R R0 : List HP} {cc : Code} {e : Exit}
variable {x y c ix : Operand} {d : Tmp} {t t2 tt s e1 e2 : TypeId} {p : String} {af : Array Edge}

/-- A call of a function value. -/
theorem SXR.callV {f : FuncId} {fo : Operand} {caps : List Value} {xs : List Operand} {pre : List HP} {vs : List Value} {Post : Value → List HP → Prop} {ts : Array TypeId} [hc : CalF P f] (spec : Tri P f (vs ++ caps) pre Post) (hf : ev env fo = some (.func (.func f) #[] caps.toArray)) (hargs : evs env xs = some vs) [hp : Picks pre L R]
    (k : ∀ v L', Post v L' → SXR P ro N ds lops Q rest ((d, v) :: env) (L' ++ R)) : SXR P ro N ds lops Q (⟨some d, .call ⟨.value fo, xs.toArray, ts⟩, tt, p, af, none⟩ :: rest) env L := by
  refine ⟨fun hb a w ha hw => ?_⟩
  simp only [List.all_cons, Bool.and_eq_true] at hb
  unfold wpListIn
  rw [if_pos (by simp [Region.wanted])]
  refine ⟨fun _ _ => trivial, ?_⟩
  have hrun : (execOp a.eval ⟨some d, .call ⟨.value fo, xs.toArray, ts⟩, tt, p, af, none⟩).run P w = .ok (.enter f (vs ++ caps).toArray) w := by
    simp [execOp, resolve, Deferred.ofValue, invoke, ha.ev hf, hc.run, ha.evs hargs]
  rw [show ∀ ρ, Oper.semAt (wideR ro).round ρ ⟨some d, .call ⟨.value fo, xs.toArray, ts⟩, tt, p, af, none⟩ = execOp ρ ⟨some d, .call ⟨.value fo, xs.toArray, ts⟩, tt, p, af, none⟩ from fun _ => by cases ro <;> rfl, hrun]
  refine ⟨by simp [wideR, Fence.wide], callsIn_wideR ?_⟩
  obtain h := spec.h w R (hw.perm hp.perm)
  intro cs
  obtain ⟨e, w', fr, ⟨v, L', hP, he, hS⟩, rest'⟩ := h cs
  subst he
  exact ⟨.returned v, w', fr, (k v L' hP).h hb.2 _ _ (ha.put (d := some d) hb.1 v) hS, rest'⟩
theorem SXR.callVF {f : FuncId} {fo : Operand} {caps : List Value} {xs : List Operand} {pre post L' : List HP} {vs : List Value} {v : Value} {ts : Array TypeId} [hc : CalF P f] (spec : Tri P f (vs ++ caps) pre (fun u l => u = v ∧ l = post)) (hf : ev env fo = some (.func (.func f) #[] caps.toArray)) (hargs : evs env xs = some vs) [hp : Picks pre L R] [ha : App post R L']
    (k : SXR P ro N ds lops Q rest ((d, v) :: env) L') : SXR P ro N ds lops Q (⟨some d, .call ⟨.value fo, xs.toArray, ts⟩, tt, p, af, none⟩ :: rest) env L :=
  SXR.callV spec hf hargs (by rintro _ _ ⟨rfl, rfl⟩; rw [ha.eq]; exact k)
theorem RdS.slice {w : World} {v : Value} {n : Nat} {cs : List Value} (h : RdS w v n cs) : ∃ a cap, v = .slice a n cap := by
  rcases h with ⟨rfl, rfl, _⟩ | ⟨b, off, cap, vs, T, fr, rfl, _⟩
  · exact ⟨none, 0, rfl⟩
  · exact ⟨_, cap, rfl⟩
/-- The length of a slice that is known as a list. -/
theorem SXR.lenRd {v : Value} {n : Nat} {cs : List Value} [h : Und P t (.slice e1)] (hx : ev env x = some v) (hr : ∀ w, Sat w L → RdS w v n cs) (k : SXR P ro N ds lops Q rest ((d, .int .i64 n) :: env) L) :
    SXR P ro N ds lops Q (⟨some d, .call ⟨.builtin .len, [x].toArray, [t].toArray⟩, tt, p, af, none⟩ :: rest) env L :=
  SXR.val rfl (fun _ => by cases ro <;> rfl) (fun A w ha hw => by
    obtain ⟨a, cap, rfl⟩ := (hr w hw).slice
    simp [execOp, resolve, invoke, builtin, Builtin.len_, ha.ev hx, run_underlying h.eq, goInt]) k
instance [h : Und P t (.slice e1)] : Go (SXR P ro N ds lops Q (⟨some d, .call ⟨.builtin .cap, [x].toArray, [t].toArray⟩, tt, p, af, none⟩ :: rest) env L) Nat Unit Unit
    (fun n b c => (match ev env x with | some (.slice _ _ n) => some (n, (), ()) | _ => none) = some (n, b, c)) (fun n _ _ => SXR P ro N ds lops Q rest ((d, .int .i64 n) :: env) L) :=
  ⟨fun n _ _ e k => SXR.val rfl (fun _ => by cases ro <;> rfl) (fun A w ha _ => by
    have h0 : ∃ a c, ev env x = some (.slice a c n) := by split at e <;> simp_all
    obtain ⟨a, c, h0⟩ := h0
    simp [execOp, resolve, invoke, builtin, Builtin.cap_, ha.ev h0, run_underlying h.eq, goInt]) k⟩
theorem zeroCells_eq (zs : List Value) (hz : 0 < zs.length) (n : Nat) : Builtin.zeroCells zs.toArray n = (zerosL zs n).toArray := by
  apply Array.ext'
  simp only [Builtin.zeroCells, zerosL, Array.toList_map, Array.toList_range, List.size_toArray]
  apply List.map_congr_left
  intro x _
  have : x % zs.length < zs.length := Nat.mod_lt _ hz
  simp [List.getD, List.getElem?_eq_getElem this]
theorem run_append_zeros {w : World} {n : Int} {sz bytes : Nat} {zs : List Value} [hu : Und P t (.slice e1)] [hu2 : Und P t2 (.int .i64)] [hsz : SizeT P e1 sz] [hb : BytesT P e1 bytes] [hz : ZeroT P e1 zs] (hzl : zs.length = sz) (hzp : 0 < sz) (h0 : 0 < n) (hsize : n.toNat * bytes ≤ 1099511627776) (hn : n ≤ 1099511627776) (hw : Sat w L) :
    ∃ w' b cap, (Builtin.append_ #[t, t2] tt #[.slice none 0 0, .int .i64 n]).run P w = .ok (.slice (some ⟨b, 0, none⟩) n.toNat cap) w' ∧ n.toNat ≤ cap ∧ Sat w' (pts b (.cells (zerosL zs n.toNat ++ zerosL zs (cap - n.toNat)).toArray e1 (0, 0)) :: L) := by
  obtain ⟨i, hi, hbi⟩ := hb.info
  obtain ⟨z, hz1, hz2⟩ := hz.zero
  obtain ⟨m, rfl⟩ := Int.eq_ofNat_of_zero_le (Int.le_of_lt h0)
  have hm0 : 0 < m := by omega
  have hwn : IntKind.i64.wrap (m : Int) = m := IntWalk.i64_in _ ⟨by omega, by omega⟩
  have hmb : m * bytes ≤ 1099511627776 := hsize
  have hnc := nextcap_le hm0
  have h48 : ¬ (Builtin.nextslicecap m 0 * i.bytes > 2 ^ 48) := by
    rw [hbi]
    have h1 : Builtin.nextslicecap m 0 * bytes ≤ 2 * m * bytes := Nat.mul_le_mul_right _ hnc
    have e : 2 * m * bytes = 2 * (m * bytes) := by rw [Nat.mul_assoc]
    omega
  obtain ⟨nc, hnc2, hch⟩ : ∃ nc, m ≤ nc ∧ (choose (.appendCap m 0 e1)).run P w = .ok nc w.drew :=
    ⟨(Question.appendCap m 0 e1).cut (w.tape w.drawn (.appendCap m 0 e1)), by simp only [Question.cut]; omega, by rw [run_choose]; simp [Question.forced]⟩
  have hlz : 0 < zs.length := by omega
  refine ⟨w.drew.alloc (.cells (zerosL zs m ++ zerosL zs (nc - m)).toArray e1 (0, 0)), w.heap.size, nc, ?_, by simpa using hnc2, (Sat.heap (w' := w.drew) hw rfl).new rfl⟩
  simp only [Builtin.append_, List.getElem?_toArray, List.getElem?_cons_zero, List.getElem?_cons_succ, Sem.run_bind, run_underlying hu.eq, run_underlying hu2.eq, Result.andThen_ok, hsz.size, Sem.run_pure, hi, asInt, asIntOf, if_true, hwn]
  rw [if_neg (by omega)]
  simp only [Sem.run_bind, hi, Result.andThen_ok]
  rw [if_neg (by rw [hbi, ← Int.natCast_mul]; omega)]
  simp only [Sem.run_bind, Sem.run_pure, Result.andThen_ok, Int.toNat_natCast, Nat.zero_add]
  rw [if_neg (by omega)]
  simp only [Sem.run_bind, hi, Result.andThen_ok]
  rw [if_neg (by rintro ⟨h, _⟩; have e : (IntKind.i64.max : Int) = 9223372036854775807 := by decide
                 rw [e] at h; omega)]
  simp only [Sem.run_bind, hi, Result.andThen_ok]
  rw [if_neg h48]
  simp only [Sem.run_bind, hch, Result.andThen_ok, hi, run_askRoom, Builtin.firstCells, Bool.not_true, Bool.false_eq_true, if_false]
  have hms : m * sz ≠ 0 := Nat.mul_ne_zero (by omega) (by omega)
  simp only [hms, if_false, Sem.run_bind, hz1, Result.andThen_ok, Sem.run_pure, hz2, zeroCells_eq zs hlz, Nat.zero_mul, if_true]
  simp [newRow]
/-- append(nil, make([]E, n)...). -/
theorem SXR.appendZeros {n : Int} {sz bytes : Nat} {zs : List Value} [hu : Und P t (.slice e1)] [hu2 : Und P t2 (.int .i64)] [hsz : SizeT P e1 sz] [hb : BytesT P e1 bytes] [hz : ZeroT P e1 zs] (hx : ev2 env x y = some (.slice none 0 0, .int .i64 n)) (hzl : zs.length = sz) (hzp : 0 < sz) (h0 : 0 < n) (hsize : n.toNat * bytes ≤ 1099511627776) (hn : n ≤ 1099511627776)
    (k : ∀ b cap, n.toNat ≤ cap → SXR P ro N ds lops Q rest ((d, .slice (some ⟨b, 0, none⟩) n.toNat cap) :: env) (pts b (.cells (zerosL zs n.toNat ++ zerosL zs (cap - n.toNat)).toArray e1 (0, 0)) :: L)) :
    SXR P ro N ds lops Q (⟨some d, .call ⟨.builtin .append, [x, y].toArray, [t, t2].toArray⟩, tt, p, af, none⟩ :: rest) env L :=
  SXR.step rfl (fun _ => by cases ro <;> rfl) fun a w ha hw => by
    obtain ⟨h1, h2⟩ := ev2_some hx
    obtain ⟨w', b, cap, r1, r2, r3⟩ := run_append_zeros (P := P) (t := t) (t2 := t2) (tt := tt) (e1 := e1) hzl hzp h0 hsize hn hw
    refine ⟨w', _, _, .inl ?_, r3, k b cap r2⟩
    simp [execOp, resolve, invoke, builtin, ha.ev h1, ha.ev h2, r1]
end
end Go.Sl
