import Derived.Test.YtlgphhknfocfaaaSlRet
namespace Go.Sl

class BytesT (P : Program) (t : TypeId) (n : outParam Nat) : Prop where
  info : ∃ i, (∀ w, (typeInfo t).run P w = .ok i w) ∧ i.bytes = n

/-- A value that reads as a slice of n elements, whose cells are cs. -/
def RdS (w : World) (v : Value) (n : Nat) (cs : List Value) : Prop :=
  (v = .slice none 0 0 ∧ n = 0 ∧ cs = []) ∨ ∃ b off cap vs T fr, v = .slice (some ⟨b, off, none⟩) n cap ∧ w.heap[b]? = some (.cells (List.toArray vs) T fr) ∧ off + cs.length ≤ vs.length ∧ (vs.drop off).take cs.length = cs
/-- A slice of one's own: n elements of sz cells each, and what is spare behind them. -/
def vec (v : Value) (n sz : Nat) (T : TypeId) (cs : List Value) : HP := fun m => cs.length = n * sz ∧
  ((v = .slice none 0 0 ∧ n = 0) ∨ ∃ b cap sp, v = .slice (some ⟨b, 0, none⟩) n cap ∧ n ≤ cap ∧ sp.length = (cap - n) * sz ∧ pts b (.cells (cs ++ sp).toArray T (0, 0)) m)

theorem RdS.lenOf {P : Program} {w : World} {v : Value} {n : Nat} {cs : List Value} (h : RdS w v n cs) (w' : World) : (Builtin.lenOf v).run P w' = .ok n w' := by
  rcases h with ⟨rfl, rfl, _⟩ | ⟨b, off, cap, vs, T, fr, rfl, _⟩ <;> rfl
theorem RdS.first {P : Program} {w : World} {v : Value} {n sz : Nat} {cs : List Value} (h : RdS w v n cs) (hl : cs.length = n * sz) : (Builtin.firstCells sz n v).run P w = .ok cs.toArray w := by
  rcases h with ⟨rfl, rfl, rfl⟩ | ⟨b, off, cap, vs, T, fr, rfl, hb, hle, hc⟩
  · simp [Builtin.firstCells]
  · have := loadCells_of (P := P) hb off (n * sz) 0 #[] (by omega)
    simp only [Builtin.firstCells, loadCells, this, Nat.add_zero]
    rw [← hl, hc]; simp
theorem putL_eq : ∀ (r vs : List Value) (off : Nat), (∀ y ∈ r, y.oneCell' = true) → off + r.length ≤ vs.length → putL vs off r = some (vs.take off ++ r ++ vs.drop (off + r.length)) := by
  intro r
  induction r with
  | nil => intro vs off _ h; unfold putL; simp
  | cons v r ih =>
    intro vs off h1 hl
    have hv : oneV v = true := by rw [oneV_eq]; exact h1 v (by simp)
    have hs : ∀ (vs : List Value) (n : Nat), n < vs.length → setL vs n v = some (vs.set n v) := by
      intro vs
      induction vs with
      | nil => intro n h; simp at h
      | cons x xs ih2 =>
        intro n h
        cases n with
        | zero => simp [setL]
        | succ m => simp only [setL]; rw [ih2 m (by simpa using h)]; rfl
    unfold putL
    simp only [hv, hs vs off (by simp at hl; omega)]
    rw [ih _ _ (fun y hy => h1 y (by simp [hy])) (by simp at hl ⊢; omega)]
    congr 1
    simp only [List.length_cons] at hl
    apply List.ext_getElem?
    intro i
    simp only [List.append_assoc, List.getElem?_append, List.length_take, List.length_set, List.getElem?_take, List.getElem?_set, List.getElem?_drop, List.length_cons]
    have e1 : min (off + 1) vs.length = off + 1 := by omega
    have e2 : min off vs.length = off := by omega
    rw [e1, e2]
    by_cases c1 : i < off
    · have : i < off + 1 := by omega
      have : ¬ off = i := by omega
      simp [*]
    · by_cases c2 : i = off
      · subst c2; simp; omega
      · have h3 : ¬ i < off + 1 := by omega
        have h4 : i - off = (i - (off + 1)) + 1 := by omega
        simp only [c1, h3, if_false, h4]
        simp only [List.getElem?_cons_succ]
        by_cases c3 : i - (off + 1) < r.length
        · have : i - (off + 1) + 1 < r.length + 1 := by omega
          simp [c3]
        · have h5 : ¬ (i - (off + 1) + 1 < r.length + 1) := by omega
          have h6 : ¬ off = off + 1 + r.length + (i - (off + 1) - r.length) := by omega
          simp only [c3, h5, if_false, h6]
          congr 1; omega
theorem growBy_le (need : Nat) : ∀ (r c : Nat), 256 ≤ c → c ≤ 2 * need → Builtin.growBy need r c ≤ 2 * need
  | 0, c, _, h => by simpa [Builtin.growBy] using h
  | r + 1, c, h0, h => by
    unfold Builtin.growBy
    split
    · exact h
    · exact growBy_le need r _ (by omega) (by omega)
theorem nextcap_le {need old : Nat} (h : old < need) : Builtin.nextslicecap need old ≤ 2 * need := by
  unfold Builtin.nextslicecap
  split
  · omega
  · split
    · omega
    · exact growBy_le _ _ _ (by omega) (by omega)

section
variable {P : Program} {ro : Option Nat} {N : Nat} {ds : List Deferred} {lops : List Oper} {Q : Exit → Act → World → Prop} {rest : List Oper} {env env' : Env} {L R R0 : List HP}
variable {x y c ix : Operand} {d : Tmp} {t t2 tt s e e2 : TypeId} {p : String} {af : Array Edge}

theorem run_append {w : World} {vs vy : Value} {n m sz bytes : Nat} {cs ys : List Value} {zs : List Value} {R : List HP} [hu : Und P t (.slice e)] [hu2 : Und P t2 (.slice e2)] [hsz : SizeT P e sz] [hb : BytesT P e bytes] [hz : ZeroT P e zs] (hzl : zs.length = sz)
    (hw : Sat w (vec vs n sz e cs :: R)) (hy : RdS w vy m ys) (hyl : ys.length = m * sz) (hy1 : ∀ y ∈ ys, y.oneCell' = true) (hsize : (n + m) * bytes ≤ 1099511627776) (hn : n + m ≤ 1099511627776) :
    ∃ w' v', (Builtin.append_ #[t, t2] tt #[vs, vy]).run P w = .ok v' w' ∧ Sat w' (vec v' (n + m) sz e (cs ++ ys) :: R) := by
  obtain ⟨i, hi, hbi⟩ := hb.info
  obtain ⟨z, hz1, hz2⟩ := hz.zero
  obtain ⟨m1, m2, s1, s2, hd, ⟨hcl, hv⟩, hR⟩ := hw
  have hlen := hy.lenOf (P := P) w
  have hfst := hy.first (P := P) hyl
  have grow : ∀ (base : Option Addr) (cap : Nat), vs = .slice base n cap → cap < n + m → (Builtin.firstCells sz n vs).run P w = .ok cs.toArray w →
      ∃ w' v', (Builtin.append_ #[t, t2] tt #[vs, vy]).run P w = .ok v' w' ∧ Sat w' (vec v' (n + m) sz e (cs ++ ys) :: R) := by
    intro base cap hvs hlt hold
    have hnc := nextcap_le hlt
    have h48 : ¬ (Builtin.nextslicecap (n + m) cap * i.bytes > 2 ^ 48) := by
      rw [hbi]
      have : Builtin.nextslicecap (n + m) cap * bytes ≤ 2 * (n + m) * bytes := Nat.mul_le_mul_right _ hnc
      have e : 2 * (n + m) * bytes = 2 * ((n + m) * bytes) := by rw [Nat.mul_assoc]
      omega
    obtain ⟨nc, hnc2, hch⟩ : ∃ nc, n + m ≤ nc ∧ (choose (.appendCap (n + m) cap e)).run P w = .ok nc w.drew :=
      ⟨(Question.appendCap (n + m) cap e).cut (w.tape w.drawn (.appendCap (n + m) cap e)), by simp only [Question.cut]; omega, by rw [run_choose]; simp [Question.forced]⟩
    let row : List Value := cs ++ ys ++ (Builtin.zeroCells zs.toArray (nc - (n + m))).toList
    let w1 : World := w.drew
    refine ⟨w.drew.alloc (.cells row.toArray e (0, 0)), .slice (some ⟨w.heap.size, 0, none⟩) (n + m) nc, ?_, ?_⟩
    · have hmax : ¬ (((n + m : Nat) : Int) > IntKind.i64.max ∧ (False ∨ i.bytes = 0)) := by
        rintro ⟨h, _⟩
        have : (IntKind.i64.max : Int) = 9223372036854775807 := by decide
        rw [this] at h; omega
      have hold' : (Builtin.firstCells sz n vs).run P w.drew = .ok cs.toArray w.drew := by
        have hro : RdS w vs n cs := by
          rcases hv with ⟨h1, h2⟩ | ⟨b, cap', sp, h1, h2, h3, h4⟩
          · left; refine ⟨h1, h2, ?_⟩; subst h2; simpa using hcl
          · right; exact ⟨b, 0, cap', cs ++ sp, e, (0, 0), h1, heapOf_succ (s1 (b + 1) _ h4), by simp, by simp⟩
        have : RdS w.drew vs n cs := hro
        exact this.first hcl
      have hfst' : (Builtin.firstCells sz m vy).run P w.drew = .ok ys.toArray w.drew := (show RdS w.drew vy m ys from hy).first hyl
      rw [hvs] at hold' ⊢
      simp only [Builtin.append_, List.getElem?_toArray, List.getElem?_cons_zero, List.getElem?_cons_succ, Sem.run_bind, run_underlying hu.eq, run_underlying hu2.eq, Result.andThen_ok, hsz.size, Sem.run_pure, hlen, hi, Bool.false_eq_true, if_false]
      rw [if_neg (by omega)]
      simp only [Sem.run_bind, hi, Result.andThen_ok, Sem.run_ite, hch, run_askRoom, hold', hfst', hz1]
      rw [if_neg (by simpa using hmax), if_neg h48]
      simp only [Sem.run_bind, hi, Result.andThen_ok, Sem.run_ite, hch, run_askRoom, hold', hfst', hz1, Sem.run_pure, hz2]
      simp [newRow, row, hold', hfst']
      congr 2
      apply Array.ext'
      simp
    · have h1 : Sat w1 R := big_mono s2 hR
      have h2 := h1.new (o := .cells row.toArray e (0, 0)) (w' := w.drew.alloc (.cells row.toArray e (0, 0))) rfl
      refine big_head (fun mm hh => ⟨by simp [hcl, hyl, Nat.add_mul], .inr ⟨_, nc, (Builtin.zeroCells zs.toArray (nc - (n + m))).toList, rfl, hnc2, by simp [Builtin.zeroCells, hzl], hh⟩⟩) _ h2
  rcases hv with ⟨rfl, rfl⟩ | ⟨b, cap, sp, rfl, hcap, hsp, hmb⟩
  · have hc0 : cs = [] := by simpa using hcl
    subst hc0
    by_cases hm : m = 0
    · subst hm
      have hy0 : ys = [] := by simpa using hyl
      subst hy0
      refine ⟨w, .slice none 0 0, ?_, ⟨m1, m2, s1, s2, hd, ⟨by simp, .inl ⟨rfl, rfl⟩⟩, hR⟩⟩
      simp [Builtin.append_, run_underlying hu.eq, run_underlying hu2.eq, hsz.size, hlen, hfst]
    · exact grow none 0 rfl (by omega) (by simp [Builtin.firstCells])
  · by_cases hle : n + m ≤ cap
    · have hpts : w.heap[b]? = some (.cells (cs ++ sp).toArray e (0, 0)) := heapOf_succ (s1 (b + 1) _ hmb)
      have hmul : m * sz ≤ (cap - n) * sz := Nat.mul_le_mul_right _ (by omega)
      have hfit : n * sz + 0 + ys.length ≤ (cs ++ sp).length := by simp [hcl, hsp, hyl]; omega
      obtain ⟨w', r1, r2, r3, r4, r5⟩ := run_storeCells (P := P) (T := e) (b := b) (off := n * sz) ys 0 (cs ++ sp) _ w hpts (putL_eq ys _ _ hy1 hfit)
      refine ⟨w', .slice (some ⟨b, 0, none⟩) (n + m) cap, ?_, ?_⟩
      · simp only [Builtin.append_, List.getElem?_toArray, List.getElem?_cons_zero, List.getElem?_cons_succ, Sem.run_bind, run_underlying hu.eq, run_underlying hu2.eq, Result.andThen_ok, hsz.size, Sem.run_pure, hlen, Bool.false_eq_true, if_false]
        rw [if_pos hle]
        simp only [Bool.not_false, if_true, Sem.run_bind, hfst, Result.andThen_ok, Addr.add_eq, Nat.zero_add, r1, Sem.run_pure]
      · have hw2 : Sat w (pts b (.cells (cs ++ sp).toArray e (0, 0)) :: R) := ⟨m1, m2, s1, s2, hd, hmb, hR⟩
        refine big_head (fun mm hh => ⟨by simp [hcl, hyl, Nat.add_mul], .inr ⟨b, cap, sp.drop (m * sz), rfl, hle, ?_, ?_⟩⟩) _ (hw2.upd r2 r3 r4 r5)
        · simp only [List.length_drop, hsp]
          rw [← Nat.sub_mul]; congr 1; omega
        · have : (cs ++ sp).take (n * sz + 0) ++ ys ++ (cs ++ sp).drop (n * sz + 0 + ys.length) = cs ++ ys ++ sp.drop (m * sz) := by
            rw [Nat.add_zero, ← hcl, List.take_left, List.drop_append]
            simp [hyl, List.drop_of_length_le]
          rw [this] at hh; exact hh
    · exact grow _ cap rfl (by omega) (by
        have hro : RdS w (.slice (some ⟨b, 0, none⟩) n cap) n cs := .inr ⟨b, 0, cap, cs ++ sp, e, (0, 0), rfl, heapOf_succ (s1 (b + 1) _ hmb), by simp, by simp⟩
        exact hro.first hcl)
/-- append(x, y...). -/
theorem SXR.append {vs vy : Value} {n m sz bytes : Nat} {cs ys zs : List Value} {R : List HP} [hu : Und P t (.slice e)] [hu2 : Und P t2 (.slice e2)] [hsz : SizeT P e sz] [hb : BytesT P e bytes] [hz : ZeroT P e zs]
    (hx : ev2 env x y = some (vs, vy)) (hp : L.Perm (vec vs n sz e cs :: R)) (hzl : zs.length = sz) (hy : ∀ w, Sat w L → RdS w vy m ys) (hyl : ys.length = m * sz) (hy1 : ∀ y ∈ ys, y.oneCell' = true) (hsize : (n + m) * bytes ≤ 1099511627776) (hn : n + m ≤ 1099511627776)
    (k : ∀ v', SXR P ro N ds lops Q rest ((d, v') :: env) (vec v' (n + m) sz e (cs ++ ys) :: R)) :
    SXR P ro N ds lops Q (⟨some d, .call ⟨.builtin .append, [x, y].toArray, [t, t2].toArray⟩, tt, p, af, none⟩ :: rest) env L :=
  SXR.step rfl (fun _ => by cases ro <;> rfl) fun a w ha hw => by
    obtain ⟨h1, h2⟩ := ev2_some hx
    obtain ⟨w', v', r1, r2⟩ := run_append (P := P) (t := t) (t2 := t2) (tt := tt) (e := e) (e2 := e2) hzl (hw.perm hp) (hy w hw) hyl hy1 hsize hn
    refine ⟨w', v', _, .inl ?_, r2, k v'⟩
    simp [execOp, resolve, invoke, builtin, ha.ev h1, ha.ev h2, r1]
end
end Go.Sl
