import Derived.Test.YtlgphhknfocfaaaSlSlice
import Derived.IntWalk
namespace Go.Sl
section
variable {P : Program} {ro : Option Nat} {N : Nat} {ds : List Deferred} {lops : List Oper} {Q : Exit → Act → World → Prop} {rest : List Oper} {env env' : Env} {L R R0 : List HP}
variable {x y c ix : Operand} {d : Tmp} {t t2 tt s e e2 : TypeId} {p : String} {af : Array Edge}

/-! ### vec: open, shut -/
theorem big_or {A B C : HP} {L : List HP} {m : PH} (h : ∀ m, A m → B m ∨ C m) (hm : big (A :: L) m) : big (B :: L) m ∨ big (C :: L) m := by
  obtain ⟨m1, m2, h1, h2, hd, hA, hL⟩ := hm
  rcases h m1 hA with hB | hC
  · exact .inl ⟨m1, m2, h1, h2, hd, hB, hL⟩
  · exact .inr ⟨m1, m2, h1, h2, hd, hC, hL⟩
theorem big_ex {X : Type} {A : HP} {B : X → HP} {L : List HP} {m : PH} (h : ∀ m, A m → ∃ x, B x m) (hm : big (A :: L) m) : ∃ x, big (B x :: L) m := by
  obtain ⟨m1, m2, h1, h2, hd, hA, hL⟩ := hm
  obtain ⟨x, hx⟩ := h m1 hA
  exact ⟨x, m1, m2, h1, h2, hd, hx, hL⟩
theorem big_fact {A : HP} {p : Prop} {L : List HP} {m : PH} (h : ∀ m, A m → p) (hm : big (A :: L) m) : p := by
  obtain ⟨m1, m2, h1, h2, hd, hA, hL⟩ := hm
  exact h m1 hA
theorem vec_cases {v : Value} {n sz : Nat} {T : TypeId} {cs : List Value} {L : List HP} {m : PH} (h : big (vec v n sz T cs :: L) m) : cs.length = n * sz ∧ ((v = .slice none 0 0 ∧ n = 0 ∧ cs = [] ∧ big L m) ∨
    ∃ b cap sp, v = .slice (some ⟨b, 0, none⟩) n cap ∧ n ≤ cap ∧ sp.length = (cap - n) * sz ∧ big (pts b (.cells (cs ++ sp).toArray T (0, 0)) :: L) m) := by
  obtain ⟨m1, m2, h1, h2, hd, ⟨hl, hA⟩, hL⟩ := h
  refine ⟨hl, ?_⟩
  rcases hA with ⟨rfl, rfl⟩ | ⟨b, cap, sp, q1, q2, q3, q4⟩
  · exact .inl ⟨rfl, rfl, by simpa using hl, big_mono h2 hL⟩
  · exact .inr ⟨b, cap, sp, q1, q2, q3, m1, m2, h1, h2, hd, q4, hL⟩
theorem vec_shut {b n cap sz : Nat} {T : TypeId} {cs sp : List Value} (hl : cs.length = n * sz) (hc : n ≤ cap) (hs : sp.length = (cap - n) * sz) : ∀ m, pts b (.cells (cs ++ sp).toArray T (0, 0)) m → vec (.slice (some ⟨b, 0, none⟩) n cap) n sz T cs m :=
  fun _ h => ⟨hl, .inr ⟨b, cap, sp, rfl, hc, hs, h⟩⟩
theorem vec_nil {T : TypeId} {sz : Nat} : ∀ m, vec (.slice none 0 0) 0 sz T [] m := fun _ => ⟨by simp, .inl ⟨rfl, rfl⟩⟩
theorem big_add {A : HP} {L : List HP} (h : ∀ m, A m) : ∀ m, big L m → big (A :: L) m := fun m hL => ⟨fun _ => none, m, (fun _ _ h => by cases h), .refl _, (fun _ => .inl rfl), h _, hL⟩
theorem SXR.facts {p : Prop} {A : HP} (h : ∀ m, A m → p) (k : p → SXR P ro N ds lops Q rest env (A :: L)) : SXR P ro N ds lops Q rest env (A :: L) := ⟨fun hb a w ha hw => (k (big_fact h hw)).h hb a w ha hw⟩
theorem SXC.facts {c : Code} {p : Prop} {A : HP} (h : ∀ m, A m → p) (k : p → SXC P ro N ds c Q env (A :: L)) : SXC P ro N ds c Q env (A :: L) := ⟨fun hb a w ha hw => (k (big_fact h hw)).h hb a w ha hw⟩
theorem SXC.vec {cc : Code} {v : Value} {n sz : Nat} {T : TypeId} {cs : List Value} [hp : Pick (vec v n sz T cs) L R] (k0 : v = .slice none 0 0 → n = 0 → cs = [] → SXC P ro N ds cc Q env R)
    (k1 : ∀ b cap sp, v = .slice (some ⟨b, 0, none⟩) n cap → n ≤ cap → sp.length = (cap - n) * sz → cs.length = n * sz → SXC P ro N ds cc Q env (pts b (.cells (cs ++ sp).toArray T (0, 0)) :: R)) : SXC P ro N ds cc Q env L :=
  ⟨fun hb a w ha hw => by
    obtain ⟨hl, h⟩ := vec_cases (hw.perm hp.perm)
    rcases h with ⟨h1, h2, h3, h4⟩ | ⟨b, cap, sp, h1, h2, h3, h4⟩
    · exact (k0 h1 h2 h3).h hb a w ha h4
    · exact (k1 b cap sp h1 h2 h3 hl).h hb a w ha h4⟩
theorem SXR.vec {v : Value} {n sz : Nat} {T : TypeId} {cs : List Value} [hp : Pick (Sl.vec v n sz T cs) L R] (k0 : v = .slice none 0 0 → n = 0 → cs = [] → SXR P ro N ds lops Q rest env R)
    (k1 : ∀ b cap sp, v = .slice (some ⟨b, 0, none⟩) n cap → n ≤ cap → sp.length = (cap - n) * sz → cs.length = n * sz → SXR P ro N ds lops Q rest env (pts b (.cells (cs ++ sp).toArray T (0, 0)) :: R)) : SXR P ro N ds lops Q rest env L :=
  ⟨fun hb a w ha hw => by
    obtain ⟨hl, h⟩ := vec_cases (hw.perm hp.perm)
    rcases h with ⟨h1, h2, h3, h4⟩ | ⟨b, cap, sp, h1, h2, h3, h4⟩
    · exact (k0 h1 h2 h3).h hb a w ha h4
    · exact (k1 b cap sp h1 h2 h3 hl).h hb a w ha h4⟩
/-- What a vec is read as. -/
theorem RdS.of_vec {w : World} {v : Value} {n sz : Nat} {T : TypeId} {cs : List Value} [hp : Pick (Sl.vec v n sz T cs) L R] (hw : Sat w L) : RdS w v n cs := by
  obtain ⟨hl, h⟩ := vec_cases (hw.perm hp.perm)
  rcases h with ⟨h1, h2, h3, h4⟩ | ⟨b, cap, sp, h1, h2, h3, h4⟩
  · exact .inl ⟨h1, h2, h3⟩
  · exact .inr ⟨b, 0, cap, cs ++ sp, T, (0, 0), h1, Sat.pts h4, by simp, by simp⟩
theorem RdS.of_pts {w : World} {b n cap off : Nat} {T : TypeId} {fr : Nat × Nat} {vs cs : List Value} [hp : FindB b L (.cells vs.toArray T fr) R] (hle : off + cs.length ≤ vs.length) (hc : (vs.drop off).take cs.length = cs) (hw : Sat w L) : RdS w (.slice (some ⟨b, off, none⟩) n cap) n cs :=
  .inr ⟨b, off, cap, vs, T, fr, rfl, Sat.find (h := hp) hw, hle, hc⟩

/-! ### make -/
def zerosL (zs : List Value) (n : Nat) : List Value := (List.range (n * zs.length)).map fun i => zs.getD (i % zs.length) undef
theorem zerosL_length (zs : List Value) (n : Nat) : (zerosL zs n).length = n * zs.length := by simp [zerosL]
theorem zerosL_one (z : Value) (n : Nat) : zerosL [z] n = List.replicate n z := by
  unfold zerosL
  apply List.ext_getElem?
  intro i
  by_cases h : i < n
  · simp [h, Nat.mod_one]
  · simp [h]
theorem SXR.make {zs : List Value} {sz bytes : Nat} {n cap : Int} [hu : Und P t (.slice e)] [hsz : SizeT P e sz] [hb : BytesT P e bytes] [hz : ZeroT P e zs] (hx : ev2 env x y = some (.int .i64 n, .int .i64 cap)) (hzl : zs.length = sz) (hzp : 0 < sz)
    (h0 : 0 ≤ n) (h1 : n ≤ cap) (h2 : bytes * cap ≤ 281474976710656) (hc : cap ≤ 281474976710656) (k : ∀ b, SXR P ro N ds lops Q rest ((d, .slice (some ⟨b, 0, none⟩) n.toNat cap.toNat) :: env) (pts b (.cells (zerosL zs cap.toNat).toArray e (0, 0)) :: L)) :
    SXR P ro N ds lops Q (⟨some d, .makeSlice t x y, tt, p, af, none⟩ :: rest) env L :=
  SXR.step rfl (fun _ => by cases ro <;> rfl) fun a w ha hw => by
    obtain ⟨e1, e2⟩ := ev2_some hx
    obtain ⟨i, hi, hbi⟩ := hb.info
    obtain ⟨z, hz1, hz2⟩ := hz.zero
    have hwn : IntKind.i64.wrap n = n := IntWalk.i64_in _ ⟨by omega, by omega⟩
    have hwc : IntKind.i64.wrap cap = cap := IntWalk.i64_in _ ⟨by omega, by omega⟩
    refine ⟨w.alloc (.cells (zerosL zs cap.toNat).toArray e (0, 0)), .slice (some ⟨w.heap.size, 0, none⟩) n.toNat cap.toNat, _, .inl ?_, hw.new (o := .cells (zerosL zs cap.toNat).toArray e (0, 0)) rfl, k w.heap.size⟩
    have hg : ¬ ((decide (cap < 0) || decide ((i.bytes : Int) * cap > 2 ^ 48)) = true) := by
      rw [hbi]
      simp only [Bool.or_eq_true, decide_eq_true_eq]
      omega
    simp only [execOp, Instr.makeSlice, ha.ev e1, ha.ev e2, Sem.run_bind, run_underlying hu.eq, Result.andThen_ok, asInt, asIntOf, Sem.run_pure, hi, hwn, hwc]
    rw [if_neg (by simp only [Bool.or_eq_true, decide_eq_true_eq] at hg ⊢; omega)]
    simp only [Sem.run_bind, run_askRoom, Result.andThen_ok, hsz.size, Sem.run_ite]
    have key : ∀ zero : Array Value, (cap.toNat * sz = 0 ∨ zero = zs.toArray) → Array.map (fun x => zero[x % zero.size]!) (Array.range (cap.toNat * sz)) = (zerosL zs cap.toNat).toArray := by
      intro zero hz
      apply Array.ext'
      simp only [zerosL, hzl, Array.toList_map, Array.toList_range]
      rcases hz with h | rfl
      · simp [h]
      · apply List.map_congr_left
        intro x _
        have : x % zs.length < zs.length := Nat.mod_lt _ (by omega)
        simp [hzl, List.getD, List.getElem?_eq_getElem (show x % sz < zs.length by rw [← hzl]; exact this)]
    split
    · rename_i h0
      simp only [Sem.run_bind, Sem.run_pure, Result.andThen_ok, key #[] (.inl h0)]
      simp [newRow]
    · simp only [Sem.run_bind, Sem.run_pure, Result.andThen_ok, hz1, hz2, key zs.toArray (.inr rfl)]
      simp [newRow]
end
end Go.Sl
