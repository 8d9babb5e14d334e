import Derived.Test.YtlgphhknfocfaaaSlOld
namespace Go.Sl
section
variable {P : Program} {ro : Option Nat} {N : Nat} {ds : List Deferred} {lops : List Oper} {Q : Exit → Act → World → Prop} {rest : List Oper} {env env' : Env} {L R R0 : List HP} {cc : Code} {e : Exit} {A : HP} {cs : List HP}

theorem big_picks {cs : List HP} [hp : Picks cs L R] {m : PH} (h : big L m) : big (big cs :: R) m := big_pack (big_perm hp.perm h)
theorem big_shut [hp : Picks cs L R] (h : ∀ m, big cs m → A m) : ∀ m, big L m → big (A :: R) m := fun _ hm => big_head h _ (big_picks (hp := hp) hm)
theorem SXC.shut (A : HP) [hp : Picks cs L R] (h : ∀ m, big cs m → A m) (k : SXC P ro N ds cc Q env (A :: R)) : SXC P ro N ds cc Q env L := SXC.ent (big_shut h) k
theorem SXR.shut (A : HP) [hp : Picks cs L R] (h : ∀ m, big cs m → A m) (k : SXR P ro N ds lops Q rest env (A :: R)) : SXR P ro N ds lops Q rest env L := SXR.ent (big_shut h) k
theorem Fin.shut (A : HP) [hp : Picks cs L R] (h : ∀ m, big cs m → A m) (k : Fin N ds Q e env (A :: R)) : Fin N ds Q e env L := Fin.ent (big_shut h) k
theorem big_shut1 {B : HP} [hp : Pick B L R] (h : ∀ m, B m → A m) : ∀ m, big L m → big (A :: R) m := fun _ hm => big_head h _ (big_perm hp.perm hm)
theorem SXC.shut1 (A B : HP) [hp : Pick B L R] (h : ∀ m, B m → A m) (k : SXC P ro N ds cc Q env (A :: R)) : SXC P ro N ds cc Q env L := SXC.ent (big_shut1 (B := B) h) k
theorem SXR.shut1 (A B : HP) [hp : Pick B L R] (h : ∀ m, B m → A m) (k : SXR P ro N ds lops Q rest env (A :: R)) : SXR P ro N ds lops Q rest env L := SXR.ent (big_shut1 (B := B) h) k
theorem Fin.shut1 (A B : HP) [hp : Pick B L R] (h : ∀ m, B m → A m) (k : Fin N ds Q e env (A :: R)) : Fin N ds Q e env L := Fin.ent (big_shut1 (B := B) h) k
theorem big_shutB {b : Nat} {o : Obj} [hp : FindB b L o R] (h : ∀ m, pts b o m → A m) : ∀ m, big L m → big (A :: R) m := fun _ hm => big_head h _ (big_perm hp.perm hm)
theorem SXC.shutB (A : HP) (b : Nat) {o : Obj} [hp : FindB b L o R] (h : ∀ m, pts b o m → A m) (k : SXC P ro N ds cc Q env (A :: R)) : SXC P ro N ds cc Q env L := SXC.ent (big_shutB (hp := hp) h) k
theorem SXR.shutB (A : HP) (b : Nat) {o : Obj} [hp : FindB b L o R] (h : ∀ m, pts b o m → A m) (k : SXR P ro N ds lops Q rest env (A :: R)) : SXR P ro N ds lops Q rest env L := SXR.ent (big_shutB (hp := hp) h) k
theorem Fin.shutB (A : HP) (b : Nat) {o : Obj} [hp : FindB b L o R] (h : ∀ m, pts b o m → A m) (k : Fin N ds Q e env (A :: R)) : Fin N ds Q e env L := Fin.ent (big_shutB (hp := hp) h) k
theorem big_open {X : Type} {cs : X → List HP} {p : X → Prop} [hp : Pick A L R] {F : X → List HP} [hA : ∀ x, App (cs x) R (F x)] (h : ∀ m, A m → ∃ x, p x ∧ big (cs x) m) {m : PH} (hm : big L m) : ∃ x, p x ∧ big (F x) m := by
  obtain ⟨m1, m2, h1, h2, hd, hAm, hR⟩ := big_perm hp.perm hm
  obtain ⟨x, hx, hc⟩ := h m1 hAm
  refine ⟨x, hx, ?_⟩
  rw [← (hA x).eq]
  exact big_flat ⟨m1, m2, h1, h2, hd, hc, hR⟩
theorem SXC.open {X : Type} {cs : X → List HP} {p : X → Prop} (A : HP) [hp : Pick A L R] {F : X → List HP} [hA : ∀ x, App (cs x) R (F x)] (h : ∀ m, A m → ∃ x, p x ∧ big (cs x) m) (k : ∀ x, p x → SXC P ro N ds cc Q env (F x)) : SXC P ro N ds cc Q env L :=
  ⟨fun hb a w ha hw => let ⟨x, hx, hc⟩ := big_open (hp := hp) (hA := hA) h hw; (k x hx).h hb a w ha hc⟩
theorem SXR.open {X : Type} {cs : X → List HP} {p : X → Prop} (A : HP) [hp : Pick A L R] {F : X → List HP} [hA : ∀ x, App (cs x) R (F x)] (h : ∀ m, A m → ∃ x, p x ∧ big (cs x) m) (k : ∀ x, p x → SXR P ro N ds lops Q rest env (F x)) : SXR P ro N ds lops Q rest env L :=
  ⟨fun hb a w ha hw => let ⟨x, hx, hc⟩ := big_open (hp := hp) (hA := hA) h hw; (k x hx).h hb a w ha hc⟩
theorem Fin.open {X : Type} {cs : X → List HP} {p : X → Prop} (A : HP) [hp : Pick A L R] {F : X → List HP} [hA : ∀ x, App (cs x) R (F x)] (h : ∀ m, A m → ∃ x, p x ∧ big (cs x) m) (k : ∀ x, p x → Fin N ds Q e env (F x)) : Fin N ds Q e env L :=
  ⟨fun a w ha hw => let ⟨x, hx, hc⟩ := big_open (hp := hp) (hA := hA) h hw; (k x hx).h a w ha hc⟩
theorem Fin.false [hp : Pick (fun _ => False) L R] : Fin N ds Q e env L := ⟨fun a w ha hw => ((big_fact (p := False) (fun _ h => h) (hw.perm hp.perm))).elim⟩
theorem vec_lit {b n sz : Nat} {T : TypeId} {cs : List Value} (hl : cs.length = n * sz) : ∀ m, pts b (.cells cs.toArray T (0, 0)) m → vec (.slice (some ⟨b, 0, none⟩) n n) n sz T cs m :=
  fun m h => vec_shut (sp := []) hl (Nat.le_refl n) (by simp) m (by rw [List.append_nil]; exact h)
theorem vec_zero {b sz : Nat} {T : TypeId} {zs : List Value} : ∀ m, pts b (.cells (zerosL zs 0).toArray T (0, 0)) m → vec (.slice (some ⟨b, 0, none⟩) 0 0) 0 sz T [] m :=
  fun m h => vec_lit (cs := []) (by simp) m (by simpa [zerosL] using h)
/-- A loop that is left in its first round. -/
theorem SXC.once {c : Code} (k : SXC P ro N ds c (Exit.then (fun _ _ => False) Q) env L) : SXC P ro N ds (.loop c) Q env L :=
  ⟨fun hb a w ha hw => wpIn_loop_once (k.h hb a w ha hw)⟩
variable {id : Nat}
instance : Go (Fin N ds (Exit.then (fun _ _ => False) Q) .ret env L) Unit Unit Unit (fun a b c => ((), (), ()) = (a, b, c)) (fun _ _ _ => Fin N ds Q .ret env L) := ⟨fun _ _ _ _ k => ⟨k.h⟩⟩
instance : Go (Fin N ds (Exit.then (fun _ _ => False) Q) (.exit id) env L) Unit Unit Unit (fun a b c => ((), (), ()) = (a, b, c)) (fun _ _ _ => Fin N ds Q (.exit id) env L) := ⟨fun _ _ _ _ k => ⟨k.h⟩⟩
theorem SXL.aggAt {d : Tmp} {t : TypeId} {b off n : Nat} {vs cs : List Value} {T : TypeId} {fr : Nat × Nat} [ht : AggT P t n] [hf : FindB b L (.cells vs.toArray T fr) R] (hcs : (vs.drop off).take n = cs) (hn : off + n ≤ vs.length)
    (k : SXR P ro N ds lops Q rest ((d, .agg cs.toArray) :: env) L) : SXL P ro N ds lops Q t b off d rest env L := by
  subst hcs
  exact SXL.agg (fun w hw => Sat.find (h := hf) hw) hn k
theorem SubL.refl_of {l : Env} (h : ∀ k v, (k, v) ∈ l → lk l k = some v) : SubL l l := by
  have : ∀ r : Env, (∀ k v, (k, v) ∈ r → lk l k = some v) → SubL l r := by
    intro r
    induction r with
    | nil => intro _; trivial
    | cons x r ih => intro h; exact ⟨h x.1 x.2 (by simp), ih fun k v hh => h k v (by simp [hh])⟩
  exact this l h
/-- A contract under a stronger precondition, or a weaker postcondition. -/
theorem Tri.mono {f : FuncId} {args : List Value} {pre pre' : List HP} {Post Post' : Value → List HP → Prop} (h : Tri P f args pre Post) (hpre : ∀ m, big pre' m → big pre m) (hpost : ∀ v L' m, Post v L' → big L' m → ∃ L'', Post' v L'' ∧ big L'' m) : Tri P f args pre' Post' :=
  ⟨fun w R hw => by
    have h1 : Sat w (pre ++ R) := big_flat (big_head hpre _ (big_pack hw))
    intro cs
    obtain ⟨e, w', fr, ⟨v, L', hP, he, hS⟩, r⟩ := h.h w R h1 cs
    obtain ⟨m1, m2, s1, s2, hd, hA, hR⟩ := big_pack hS
    obtain ⟨L'', h2, h3⟩ := hpost v L' m1 hP hA
    exact ⟨e, w', fr, ⟨v, L'', h2, he, big_flat ⟨m1, m2, s1, s2, hd, h3, hR⟩⟩, r⟩⟩
theorem YTri.mono {l : Nat} {args : List Value} {pre pre' : List HP} {Post Post' : Value → List HP → Prop} (h : YTri P l args pre Post) (hpre : ∀ m, big pre' m → big pre m) (hpost : ∀ v L' m, Post v L' → big L' m → ∃ L'', Post' v L'' ∧ big L'' m) : YTri P l args pre' Post' :=
  ⟨fun w R hw => by
    have h1 : Sat w (pre ++ R) := big_flat (big_head hpre _ (big_pack hw))
    obtain ⟨r, a, b, c⟩ := h.h w R h1
    refine ⟨r, a, b, c.mono ?_⟩
    rintro e w' ⟨v, L', hP, he, hS⟩
    obtain ⟨m1, m2, s1, s2, hd, hA, hR⟩ := big_pack hS
    obtain ⟨L'', h2, h3⟩ := hpost v L' m1 hP hA
    exact ⟨v, L'', h2, he, big_flat ⟨m1, m2, s1, s2, hd, h3, hR⟩⟩⟩
theorem YTri.absurd {l : Nat} {args : List Value} {pre : List HP} {Post : Value → List HP → Prop} (h : ∀ m, ¬ big pre m) : YTri P l args pre Post := ⟨fun _ _ hw => (h _ (big_left hw)).elim⟩
theorem Tri.facts {f : FuncId} {args : List Value} {pre : List HP} {Post : Value → List HP → Prop} {p : Prop} (hp : ∀ m, big pre m → p) (h : p → Tri P f args pre Post) : Tri P f args pre Post :=
  ⟨fun w R hw => (h (hp _ (big_left hw))).h w R hw⟩
end
end Go.Sl
