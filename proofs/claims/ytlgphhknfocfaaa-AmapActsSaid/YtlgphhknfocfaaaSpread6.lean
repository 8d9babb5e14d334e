import Derived.Test.YtlgphhknfocfaaaSpread5
namespace Go.Proofs.Ytlgphhknfocfaaa
open Go.Sl

/-- The cells of slices' heads. -/
def catL (V : List (Value × List Rn)) : List Rn := V.flatMap (·.2)
theorem catL_succ {V : List (Value × List Rn)} {i : Nat} {x : Value × List Rn} (h : V[i]? = some x) : catL (V.take (i + 1)) = catL (V.take i) ++ x.2 := by
  have : V.take (i + 1) = V.take i ++ [x] := by rw [List.take_add_one, h]; rfl
  rw [this]; simp [catL]
theorem catL_le {V : List (Value × List Rn)} (i : Nat) : (catL (V.take i)).length ≤ (catL V).length := by
  have e : catL V = catL (V.take i) ++ catL (V.drop i) := by rw [catL, catL, catL, ← List.flatMap_append, List.take_append_drop]
  rw [e]; simp
theorem rc_append (a b : List Rn) : rc (a ++ b) = rc a ++ rc b := by simp [rc]
theorem runConcat_spec0 (b : Nat) (V : List (Value × List Rn)) (L0 : List HP) (hr : ∀ x ∈ V, ∀ L w, Sat w (L0 ++ L) → RdS w x.1 x.2.length (rc x.2)) (hV : V.length ≤ 1000000) (hT : (catL V).length ≤ 1000000) :
    Tri Try.prog 56 [.slice (some ⟨b, 0, none⟩) V.length V.length] [pts b (.cells (V.map (·.1)).toArray 73 (0, 0)), big L0] (fun u L' => L' = [vec u (catL V).length 3 76 (rc (catL V)), big L0]) := by
  have hr' : ∀ x ∈ V, ∀ L R w, [Pick (big L0) L R] → Sat w L → RdS w x.1 x.2.length (rc x.2) := fun x hx L R w hp hw => hr x hx R w (big_flat (hw.perm hp.perm))
  refine tri_intro Try.func56 rfl Try.results56 Try.ntmps56 rfl (by kernel_rfl) fun R => ?_
  repeat (refine go rfl ?_)
  refine SXC.loop (fun i : Nat => i ≤ V.length) (fun i => [(9, .slice (some ⟨b, 0, none⟩) V.length V.length), (0, .slice (some ⟨b, 0, none⟩) V.length V.length), (10, .int .i64 V.length), (11, .int .i64 i), (3, .int .i64 (catL (V.take i)).length)])
    (fun _ => [pts b (.cells (V.map (·.1)).toArray 73 (0, 0)), big L0]) (fun i => V.length - i) 0 (Nat.zero_le _) ⟨rfl, rfl, rfl, rfl, rfl, trivial⟩ ?_
  intro i hi'
  repeat (refine go rfl ?_)
  refine SXB.split (fun hlt => ?_) (fun hge => ?_)
  · have hil : i < V.length := by omega
    obtain ⟨x, hx⟩ : ∃ x, V[i]? = some x := ⟨V[i], List.getElem?_eq_getElem hil⟩
    have hs := catL_succ hx
    have hle := catL_le (V := V) (i + 1)
    have hle2 := catL_le (V := V) i
    rw [hs, List.length_append] at hle
    repeat (refine go rfl ?_)
    refine SXR.index i rfl (by omega) (by omega) (by omega) ?_
    repeat (refine go rfl ?_)
    refine SXL.row (v := x.1) (by simp [hx]) ?_
    repeat (refine go rfl ?_)
    refine SXR.lenRd (n := x.2.length) (cs := rc x.2) rfl (fun w hw => hr' x (List.mem_of_getElem? hx) _ _ w hw) ?_
    repeat (refine go rfl ?_)
    rw [show IntKind.i64.wrap (((catL (V.take i)).length : Int) + (x.2.length : Int)) = ((catL (V.take (i + 1))).length : Int) by rw [IntWalk.i64_in _ ⟨by omega, by omega⟩, hs]; simp]
    refine SXB.split (fun hc => by omega) (fun _ => ?_)
    repeat (refine go rfl ?_)
    exact fin_round (i + 1) (by omega) (by omega) ⟨rfl, rfl, rfl, by rw [wrap_succ (by omega)], rfl, trivial⟩
  · obtain rfl : i = V.length := by omega
    rw [List.take_length]
    repeat (refine go rfl ?_)
    refine SXR.call (runGrow_spec (catL V).length (by omega) (by omega)) rfl ?_
    rintro u L' rfl
    dsimp only [List.cons_append, List.nil_append]
    repeat (refine go rfl ?_)
    rw [show vec u 0 3 76 [] = vec (0, u).2 (catL (V.take (0, u).1)).length 3 76 (rc (catL (V.take (0, u).1))) from rfl]
    refine SXC.loop (fun x : Nat × Value => x.1 ≤ V.length) (fun x => [(25, .slice (some ⟨b, 0, none⟩) V.length V.length), (26, .int .i64 V.length), (27, .int .i64 x.1), (6, x.2)])
      (fun x => [vec x.2 (catL (V.take x.1)).length 3 76 (rc (catL (V.take x.1))), pts b (.cells (V.map (·.1)).toArray 73 (0, 0)), big L0]) (fun x => V.length - x.1) (0, u) (Nat.zero_le _) ⟨rfl, rfl, rfl, rfl, trivial⟩ ?_
    rintro ⟨i, u⟩ hi'
    dsimp only at hi' ⊢
    repeat (refine go rfl ?_)
    refine SXB.split (fun hlt => ?_) (fun hge => ?_)
    · have hil : i < V.length := by omega
      obtain ⟨x, hx⟩ : ∃ x, V[i]? = some x := ⟨V[i], List.getElem?_eq_getElem hil⟩
      have hs := catL_succ hx
      have hle := catL_le (V := V) (i + 1)
      rw [hs, List.length_append] at hle
      repeat (refine go rfl ?_)
      refine SXR.index i rfl (by omega) (by omega) (by omega) ?_
      repeat (refine go rfl ?_)
      refine SXL.row (v := x.1) (by simp [hx]) ?_
      repeat (refine go rfl ?_)
      refine SXR.append (n := (catL (V.take i)).length) (m := x.2.length) (sz := 3) (e := 76) (ys := rc x.2) rfl (.refl _) rfl (fun w hw => hr' x (List.mem_of_getElem? hx) _ _ w hw) (by rw [rc_length]) one_rc (by omega) (by omega) fun v' => ?_
      rw [← List.length_append, ← rc_append, ← hs]
      repeat (refine go rfl ?_)
      exact fin_round (i + 1, v') (by dsimp only; omega) (by dsimp only; omega) ⟨rfl, rfl, by rw [wrap_succ (by omega)], rfl, trivial⟩
    · obtain rfl : i = V.length := by omega
      rw [List.take_length]
      repeat (refine go rfl ?_)
      exact fin_ret (.tmp rfl .nil) rfl
theorem runConcat_spec (b : Nat) (V : List (Value × List Rn)) (L0 : List HP) (hr : ∀ x ∈ V, ∀ L w, Sat w (L0 ++ L) → RdS w x.1 x.2.length (rc x.2)) (hV : V.length ≤ 1000000) (hT : (catL V).length ≤ 1000000) :
    Tri Try.prog 56 [.slice (some ⟨b, 0, none⟩) V.length V.length] (pts b (.cells (V.map (·.1)).toArray 73 (0, 0)) :: L0) (fun u L' => L' = vec u (catL V).length 3 76 (rc (catL V)) :: L0) :=
  (runConcat_spec0 b V L0 hr hV hT).mono (fun m h => big_map (fun m h => big_pack (L2 := []) (by rw [List.append_nil]; exact h)) m h) (fun v L' m h hm => ⟨_, rfl, by subst h; exact big_map (fun m h => by have := big_flat h; rwa [List.append_nil] at this) m hm⟩)
end Go.Proofs.Ytlgphhknfocfaaa
