import Derived.Test.YtlgphhknfocfaaaAmap10
namespace Go.Proofs.Ytlgphhknfocfaaa
open Go.Sl

theorem one_ints {l : List Int} : ∀ y ∈ l.map intC, y.oneCell' = true := by
  intro y hy
  obtain ⟨x, _, rfl⟩ := List.mem_map.1 hy
  rfl
/-- slices.Clone at []int. -/
theorem intClone_spec (v : Value) (l : List Int) (hlen : l.length ≤ 1000000) : Tri Try.prog 52 [v] [vec v l.length 1 3 (l.map intC)] (fun u L' => L' = [vec v l.length 1 3 (l.map intC), vec u l.length 1 3 (l.map intC)]) := by
  refine tri_intro Try.func52 rfl Try.results52 Try.ntmps52 rfl (by kernel_rfl) fun R => ?_
  refine SXC.vec (v := v) (n := l.length) (sz := 1) (T := 3) (cs := l.map intC) ?_ ?_
  · rintro rfl hn hl
    obtain rfl : l = [] := List.length_eq_zero_iff.1 hn
    repeat (refine go rfl ?_)
    refine Fin.ent (big_add (A := vec (.slice none 0 0) 0 1 3 []) vec_nil) (Fin.ent (big_add (A := vec (.slice none 0 0) 0 1 3 []) vec_nil) ?_)
    exact fin_ret (L' := [vec (.slice none 0 0) 0 1 3 [], vec (.slice none 0 0) 0 1 3 []]) (.tmp rfl .nil) rfl
  · rintro b cap sp rfl hcap hsp hl
    repeat (first | refine go rfl ?_ | intro b2)
    refine SXR.shutB _ b2 (vec_lit (n := 0) (sz := 1) (T := 3) (cs := []) rfl) ?_
    refine SXR.append (n := 0) (m := l.length) (sz := 1) (e := 3) (ys := l.map intC) rfl (.refl _) rfl (fun w hw => ?_) (by simp) one_ints (by omega) (by omega) fun v' => ?_
    · exact RdS.of_pts (off := 0) (vs := l.map intC ++ sp) (by simp) (by simp) hw
    repeat (refine go rfl ?_)
    refine Fin.shutB _ b (vec_shut (T := 3) hl hcap hsp) ?_
    refine fin_ret (L' := [vec (.slice (some ⟨b, 0, none⟩) l.length cap) l.length 1 3 (l.map intC), vec v' (0 + l.length) 1 3 ([] ++ l.map intC)]) (.tmp rfl .nil) ?_
    simp
def usedN (a : List Int) (i : Nat) : List (Int × Int) := (List.range i).filterMap fun k : Nat => if 0 < gf a k then some ((k : Int), gf a k) else none
theorem usedN_succ (a : List Int) (i : Nat) : usedN a (i + 1) = usedN a i ++ (if 0 < gf a i then [((i : Int), gf a i)] else []) := by
  unfold usedN
  rw [List.range_succ, List.filterMap_append]
  congr 1
  simp only [List.filterMap_cons, List.filterMap_nil]
  split <;> simp_all
theorem usedN_len (a : List Int) (i : Nat) : (usedN a i).length ≤ i := by
  unfold usedN
  refine Nat.le_trans (List.length_filterMap_le _ _) ?_
  simp
theorem usedN_get {a : List Int} {i n : Nat} (hi : i < n) (h : 0 < gf a i) : (usedN a n)[(usedN a i).length]? = some ((i : Int), gf a i) := by
  obtain ⟨m, rfl⟩ : ∃ m, n = i + 1 + m := ⟨n - (i + 1), by omega⟩
  have e : usedN a (i + 1 + m) = usedN a (i + 1) ++ (((List.range m).map fun x => i + 1 + x).filterMap fun k : Nat => if 0 < gf a k then some ((k : Int), gf a k) else none) := by
    unfold usedN
    rw [List.range_add, List.filterMap_append]
  rw [e, usedN_succ, if_pos h]
  simp
def Pl.used (p : Pl) (id : Int) : List (Int × Int) := match p.get id with
  | some a => usedN a.a a.a.length
  | none => []
theorem used_spec (bp : Nat) (id : Int) : Tri Try.prog 43 [.pointer (some ⟨bp, 0, none⟩), .int .i64 id] [] (fun u l => ∃ b1 b2, u = .func (.func 51) #[] [.pointer (some ⟨b1, 0, none⟩), .pointer (some ⟨b2, 0, none⟩)].toArray ∧
    l = [pts b1 (.cells [.pointer (some ⟨bp, 0, none⟩)].toArray 24 (0, 0)), pts b2 (.cells [.int .i64 id].toArray 3 (0, 0))]) := by
  refine tri_intro Try.func43 rfl Try.results43 Try.ntmps43 rfl (by kernel_rfl) fun R => ?_
  repeat (first | refine go rfl ?_ | intro _)
  rename_i b1 b2
  exact fin_ret (.tmp rfl .nil) ⟨b1, b2, rfl, rfl⟩
set_option maxRecDepth 4000 in
theorem used1_spec (l bp b1 b2 : Nat) (p : Pl) (bs : List (Option Nat)) (id : Int) (J : Nat → HP) (Jx : HP)
    (hy : ∀ k q, (p.used id)[k]? = some q → YTri Try.prog l [.int .i64 q.1, .int .i64 q.2] [J k] (fun v L' => (v = .bool true ∧ L' = [J (k + 1)]) ∨ (v = .bool false ∧ L' = [Jx]))) :
    Tri Try.prog 51 [.func (.yield l) #[] #[], .pointer (some ⟨b1, 0, none⟩), .pointer (some ⟨b2, 0, none⟩)]
      [J 0, pts b1 (.cells [.pointer (some ⟨bp, 0, none⟩)].toArray 24 (0, 0)), pts b2 (.cells [.int .i64 id].toArray 3 (0, 0)), poolB bp p bs]
      (fun v L' => v = .tuple #[] ∧ (L' = [J (p.used id).length, poolB bp p bs] ∨ L' = [Jx, poolB bp p bs])) := by
  refine tri_intro Try.func51 rfl Try.results51 Try.ntmps51 rfl (by kernel_rfl) fun R => ?_
  repeat (refine go rfl ?_)
  refine SXR.callF (pof_spec bp p bs id) rfl ?_
  cases h : p.get id with
  | none =>
    refine SXR.facts (pool_none h) (fun hp => ?_)
    rw [hp]
    have hu : p.used id = [] := by simp [Pl.used, h]
    rw [hu]
    repeat (refine go rfl ?_)
    exact fin_ret .nil ⟨rfl, .inl rfl⟩
  | some a =>
    have hu : p.used id = usedN a.a a.a.length := by simp [Pl.used, h]
    rw [hu] at hy ⊢
    refine SXR.open (poolB bp p bs) (pool_open bp p bs id a h) ?_
    intro b hb
    rw [hb.2]
    refine SXR.open (oneH b a) (oneH_open b a) ?_
    rintro ⟨bc, v⟩ hok
    dsimp only
    have hal := hok.1
    have hal2 := hok.2.2.1
    repeat (refine go rfl ?_)
    refine SXR.call (intClone_spec v a.a (by omega)) rfl ?_
    rintro u L' rfl
    dsimp only [List.cons_append, List.nil_append]
    refine SXR.lenRd (n := a.a.length) (cs := a.a.map intC) rfl (fun w hw => RdS.of_vec (sz := 1) (T := 3) hw) ?_
    repeat (refine go rfl ?_)
    rw [show J 0 = J (usedN a.a 0).length from rfl]
    refine SXC.loop (fun i : Nat => i ≤ a.a.length) (fun i => [(0, .func (.yield l) #[] #[]), (16, u), (17, .int .i64 a.a.length), (18, .int .i64 i)])
      (fun i => [J (usedN a.a i).length, vec u a.a.length 1 3 (a.a.map intC)]) (fun i => a.a.length - i) 0 (Nat.zero_le _) ⟨rfl, rfl, rfl, rfl, trivial⟩ ?_
    intro i hi'
    repeat (refine go rfl ?_)
    refine SXB.split (fun hlt => ?_) (fun hge => ?_)
    · have hil : i < a.a.length := by omega
      have hs := usedN_succ a.a i
      refine SXC.vec (v := u) (n := a.a.length) (sz := 1) (T := 3) (cs := a.a.map intC) (fun _ h _ => absurd h (by omega)) ?_
      rintro bv cap sp rfl hcap hsp hl
      repeat (refine go rfl ?_)
      refine SXR.index i rfl (by omega) (by omega) (by omega) ?_
      repeat (refine go rfl ?_)
      refine SXL.row (ints_get sp hil) ?_
      repeat (refine go rfl ?_)
      refine SXG.split rfl (fun hc => ?_) (fun hc => ?_)
      · rw [if_pos hc] at hs
        repeat (refine go rfl ?_)
        refine SXR.yield (hy _ _ (usedN_get hil hc)) rfl rfl ?_
        rintro v' L' (⟨rfl, rfl⟩ | ⟨rfl, rfl⟩)
        · dsimp only [List.cons_append, List.nil_append]
          rw [show J ((usedN a.a i).length + 1) = J (usedN a.a (i + 1)).length by rw [hs]; simp]
          repeat (refine go rfl ?_)
          refine Fin.shutB _ bv (vec_shut (T := 3) hl hcap hsp) ?_
          exact fin_round (i + 1) (by omega) (by omega) ⟨rfl, rfl, rfl, by rw [wrap_succ (by omega)], trivial⟩
        · dsimp only [List.cons_append, List.nil_append]
          repeat (refine go rfl ?_)
          refine Fin.shut _ (oneH_shut b a bc v hok) ?_
          refine Fin.shut _ (pool_same bp p bs id b a h hb) ?_
          exact fin_ret .nil ⟨rfl, .inr rfl⟩
      · rw [if_neg hc, List.append_nil] at hs
        rw [← hs]
        repeat (refine go rfl ?_)
        refine Fin.shutB _ bv (vec_shut (T := 3) hl hcap hsp) ?_
        exact fin_round (i + 1) (by omega) (by omega) ⟨rfl, rfl, rfl, by rw [wrap_succ (by omega)], trivial⟩
    · have hil : i = a.a.length := by omega
      subst hil
      repeat (refine go rfl ?_)
      refine Fin.shut _ (oneH_shut b a bc v hok) ?_
      refine Fin.shut _ (pool_same bp p bs id b a h hb) ?_
      exact fin_end .nil ⟨rfl, .inl rfl⟩
/-- What a range over 'Used' comes to. -/
theorem used_iter {N : Nat} {env : Env} {ps : List Tmp} {asg body : Code} {l : Nat} {r : Loop} (hl : IsLoop N env ps asg body r) (bp b1 b2 : Nat) (p : Pl) (bs : List (Option Nat)) (id : Int) (K : Nat → List HP) (X : Code → List HP → Prop)
    (hy : ∀ k q, (p.used id)[k]? = some q → YTri Try.prog l [.int .i64 q.1, .int .i64 q.2] (pts l (.loop r) :: K k)
      (fun v L' => (v = .bool true ∧ L' = loopAt l r .ready none :: K (k + 1)) ∨ (v = .bool false ∧ ∃ c L, X c L ∧ L' = loopAt l r .done (some c) :: L))) :
    Tri Try.prog 51 [.func (.yield l) #[] #[], .pointer (some ⟨b1, 0, none⟩), .pointer (some ⟨b2, 0, none⟩)]
      (pts l (.loop r) :: (K 0 ++ [pts b1 (.cells [.pointer (some ⟨bp, 0, none⟩)].toArray 24 (0, 0)), pts b2 (.cells [.int .i64 id].toArray 3 (0, 0)), poolB bp p bs]))
      (fun _ L' => ∃ st pd L'', st ≠ .busy ∧ L' = pts l (.loop { r with state := st, pending := pd }) :: L'' ∧ ((pd = none ∧ L'' = K (p.used id).length ++ [poolB bp p bs]) ∨ (∃ c L, pd = some c ∧ X c L ∧ L'' = L ++ [poolB bp p bs]))) := by
  have hrr : loopAt l r .ready none = pts l (.loop r) := by
    unfold loopAt
    rw [show ({ r with state := .ready, pending := none } : Loop) = r by cases r; simp_all [hl.state, hl.pending]; exact ⟨hl.state.symm, hl.pending.symm⟩]
  refine (used1_spec l bp b1 b2 p bs id (fun k => big (pts l (.loop r) :: K k)) (fun m => ∃ c L, X c L ∧ big (loopAt l r .done (some c) :: L) m) ?_).mono ?_ ?_
  · intro k q hk
    refine (hy k q hk).mono (fun m h => by simpa using big_flat h) ?_
    rintro v L' m (⟨rfl, rfl⟩ | ⟨rfl, c, L, hX, rfl⟩) hm
    · exact ⟨_, .inl ⟨rfl, rfl⟩, big_pack (L2 := []) (by rw [List.append_nil, ← hrr]; exact hm)⟩
    · exact ⟨_, .inr ⟨rfl, rfl⟩, big_head (A := big (loopAt l r .done (some c) :: L)) (fun m h => ⟨c, L, hX, h⟩) _ (big_pack (L2 := []) (by rw [List.append_nil]; exact hm))⟩
  · intro m h
    exact big_pack (L1 := pts l (.loop r) :: K 0) (by simpa using h)
  · rintro v L' m ⟨rfl, rfl | rfl⟩ hm
    · refine ⟨_, ⟨.ready, none, _, by decide, rfl, .inl ⟨rfl, rfl⟩⟩, ?_⟩
      have h2 := big_flat hm
      rw [← hrr] at h2
      exact h2
    · obtain ⟨m1, m2, s1, s2, hd, ⟨c, L, hX, hA⟩, hR⟩ := hm
      exact ⟨_, ⟨.done, some c, _, by decide, rfl, .inr ⟨c, L, rfl, hX, rfl⟩⟩, big_flat (L1 := loopAt l r .done (some c) :: L) ⟨m1, m2, s1, s2, hd, hA, hR⟩⟩
end Go.Proofs.Ytlgphhknfocfaaa
