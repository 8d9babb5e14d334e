import Derived.Test.YtlgphhknfocfaaaRefP
namespace Go.Proofs.Ytlgphhknfocfaaa.Ref
open Go.Sl

@[reducible] def rawP (bp : Nat) (most : Int) (v : Value) : HP := pts bp (.cells [.int .i64 most, v].toArray 81 (0, 0))
theorem pool_is (bp : Nat) (p : Pl) (bs : List (Option Nat)) : ∀ m, poolB bp p bs m → ∃ v : Value, ((bs.length = p.l.length ∧ p.ok) ∧ bs.map Option.isNone = p.l.map Option.isNone ∧ ∃ a k, v = .slice a bs.length k) ∧
  big [rawP bp p.most v, vec v bs.length 1 54 (bs.map pv), big (List.zipWith oneO bs p.l)] m := by
  rintro m ⟨v, h, hm⟩
  have hsh : bs.map Option.isNone = p.l.map Option.isNone := zip_shape h.1 (by
    have := big_tail (big_tail hm)
    have := big_flat this; rwa [List.append_nil] at this)
  exact ⟨v, ⟨h, hsh, big_fact vec_is (big_tail hm)⟩, hm⟩
theorem ofL_spec (bp : Nat) (most : Int) (v : Value) (bs : List (Option Nat)) (hlen : bs.length ≤ 4096) (id : Int) : Tri Try.prog 23 [.pointer (some ⟨bp, 0, none⟩), .int .i64 id] [rawP bp most v, vec v bs.length 1 54 (bs.map pv)]
    (fun u l => u = pvAt bs id ∧ l = [rawP bp most v, vec v bs.length 1 54 (bs.map pv)]) := by
  refine tri_intro Try.func23 rfl Try.results23 Try.ntmps23 rfl (by kernel_rfl) fun R => ?_
  repeat (refine go rfl ?_)
  refine SXG.split rfl (fun hc => ?_) (fun hc => ?_)
  · repeat (refine go rfl ?_)
    exact fin_ret (.tmp rfl .nil) ⟨(if_neg (by omega)).symm, rfl⟩
  repeat (refine go rfl ?_)
  refine SXR.lenRd (n := bs.length) (cs := bs.map pv) rfl (fun w hw => RdS.of_vec (sz := 1) (T := 54) hw) ?_
  repeat (refine go rfl ?_)
  refine SXB.split (fun hc2 => ?_) (fun hc2 => ?_)
  · repeat (refine go rfl ?_)
    exact fin_ret (.tmp rfl .nil) ⟨(if_neg (by omega)).symm, rfl⟩
  refine SXC.vec (v := v) (n := bs.length) (sz := 1) (T := 54) (cs := bs.map pv) (fun _ h _ => absurd h (by omega)) ?_
  rintro b cap sp rfl hcap hsp hl
  obtain ⟨o, ho⟩ : ∃ o, bs[(id - 1).toNat]? = some o := ⟨bs[(id - 1).toNat]'(by omega), List.getElem?_eq_getElem (by omega)⟩
  repeat (refine go rfl ?_)
  rw [show IntKind.i64.wrap (id - 1) = id - 1 from IntWalk.i64_in _ ⟨by omega, by omega⟩]
  refine SXR.index ((id - 1).toNat) rfl (by omega) (by omega) (by omega) ?_
  repeat (refine go rfl ?_)
  refine SXL.row (v := pv o) (by rw [List.getElem?_append_left (by simp; omega), List.getElem?_map, ho]; rfl) ?_
  repeat (refine go rfl ?_)
  refine Fin.shutB _ b (vec_shut (T := 54) hl hcap hsp) ?_
  refine fin_ret (.tmp rfl .nil) ⟨?_, rfl⟩
  unfold pvAt
  rw [if_pos (by omega), ho]; rfl
theorem of_spec (bp : Nat) (p : Pl) (bs : List (Option Nat)) (id : Int) : Tri Try.prog 23 [.pointer (some ⟨bp, 0, none⟩), .int .i64 id] [poolB bp p bs] (fun u l => u = pvAt bs id ∧ l = [poolB bp p bs]) :=
  ⟨fun w R hw => by
    obtain ⟨m1, m2, s1, s2, hd, ⟨v, h, hA⟩, hR⟩ := hw
    have h1 : Sat w ([rawP bp p.most v, vec v bs.length 1 54 (bs.map pv)] ++ (big (List.zipWith oneO bs p.l) :: R)) := big_flat (L1 := [rawP bp p.most v, vec v bs.length 1 54 (bs.map pv), big (List.zipWith oneO bs p.l)]) ⟨m1, m2, s1, s2, hd, hA, hR⟩
    refine ((ofL_spec bp p.most v bs (by have := h.1; have := h.2.1; have := h.2.2; omega) id).h w _ h1).mono ?_
    rintro e w' ⟨u, L', ⟨hu, rfl⟩, he, hS⟩
    exact ⟨u, _, ⟨hu, rfl⟩, he, big_head (fun m hm => ⟨v, h, hm⟩) _ (big_pack (L1 := [rawP bp p.most v, vec v bs.length 1 54 (bs.map pv), big (List.zipWith oneO bs p.l)]) (L2 := R) hS)⟩⟩
theorem idsU_kn : ∀ (l : List (Option Am)), (idsU (l.map Option.isNone) l.length).length = knL l := by
  intro l
  have key : ∀ i, i ≤ l.length → (idsU (l.map Option.isNone) i).length = knL (l.take i) := by
    intro i
    induction i with
    | zero => intro _; rfl
    | succ i ih =>
      intro hi
      rw [idsU_succ, List.length_append, ih (by omega), List.take_add_one, knL_append]
      congr 1
      rw [List.getElem?_map, List.getElem?_eq_getElem (by omega)]
      cases h : l[i]'(by omega) <;> simp [knL]
  have := key l.length (Nat.le_refl _)
  rwa [List.take_length] at this
set_option maxHeartbeats 1000000 in
theorem idsL_spec (bp : Nat) (most : Int) (v : Value) (bs : List (Option Nat)) (hpl : bs.length ≤ 4096) : Tri Try.prog 27 [.pointer (some ⟨bp, 0, none⟩)] [rawP bp most v, vec v bs.length 1 54 (bs.map pv)]
    (fun u l => l = [vec u (idsU (bs.map Option.isNone) bs.length).length 1 3 ((idsU (bs.map Option.isNone) bs.length).map intC), rawP bp most v, vec v bs.length 1 54 (bs.map pv)]) := by
  refine tri_intro Try.func27 rfl Try.results27 Try.ntmps27 rfl (by kernel_rfl) fun R => ?_
  repeat (refine go rfl ?_)
  refine SXR.lenRd (n := bs.length) (cs := bs.map pv) rfl (fun w hw => RdS.of_vec (sz := 1) (T := 54) hw) ?_
  repeat (refine go rfl ?_)
  refine SXC.ent (big_add (A := vec (0, Value.slice none 0 0).2 (idsU (bs.map Option.isNone) (0, Value.slice none 0 0).1).length 1 3 ((idsU (bs.map Option.isNone) (0, Value.slice none 0 0).1).map intC)) vec_nil) ?_
  refine SXC.loop (fun x : Nat × Value => x.1 ≤ bs.length) (fun x => [(3, x.2), (9, v), (10, .int .i64 bs.length), (11, .int .i64 x.1)])
    (fun x => [vec x.2 (idsU (bs.map Option.isNone) x.1).length 1 3 ((idsU (bs.map Option.isNone) x.1).map intC), vec v bs.length 1 54 (bs.map pv)]) (fun x => bs.length - x.1) (0, .slice none 0 0) (Nat.zero_le _) ⟨rfl, rfl, rfl, rfl, trivial⟩ ?_
  rintro ⟨i, o⟩ hi'
  dsimp only at hi' ⊢
  repeat (refine go rfl ?_)
  refine SXB.split (fun hlt => ?_) (fun hge => ?_)
  · have hil : i < bs.length := by omega
    obtain ⟨r, hr⟩ : ∃ r, bs[i]? = some r := ⟨bs[i], List.getElem?_eq_getElem hil⟩
    have hsu := idsU_succ (bs.map Option.isNone) i
    have hsl := idsU_len (bs.map Option.isNone) i
    rw [List.getElem?_map, hr] at hsu
    refine SXC.vec (v := v) (n := bs.length) (sz := 1) (T := 54) (cs := bs.map pv) (fun _ h _ => absurd h (by omega)) ?_
    rintro b cap sp rfl hcap hsp hl
    repeat (refine go rfl ?_)
    refine SXR.index i rfl (by omega) (by omega) (by omega) ?_
    repeat (refine go rfl ?_)
    refine SXL.row (v := pv r) (by rw [List.getElem?_append_left (by simp; omega), List.getElem?_map, hr]; rfl) ?_
    cases r with
    | none =>
      have e : idsU (bs.map Option.isNone) (i + 1) = idsU (bs.map Option.isNone) i := by rw [hsu]; simp
      rw [← e]
      repeat (refine go rfl ?_)
      refine Fin.shutB _ b (vec_shut (T := 54) hl hcap hsp) ?_
      exact fin_round (i + 1, o) (by show i + 1 ≤ bs.length; omega) (by show bs.length - (i + 1) < bs.length - i; omega) ⟨rfl, rfl, rfl, by rw [wrap_succ (by omega)], trivial⟩
    | some q =>
      have e : idsU (bs.map Option.isNone) (i + 1) = idsU (bs.map Option.isNone) i ++ [(i : Int) + 1] := by rw [hsu]; simp
      repeat (refine go rfl ?_)
      rw [show IntKind.i64.wrap ((i : Int) + 1) = (i : Int) + 1 from IntWalk.i64_in _ ⟨by omega, by omega⟩]
      repeat (first | refine go rfl ?_ | intro bx)
      refine SXR.append (n := (idsU (bs.map Option.isNone) i).length) (m := 1) (sz := 1) (e := 3) (ys := [intC ((i : Int) + 1)]) rfl (pk (vec o (idsU (bs.map Option.isNone) i).length 1 3 ((idsU (bs.map Option.isNone) i).map intC))) rfl (fun w hw => RdS.of_pts (b := bx) (off := 0) (vs := [intC ((i : Int) + 1)]) (T := 3) (fr := (0, 0)) (Nat.le_refl 1) rfl hw) rfl (by simp [Value.oneCell']) (by omega) (by omega) fun v' => ?_
      rw [show (idsU (bs.map Option.isNone) i).map intC ++ [intC ((i : Int) + 1)] = (idsU (bs.map Option.isNone) (i + 1)).map intC by rw [e, List.map_append]; rfl, show (idsU (bs.map Option.isNone) i).length + 1 = (idsU (bs.map Option.isNone) (i + 1)).length by rw [e]; simp]
      repeat (refine go rfl ?_)
      refine Fin.shutB _ b (vec_shut (T := 54) hl hcap hsp) ?_
      exact fin_round (i + 1, v') (by show i + 1 ≤ bs.length; omega) (by show bs.length - (i + 1) < bs.length - i; omega) ⟨rfl, rfl, rfl, by rw [IntWalk.i64_in _ ⟨by omega, by omega⟩]; rfl, trivial⟩
  · have hil : i = bs.length := by omega
    subst hil
    repeat (refine go rfl ?_)
    exact fin_ret (.tmp rfl .nil) rfl
theorem ids_spec (bp : Nat) (p : Pl) (bs : List (Option Nat)) : Tri Try.prog 27 [.pointer (some ⟨bp, 0, none⟩)] [poolB bp p bs] (fun u l => l = [poolB bp p bs, vec u p.ids.length 1 3 (p.ids.map intC)]) :=
  ⟨fun w R hw => by
    obtain ⟨m1, m2, s1, s2, hd, hA0, hR⟩ := hw
    obtain ⟨v, ⟨h, hsh, _⟩, hA⟩ := pool_is bp p bs m1 hA0
    have h1 : Sat w ([rawP bp p.most v, vec v bs.length 1 54 (bs.map pv)] ++ (big (List.zipWith oneO bs p.l) :: R)) := big_flat (L1 := [rawP bp p.most v, vec v bs.length 1 54 (bs.map pv), big (List.zipWith oneO bs p.l)]) ⟨m1, m2, s1, s2, hd, hA, hR⟩
    have hids : p.ids = idsU (bs.map Option.isNone) bs.length := by unfold Pl.ids; rw [hsh, h.1]
    refine ((idsL_spec bp p.most v bs (by have := h.1; have := h.2.1; have := h.2.2; omega)).h w _ h1).mono ?_
    rintro e w' ⟨u, L', rfl, he, hS⟩
    rw [hids]
    refine ⟨u, _, rfl, he, ?_⟩
    have hS2 : Sat w' ([rawP bp p.most v, vec v bs.length 1 54 (bs.map pv), big (List.zipWith oneO bs p.l)] ++ (vec u (idsU (bs.map Option.isNone) bs.length).length 1 3 ((idsU (bs.map Option.isNone) bs.length).map intC) :: R)) :=
      big_perm (by
        simp only [List.cons_append, List.nil_append]
        exact List.perm_middle (l₁ := [rawP bp p.most v, vec v bs.length 1 54 (bs.map pv), big (List.zipWith oneO bs p.l)]).symm) hS
    exact big_head (fun m hm => ⟨v, h, hm⟩) _ (big_pack hS2)⟩
theorem slots_spec (bp : Nat) (p : Pl) (bs : List (Option Nat)) (id : Int) : Tri Try.prog 24 [.pointer (some ⟨bp, 0, none⟩), .int .i64 id] [poolB bp p bs] (fun u l => u = .int .i64 (p.slots id) ∧ l = [poolB bp p bs]) := by
  refine tri_intro Try.func24 rfl Try.results24 Try.ntmps24 rfl (by kernel_rfl) fun R => ?_
  repeat (refine go rfl ?_)
  refine SXR.callF (of_spec bp p bs id) rfl ?_
  cases h : p.get id with
  | none =>
    refine SXR.facts (pool_none h) (fun hp => ?_)
    rw [hp, show p.slots id = 0 by simp [Pl.slots, h]]
    repeat (refine go rfl ?_)
    exact fin_ret (.tmp rfl .nil) ⟨rfl, rfl⟩
  | some a =>
    rw [show p.slots id = a.a.length by simp [Pl.slots, h]]
    refine SXR.open (poolB bp p bs) (pool_open bp p bs id a h) ?_
    intro b hb
    rw [hb.2]
    refine SXR.open (oneH b a) (oneH_open b a) ?_
    rintro ⟨bc, v⟩ hok
    dsimp only
    repeat (refine go rfl ?_)
    refine SXR.lenRd (n := a.a.length) (cs := a.a.map intC) rfl (fun w hw => RdS.of_vec (sz := 1) (T := 3) hw) ?_
    repeat (refine go rfl ?_)
    refine Fin.shut _ (oneH_shut b a bc v hok) ?_
    refine Fin.shut _ (pool_same bp p bs id b a h hb) ?_
    exact fin_ret (.tmp rfl .nil) ⟨rfl, rfl⟩
theorem cover_spec (bp : Nat) (p : Pl) (bs : List (Option Nat)) (id s : Int) : Tri Try.prog 25 [.pointer (some ⟨bp, 0, none⟩), .int .i64 id, .int .i64 s] [poolB bp p bs] (fun u l => u = .int .i64 (p.cover id s) ∧ l = [poolB bp p bs]) := by
  refine tri_intro Try.func25 rfl Try.results25 Try.ntmps25 rfl (by kernel_rfl) fun R => ?_
  repeat (refine go rfl ?_)
  refine SXR.callF (of_spec bp p bs id) rfl ?_
  cases h : p.get id with
  | none =>
    refine SXR.facts (pool_none h) (fun hp => ?_)
    rw [hp, show p.cover id s = 0 by simp [Pl.cover, h]]
    repeat (refine go rfl ?_)
    exact fin_ret (.tmp rfl .nil) ⟨rfl, rfl⟩
  | some a =>
    rw [show p.cover id s = max (if 0 ≤ s ∧ s < a.c.length then gf a.c s else -1) 0 by simp [Pl.cover, h]]
    refine SXR.open (poolB bp p bs) (pool_open bp p bs id a h) ?_
    intro b hb
    rw [hb.2]
    refine SXR.open (oneH b a) (oneH_open b a) ?_
    rintro ⟨bc, v⟩ hok
    dsimp only
    repeat (refine go rfl ?_)
    refine SXR.callF (rcAt_spec bc a.c s) rfl ?_
    repeat (refine go rfl ?_)
    refine SXB.split (fun h1 => ?_) (fun h1 => ?_)
    · repeat (refine go rfl ?_)
      refine Fin.shut _ (oneH_shut b a bc v hok) ?_
      refine Fin.shut _ (pool_same bp p bs id b a h hb) ?_
      exact fin_ret (.tmp rfl .nil) ⟨by rw [Int.max_eq_right (by omega)], rfl⟩
    · repeat (refine go rfl ?_)
      refine SXR.callF (rcAt_spec bc a.c s) rfl ?_
      repeat (refine go rfl ?_)
      refine Fin.shut _ (oneH_shut b a bc v hok) ?_
      refine Fin.shut _ (pool_same bp p bs id b a h hb) ?_
      exact fin_ret (.tmp rfl .nil) ⟨by rw [Int.max_eq_left (by omega)], rfl⟩
theorem get_spec (bp : Nat) (p : Pl) (bs : List (Option Nat)) (id s : Int) : Tri Try.prog 26 [.pointer (some ⟨bp, 0, none⟩), .int .i64 id, .int .i64 s] [poolB bp p bs] (fun u l => u = .int .i64 (p.at id s) ∧ l = [poolB bp p bs]) := by
  refine tri_intro Try.func26 rfl Try.results26 Try.ntmps26 rfl (by kernel_rfl) fun R => ?_
  have hz : s < 0 ∨ p.slots id ≤ s → p.at id s = 0 := by
    intro hh
    unfold Pl.at
    unfold Pl.slots at hh
    cases h : p.get id with
    | none => rfl
    | some a => rw [h] at hh; simp only at hh ⊢; rw [if_neg (by omega)]
  repeat (refine go rfl ?_)
  refine SXG.split rfl (fun h1 => ?_) (fun h1 => ?_)
  · repeat (refine go rfl ?_)
    exact fin_ret (.tmp rfl .nil) ⟨by rw [hz (.inl h1)], rfl⟩
  repeat (refine go rfl ?_)
  refine SXR.callF (slots_spec bp p bs id) rfl ?_
  repeat (refine go rfl ?_)
  refine SXB.split (fun h2 => ?_) (fun h2 => ?_)
  · repeat (refine go rfl ?_)
    exact fin_ret (.tmp rfl .nil) ⟨by rw [hz (.inr h2)], rfl⟩
  repeat (refine go rfl ?_)
  refine SXR.callF (of_spec bp p bs id) rfl ?_
  cases h : p.get id with
  | none => simp [Pl.slots, h] at h2; omega
  | some a =>
    have hsl : p.slots id = a.a.length := by simp [Pl.slots, h]
    rw [hsl] at h2
    refine SXR.open (poolB bp p bs) (pool_open bp p bs id a h) ?_
    intro b hb
    rw [hb.2]
    refine SXR.open (oneH b a) (oneH_open b a) ?_
    rintro ⟨bc, v⟩ hok
    dsimp only
    refine SXR.vec (v := v) (n := a.a.length) (sz := 1) (T := 3) (cs := a.a.map intC) (fun _ h _ => absurd h (by omega)) ?_
    rintro bv cap sp rfl hcap hsp hl
    repeat (refine go rfl ?_)
    refine SXR.index s.toNat rfl (by omega) (by omega) (by omega) ?_
    repeat (refine go rfl ?_)
    refine SXL.row (ints_get sp (i := s.toNat) (by omega)) ?_
    rw [show ((s.toNat : Nat) : Int) = s by omega]
    repeat (refine go rfl ?_)
    refine Fin.shutB _ bv (vec_shut (T := 3) hl hcap hsp) ?_
    refine Fin.shut _ (oneH_shut b a bc (.slice (some ⟨bv, 0, none⟩) a.a.length cap) hok) ?_
    refine Fin.shut _ (pool_same bp p bs id b a h hb) ?_
    exact fin_ret (.tmp rfl .nil) ⟨by simp only [Pl.at, h]; rw [if_pos (by omega)], rfl⟩
end Go.Proofs.Ytlgphhknfocfaaa.Ref
