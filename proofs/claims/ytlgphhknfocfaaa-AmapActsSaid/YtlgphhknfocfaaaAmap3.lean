import Derived.Test.YtlgphhknfocfaaaAmap2
namespace Go.Proofs.Ytlgphhknfocfaaa
open Go.Sl

theorem pool_same (bp : Nat) (p : Pl) (bs : List (Option Nat)) (id : Int) (b : Nat) (a : Am) (h : p.get id = some a) (hb : At bs id b) : ∀ m, big [oneH b a, poolX bp p bs (id - 1).toNat] m → poolB bp p bs m := fun m hm => by
  have := pool_close bp p bs id b a a h hb m hm
  rwa [Pl.upd_same h] at this
theorem oneH_open (b : Nat) (a : Am) : ∀ m, oneH b a m → ∃ q : Nat × Value, a.ok ∧ big [pts b (.cells [.pointer (some ⟨q.1, 0, none⟩), q.2].toArray 68 (0, 0)), cntC q.1 a.c, vec q.2 a.a.length 1 3 (a.a.map intC)] m := fun _ h => h
theorem oneH_shut (b : Nat) (a : Am) (bc : Nat) (v : Value) (h : a.ok) : ∀ m, big [pts b (.cells [.pointer (some ⟨bc, 0, none⟩), v].toArray 68 (0, 0)), cntC bc a.c, vec v a.a.length 1 3 (a.a.map intC)] m → oneH b a m := fun _ h' => ⟨(bc, v), h, h'⟩
def Pl.er (p : Pl) (id : Int) : Int := if (p.get id).isSome then 0 else 7
theorem known_spec (bp : Nat) (p : Pl) (bs : List (Option Nat)) (id : Int) : Tri Try.prog 33 [.pointer (some ⟨bp, 0, none⟩), .int .i64 id] [poolB bp p bs] (fun u l => u = .tuple #[pvAt bs id, .int .i64 (p.er id)] ∧ l = [poolB bp p bs]) := by
  refine tri_intro Try.func33 rfl Try.results33 Try.ntmps33 rfl (by kernel_rfl) fun R => ?_
  repeat (refine go rfl ?_)
  refine SXR.callF (pmade_spec bp p bs) rfl ?_
  repeat (refine go rfl ?_)
  refine SXR.callF (pof_spec bp p bs id) rfl ?_
  cases h : p.get id with
  | none =>
    refine SXR.facts (pool_none h) (fun hp => ?_)
    rw [hp]
    have he : p.er id = 7 := by simp [Pl.er, h]
    rw [he]
    repeat (refine go rfl ?_)
    exact fin_ret (.tmp rfl (.tmp rfl .nil)) ⟨rfl, rfl⟩
  | some a =>
    have he : p.er id = 0 := by simp [Pl.er, h]
    rw [he]
    refine SXR.open (poolB bp p bs) (pool_open bp p bs id a h) ?_
    intro b hb
    rw [hb.2]
    repeat (refine go rfl ?_)
    refine Fin.shut _ (pool_same bp p bs id b a h hb) ?_
    exact fin_ret (.tmp rfl (.tmp rfl .nil)) ⟨rfl, rfl⟩
def Am.within (a : Am) (lo hi : Int) : Bool := decide (0 ≤ lo ∧ lo < hi ∧ hi ≤ a.a.length)
theorem within_spec (b : Nat) (a : Am) (lo hi : Int) : Tri Try.prog 34 [.pointer (some ⟨b, 0, none⟩), .int .i64 lo, .int .i64 hi] [oneH b a] (fun u l => u = .bool (a.within lo hi) ∧ l = [oneH b a]) := by
  refine tri_intro Try.func34 rfl Try.results34 Try.ntmps34 rfl (by kernel_rfl) fun R => ?_
  refine SXC.open (oneH b a) (oneH_open b a) ?_
  rintro ⟨bc, v⟩ hok
  dsimp only
  repeat (refine go rfl ?_)
  refine SXG.split rfl (fun h1 => ?_) (fun h1 => ?_)
  · repeat (refine go rfl ?_)
    refine SXG.split rfl (fun h2 => ?_) (fun h2 => ?_)
    · repeat (refine go rfl ?_)
      refine SXR.lenRd (n := a.a.length) (cs := a.a.map intC) rfl (fun w hw => RdS.of_vec (sz := 1) (T := 3) hw) ?_
      repeat (refine go rfl ?_)
      refine Fin.shut _ (oneH_shut b a bc v hok) ?_
      refine fin_ret (.tmp rfl .nil) ⟨?_, rfl⟩
      show Value.bool _ = Value.bool (a.within lo hi)
      unfold Am.within
      congr 1
      exact decide_eq_decide.2 ⟨fun h => ⟨h1, h2, h⟩, fun h => h.2.2⟩
    · repeat (refine go rfl ?_)
      refine Fin.shut _ (oneH_shut b a bc v hok) ?_
      refine fin_ret (.tmp rfl .nil) ⟨?_, rfl⟩
      rw [show a.within lo hi = false from decide_eq_false (fun h => h2 h.2.1)]
  · repeat (refine go rfl ?_)
    refine Fin.shut _ (oneH_shut b a bc v hok) ?_
    refine fin_ret (.tmp rfl .nil) ⟨?_, rfl⟩
    rw [show a.within lo hi = false from decide_eq_false (fun h => h1 h.1)]
def Pl.slots (p : Pl) (id : Int) : Int := match p.get id with
  | some a => a.a.length
  | none => 0
def Pl.cover (p : Pl) (id s : Int) : Int := match p.get id with
  | some a => max (if 0 ≤ s ∧ s < a.c.length then gf a.c s else -1) 0
  | none => 0
def Pl.at (p : Pl) (id s : Int) : Int := match p.get id with
  | some a => if 0 ≤ s ∧ s < a.a.length then gf a.a s else 0
  | none => 0
theorem slots_spec (bp : Nat) (p : Pl) (bs : List (Option Nat)) (id : Int) : Tri Try.prog 13 [.pointer (some ⟨bp, 0, none⟩), .int .i64 id] [poolB bp p bs] (fun u l => u = .int .i64 (p.slots id) ∧ l = [poolB bp p bs]) := by
  refine tri_intro Try.func13 rfl Try.results13 Try.ntmps13 rfl (by kernel_rfl) fun R => ?_
  repeat (refine go rfl ?_)
  refine SXR.callF (pof_spec bp p bs id) rfl ?_
  cases h : p.get id with
  | none =>
    refine SXR.facts (pool_none h) (fun hp => ?_)
    rw [hp, show p.slots id = 0 by simp [Pl.slots, h]]
    repeat (refine go rfl ?_)
    exact fin_ret (.tmp rfl .nil) ⟨rfl, rfl⟩
  | some a =>
    rw [show p.slots id = a.a.length by simp [Pl.slots, h]]
    refine SXR.open (poolB bp p bs) (pool_open bp p bs id a h) ?_
    intro b hb
    rw [hb.2]
    refine SXR.open (oneH b a) (oneH_open b a) ?_
    rintro ⟨bc, v⟩ hok
    dsimp only
    repeat (refine go rfl ?_)
    refine SXR.lenRd (n := a.a.length) (cs := a.a.map intC) rfl (fun w hw => RdS.of_vec (sz := 1) (T := 3) hw) ?_
    repeat (refine go rfl ?_)
    refine Fin.shut _ (oneH_shut b a bc v hok) ?_
    refine Fin.shut _ (pool_same bp p bs id b a h hb) ?_
    exact fin_ret (.tmp rfl .nil) ⟨rfl, rfl⟩
theorem cover_spec (bp : Nat) (p : Pl) (bs : List (Option Nat)) (id s : Int) : Tri Try.prog 14 [.pointer (some ⟨bp, 0, none⟩), .int .i64 id, .int .i64 s] [poolB bp p bs] (fun u l => u = .int .i64 (p.cover id s) ∧ l = [poolB bp p bs]) := by
  refine tri_intro Try.func14 rfl Try.results14 Try.ntmps14 rfl (by kernel_rfl) fun R => ?_
  repeat (refine go rfl ?_)
  refine SXR.callF (pof_spec bp p bs id) rfl ?_
  cases h : p.get id with
  | none =>
    refine SXR.facts (pool_none h) (fun hp => ?_)
    rw [hp, show p.cover id s = 0 by simp [Pl.cover, h]]
    repeat (refine go rfl ?_)
    exact fin_ret (.tmp rfl .nil) ⟨rfl, rfl⟩
  | some a =>
    rw [show p.cover id s = max (if 0 ≤ s ∧ s < a.c.length then gf a.c s else -1) 0 by simp [Pl.cover, h]]
    refine SXR.open (poolB bp p bs) (pool_open bp p bs id a h) ?_
    intro b hb
    rw [hb.2]
    refine SXR.open (oneH b a) (oneH_open b a) ?_
    rintro ⟨bc, v⟩ hok
    dsimp only
    repeat (refine go rfl ?_)
    refine SXR.callF (at_spec bc a.c s) rfl ?_
    repeat (refine go rfl ?_)
    refine Fin.shut _ (oneH_shut b a bc v hok) ?_
    refine Fin.shut _ (pool_same bp p bs id b a h hb) ?_
    exact fin_ret (.tmp rfl .nil) ⟨rfl, rfl⟩
theorem ints_get {l : List Int} {i : Nat} (sp : List Value) (h : i < l.length) : (l.map intC ++ sp)[i]? = some (.int .i64 (gf l i)) := by
  rw [List.getElem?_append_left (by simpa using h), List.getElem?_map, List.getElem?_eq_getElem h, gf_get h]; rfl
theorem get_spec (bp : Nat) (p : Pl) (bs : List (Option Nat)) (id s : Int) : Tri Try.prog 15 [.pointer (some ⟨bp, 0, none⟩), .int .i64 id, .int .i64 s] [poolB bp p bs] (fun u l => u = .int .i64 (p.at id s) ∧ l = [poolB bp p bs]) := by
  refine tri_intro Try.func15 rfl Try.results15 Try.ntmps15 rfl (by kernel_rfl) fun R => ?_
  repeat (refine go rfl ?_)
  refine SXG.split rfl (fun h1 => ?_) (fun h1 => ?_)
  · have e : p.at id s = 0 := by
      unfold Pl.at; split
      · exact if_neg (by omega)
      · rfl
    rw [e]
    repeat (refine go rfl ?_)
    exact fin_ret (.tmp rfl .nil) ⟨rfl, rfl⟩
  · repeat (refine go rfl ?_)
    refine SXR.callF (slots_spec bp p bs id) rfl ?_
    repeat (refine go rfl ?_)
    refine SXB.split (fun h2 => ?_) (fun h2 => ?_)
    · have e : p.at id s = 0 := by
        unfold Pl.at; unfold Pl.slots at h2; split
        · rename_i a ha; rw [ha] at h2; exact if_neg (by simp only at h2; omega)
        · rfl
      rw [e]
      repeat (refine go rfl ?_)
      exact fin_ret (.tmp rfl .nil) ⟨rfl, rfl⟩
    · cases h : p.get id with
      | none => simp [Pl.slots, h] at h2; omega
      | some a =>
        have hs : p.slots id = a.a.length := by simp [Pl.slots, h]
        rw [hs] at h2
        have e : p.at id s = gf a.a s := by simp only [Pl.at, h]; exact if_pos (by omega)
        rw [e]
        repeat (refine go rfl ?_)
        refine SXR.callF (pof_spec bp p bs id) rfl ?_
        refine SXR.open (poolB bp p bs) (pool_open bp p bs id a h) ?_
        intro b hb
        rw [hb.2]
        refine SXR.open (oneH b a) (oneH_open b a) ?_
        rintro ⟨bc, v⟩ hok
        dsimp only
        refine SXR.vec (v := v) (n := a.a.length) (sz := 1) (T := 3) (cs := a.a.map intC) (fun _ h _ => absurd h (by omega)) ?_
        rintro bv cap sp rfl hcap hsp hl
        have hsz := hok.2.2.1
        have hal := hok.1
        repeat (refine go rfl ?_)
        refine SXR.index s.toNat rfl (by omega) (by omega) (by omega) ?_
        repeat (refine go rfl ?_)
        refine SXL.row (ints_get sp (i := s.toNat) (by omega)) ?_
        rw [show ((s.toNat : Nat) : Int) = s by omega]
        repeat (refine go rfl ?_)
        refine Fin.shutB _ bv (vec_shut (T := 3) hl hcap hsp) ?_
        refine Fin.shut _ (oneH_shut b a bc (.slice (some ⟨bv, 0, none⟩) a.a.length cap) hok) ?_
        refine Fin.shut _ (pool_same bp p bs id b a h hb) ?_
        exact fin_ret (.tmp rfl .nil) ⟨rfl, rfl⟩
theorem pnew_spec (most : Int) : Tri Try.prog 5 [.int .i64 most] [] (fun u l => (0 ≤ most ∧ most ≤ 4096 ∧ ∃ bp, u = .pointer (some ⟨bp, 0, none⟩) ∧ l = [poolB bp ⟨most, []⟩ []]) ∨ (¬ (0 ≤ most ∧ most ≤ 4096) ∧ u = .pointer none ∧ l = [])) := by
  refine tri_intro Try.func5 rfl Try.results5 Try.ntmps5 rfl (by kernel_rfl) fun R => ?_
  repeat (refine go rfl ?_)
  refine SXG.split rfl (fun h1 => ?_) (fun h1 => ?_)
  · repeat (refine go rfl ?_)
    exact fin_ret (.tmp rfl .nil) (.inr ⟨by omega, rfl, rfl⟩)
  · repeat (refine go rfl ?_)
    refine SXB.split (fun h2 => ?_) (fun h2 => ?_)
    · repeat (refine go rfl ?_)
      exact fin_ret (.tmp rfl .nil) (.inr ⟨by omega, rfl, rfl⟩)
    · repeat (first | refine go rfl ?_ | intro bp)
      refine Fin.ent (big_add (A := vec (.slice none 0 0) ([] : List (Option Nat)).length 1 64 (([] : List (Option Nat)).map pv)) vec_nil) (Fin.ent (big_add (A := big (List.zipWith oneO [] [])) fun _ => trivial) ?_)
      refine Fin.shut (cs := [pts bp (.cells [.int .i64 most, .bool true, .slice none 0 0, .int .i64 0].toArray 63 (0, 0)), vec (.slice none 0 0) ([] : List (Option Nat)).length 1 64 (([] : List (Option Nat)).map pv), big (List.zipWith oneO [] [])]) _ (poolB_shut bp ⟨most, []⟩ [] (.slice none 0 0) ⟨rfl, by simp [Pl.ok]; omega⟩) ?_
      exact fin_ret (.tmp rfl .nil) (.inl ⟨by omega, by omega, _, rfl, rfl⟩)
end Go.Proofs.Ytlgphhknfocfaaa
