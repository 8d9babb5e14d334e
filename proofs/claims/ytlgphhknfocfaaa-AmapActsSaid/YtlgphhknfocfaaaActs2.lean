import Derived.Test.YtlgphhknfocfaaaRef5
import Derived.Test.YtlgphhknfocfaaaCovers1
namespace Go.Proofs.Ytlgphhknfocfaaa
open Go.Sl

/-- Is it enough? -/
def wst (look : Int) (n : Nat) : Bool := decide (0 ≤ look ∧ IntKind.i64.wrap (2 * look) ≤ (n : Int))
def wantS (look : Int) (acc : List Int) (q : Int × Int) : List Int := if wst look acc.length = true then acc else acc ++ [q.1, q.2]
@[reducible] def wantL (look : Int) (l : List (Int × Int)) : List Int := l.foldl (wantS look) []
theorem want_stop {look : Int} : ∀ (l : List (Int × Int)) (acc : List Int), wst look acc.length = true → l.foldl (wantS look) acc = acc
  | [], _, _ => rfl
  | q :: r, acc, h => by
    simp only [List.foldl_cons, wantS, h, if_true]
    exact want_stop r acc h
theorem want_len {look : Int} : ∀ (l : List (Int × Int)) (acc : List Int), (l.foldl (wantS look) acc).length ≤ acc.length + 2 * l.length
  | [], acc => by simp
  | q :: r, acc => by
    have ih := want_len (look := look) r (wantS look acc q)
    have : (wantS look acc q).length ≤ acc.length + 2 := by unfold wantS; split <;> simp
    simp only [List.foldl_cons, List.length_cons]; omega
theorem want_succ {look : Int} {l : List (Int × Int)} {k : Nat} {q : Int × Int} (h : l[k]? = some q) : wantL look (l.take (k + 1)) = wantS look (wantL look (l.take k)) q := by
  unfold wantL; rw [List.take_add_one, h]; simp
theorem want_at {look : Int} {l : List (Int × Int)} {k : Nat} (h : wst look (wantL look (l.take k)).length = true) : wantL look l = wantL look (l.take k) := by
  have e : l = l.take k ++ l.drop k := (List.take_append_drop k l).symm
  conv => lhs; rw [e]
  unfold wantL; rw [List.foldl_append]; exact want_stop _ _ h
theorem gcell_push2 {b : Nat} {l : List Int} {x y : Int} {v : Value} : ∀ m, big [pts b (.cells [v].toArray 30 (0, 0)), vec v (l.length + 2) 1 3 (l.map intC ++ [intC x, intC y])] m → gcell b (l ++ [x, y]) m := fun m h => by
  refine gcell_shut m (v := v) ?_
  rw [List.length_append, List.map_append]
  exact h
theorem pool_len {bp : Nat} {p : Pl} {bs : List (Option Nat)} : ∀ m, poolB bp p bs m → ∀ id a, p.get id = some a → a.ok := fun m hm id a h => by
  obtain ⟨b, hb, hm2⟩ := pool_open bp p bs id a h m hm
  exact big_fact (A := oneH b a) (p := a.ok) (fun _ ⟨_, h, _⟩ => h) hm2
theorem pool_okf {bp : Nat} {p : Pl} {bs : List (Option Nat)} : ∀ m, poolB bp p bs m → p.ok := fun _ ⟨_, h, _⟩ => h.2
theorem want_used {look : Int} {a : List Int} {i : Nat} : wantL look (usedN a (i + 1)) = if 0 < gf a i then wantS look (wantL look (usedN a i)) ((i : Int), gf a i) else wantL look (usedN a i) := by
  rw [usedN_succ]; unfold wantL; rw [List.foldl_append]; split <;> simp
theorem used_le {p : Pl} (h : ∀ id a, p.get id = some a → a.ok) (id : Int) : (p.used id).length ≤ 4096 := by
  unfold Pl.used
  cases hg : p.get id with
  | none => simp
  | some a =>
    have := usedN_len a.a a.a.length
    have h2 := h id a hg
    have := h2.1; have := h2.2.2.1
    simp only; omega
set_option maxRecDepth 4000 in
set_option maxHeartbeats 2000000 in
theorem lused_spec (bp : Nat) (p : Pl) (bs : List (Option Nat)) (id look : Int) : Tri Try.prog 28 [.pointer (some ⟨bp, 0, none⟩), .int .i64 id, .int .i64 look] [poolB bp p bs]
    (fun u l => l = [poolB bp p bs, vec u (wantL look (p.used id)).length 1 3 ((wantL look (p.used id)).map intC)]) := by
  refine tri_intro Try.func28 rfl Try.results28 Try.ntmps28 rfl (by kernel_rfl) fun R => ?_
  refine SXC.facts pool_len (fun hall => ?_)
  have hul := used_le hall id
  repeat (first | refine go rfl ?_ | intro _)
  rename_i b5
  refine SXR.call (used_spec bp id) rfl ?_
  rintro u L' ⟨b1, b2, rfl, rfl⟩
  dsimp only [List.cons_append, List.nil_append]
  repeat (first | refine go rfl ?_ | intro _)
  rename_i b8
  refine SXC.ent (big_add (A := vec (.slice none 0 0) ([] : List Int).length 1 3 (([] : List Int).map intC)) vec_nil) ?_
  refine SXC.shut (gcell b8 []) (gcell_shut (b := b8) (l := []) (v := .slice none 0 0)) ?_
  rw [show gcell b8 [] = gcell b8 (wantL look ((p.used id).take 0)) from rfl]
  refine SXC.rangeFunc (pre := [pts b5 (.cells [.int .i64 look].toArray 3 (0, 0)), gcell b8 (wantL look ((p.used id).take 0)), pts b1 (.cells [.pointer (some ⟨bp, 0, none⟩)].toArray 24 (0, 0)), pts b2 (.cells [.int .i64 id].toArray 3 (0, 0)), poolB bp p bs]) rfl
    (fun l r hl => used_iter hl bp b1 b2 p bs id (fun k => [pts b5 (.cells [.int .i64 look].toArray 3 (0, 0)), gcell b8 (wantL look ((p.used id).take k))])
      (fun c L => c = .exit 0 ∧ ∃ k, wst look (wantL look ((p.used id).take k)).length = true ∧ L = [gcell b8 (wantL look ((p.used id).take k))]) ?_) ?_ ?_
  · intro k q hk
    have hkl : k < (p.used id).length := (List.getElem?_eq_some_iff.1 hk).1
    have hst := want_succ (look := look) hk
    have hwl : (wantL look ((p.used id).take k)).length ≤ 0 + 2 * ((p.used id).take k).length := want_len (look := look) ((p.used id).take k) []
    have htl : ((p.used id).take k).length ≤ 4096 := by rw [List.length_take]; omega
    rw [hst]
    refine ytri_of hl rfl (by kernel_rfl) (by kernel_rfl) (by kernel_rfl) fun R => ?_
    repeat (first | refine go rfl ?_ | intro _)
    refine fin_asg hl.state ?_
    refine SXC.open (gcell b8 (wantL look ((p.used id).take k))) (gcell_open _ _) ?_
    rintro v ⟨a0, c0, rfl⟩
    repeat (refine go rfl ?_)
    refine SXG.split rfl (fun h1 => ?_) (fun h1 => ?_)
    · repeat (refine go rfl ?_)
      refine SXB.split (fun h2 => ?_) (fun h2 => ?_)
      · have hs : wst look (wantL look ((p.used id).take k)).length = true := decide_eq_true ⟨h1, h2⟩
        repeat (refine go rfl ?_)
        refine Fin.shut _ (gcell_shut (b := b8) (l := wantL look ((p.used id).take k)) (v := .slice a0 (wantL look ((p.used id).take k)).length c0)) ?_
        exact fin_rnd_out (.inr ⟨0, rfl, rfl⟩) (.inr ⟨rfl, _, _, ⟨rfl, k, hs, rfl⟩, rfl⟩)
      · have hs : ¬ wst look (wantL look ((p.used id).take k)).length = true := fun h => h2 (of_decide_eq_true h).2
        have hw : wantS look (wantL look ((p.used id).take k)) q = wantL look ((p.used id).take k) ++ [q.1, q.2] := if_neg hs
        rw [hw]
        generalize wantL look ((p.used id).take k) = g at hwl ⊢
        repeat (first | refine go rfl ?_ | intro bx)
        refine SXR.append (n := g.length) (m := 2) (sz := 1) (e := 3) (ys := [intC q.1, intC q.2]) rfl (pk (vec (.slice a0 g.length c0) g.length 1 3 (g.map intC))) rfl (fun w hw => RdS.of_pts (b := bx) (off := 0) (vs := [intC q.1, intC q.2]) (T := 3) (fr := (0, 0)) (Nat.le_refl 2) rfl hw) rfl (by simp [Value.oneCell']) (by omega) (by omega) fun v' => ?_
        refine SXR.facts vec_is ?_
        rintro ⟨a', c', rfl⟩
        repeat (refine go rfl ?_)
        refine Fin.shut _ (gcell_push2 (b := b8) (l := g) (x := q.1) (y := q.2) (v := .slice a' (g.length + 2) c')) ?_
        exact fin_rnd (.inl ⟨rfl, rfl⟩)
    · have hs : ¬ wst look (wantL look ((p.used id).take k)).length = true := fun h => h1 (of_decide_eq_true h).1
      have hw : wantS look (wantL look ((p.used id).take k)) q = wantL look ((p.used id).take k) ++ [q.1, q.2] := if_neg hs
      rw [hw]
      generalize wantL look ((p.used id).take k) = g at hwl ⊢
      repeat (first | refine go rfl ?_ | intro bx)
      refine SXR.append (n := g.length) (m := 2) (sz := 1) (e := 3) (ys := [intC q.1, intC q.2]) rfl (pk (vec (.slice a0 g.length c0) g.length 1 3 (g.map intC))) rfl (fun w hw => RdS.of_pts (b := bx) (off := 0) (vs := [intC q.1, intC q.2]) (T := 3) (fr := (0, 0)) (Nat.le_refl 2) rfl hw) rfl (by simp [Value.oneCell']) (by omega) (by omega) fun v' => ?_
      refine SXR.facts vec_is ?_
      rintro ⟨a', c', rfl⟩
      repeat (refine go rfl ?_)
      refine Fin.shut _ (gcell_push2 (b := b8) (l := g) (x := q.1) (y := q.2) (v := .slice a' (g.length + 2) c')) ?_
      exact fin_rnd (.inl ⟨rfl, rfl⟩)
  · rintro D L'' (⟨_, rfl⟩ | ⟨c, L, h, _⟩)
    · dsimp only [List.cons_append, List.nil_append]
      rw [List.take_length]
      refine Fin.open (gcell b8 (wantL look (p.used id))) (gcell_open _ _) ?_
      rintro v ⟨a0, c0, rfl⟩
      repeat (refine go rfl ?_)
      refine fin_mark ?_
      exact fin_ret (.tmp rfl .nil) rfl
    · cases h
  · rintro D L'' c (⟨h, _⟩ | ⟨c', L, h, ⟨rfl, k, hs, rfl⟩, rfl⟩)
    · cases h
    · cases h
      refine ⟨by kernel_rfl, ?_⟩
      dsimp only [List.cons_append, List.nil_append]
      rw [← want_at hs]
      refine SXC.open (gcell b8 (wantL look (p.used id))) (gcell_open _ _) ?_
      rintro v ⟨a0, c0, rfl⟩
      repeat (refine go rfl ?_)
      refine fin_mark ?_
      exact fin_ret (.tmp rfl .nil) rfl
end Go.Proofs.Ytlgphhknfocfaaa
