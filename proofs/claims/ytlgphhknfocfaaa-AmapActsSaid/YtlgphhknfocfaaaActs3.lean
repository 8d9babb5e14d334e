import Derived.Test.YtlgphhknfocfaaaActs2
namespace Go.Proofs.Ytlgphhknfocfaaa
open Go.Sl

structure Ast where
  i : Nat
  P : Pl
  bs : List (Option Nat)
  cs : List (Option Nat)
theorem drop_le {p : Pl} (h : ∀ id a, p.get id = some a → a.ok) (id lo hi : Int) : (p.drop id lo hi).1.length ≤ 4096 := by
  unfold Pl.drop
  cases hg : p.get id with
  | none => simp
  | some a =>
    have h2 := h id a hg
    have := h2.1; have := h2.2.2.1
    simp only
    split
    · simp
    · rename_i hw
      split
      · simp
      · have hwi : 0 ≤ lo ∧ lo < hi ∧ hi ≤ a.a.length := by
          cases hh : a.within lo hi with
          | false => exact absurd hh hw
          | true => exact of_decide_eq_true hh
        have h3 := (dropG_full a.a (goneC a.c lo hi (-1))).2.1
        have h4 := goneC_len a.c lo hi (-1)
        simp only; omega
theorem copy_le {p : Pl} (h : ∀ id a, p.get id = some a → a.ok) (id lo hi : Int) : (p.copy id lo hi).2.1.length ≤ 4096 := by
  unfold Pl.copy
  cases hg : p.get id with
  | none => simp
  | some a =>
    have h2 := h id a hg
    have := h2.1; have := h2.2.2.1
    simp only
    split
    · simp
    · rename_i hw
      split
      · simp
      · have h3 := usedN_len (Pl.copyA a lo hi).a (Pl.copyA a lo hi).a.length
        have h4 : (Pl.copyA a lo hi).a.length ≤ a.a.length := by simp [Pl.copyA]; omega
        simp only [List.length_map]; omega
theorem bool_slot {x : Int} : some (Value.bool (x == x)) = some (Value.bool true) := by simp
set_option maxRecDepth 8000 in
set_option maxHeartbeats 16000000 in
theorem acts_spec (W : World) (most look : Int) (v : Value) (acts : List Ac) (hv : ActsAt W v acts) :
    Tri Try.prog 4 [.int .i64 most, v, .int .i64 look] [old W] (fun u l => u = .bool true ∧ l = [old W]) := by
  refine tri_intro Try.func4 rfl Try.results4 Try.ntmps4 rfl (by kernel_rfl) fun R => ?_
  repeat (refine go rfl ?_)
  refine SXR.lenSl (n := acts.length) rfl hv.1 ?_
  repeat (refine go rfl ?_)
  refine SXB.split (fun hc => ?_) (fun hc => ?_)
  · repeat (refine go rfl ?_)
    refine SXR.callF lives_spec rfl ?_
    repeat (refine go rfl ?_)
    exact fin_ret (.tmp rfl .nil) ⟨rfl, rfl⟩
  repeat (refine go rfl ?_)
  refine SXR.lenSl (n := acts.length) rfl hv.1 ?_
  repeat (refine go rfl ?_)
  refine SXC.loop (fun i : Nat => i ≤ acts.length) (fun i => [(0, .int .i64 most), (1, v), (2, .int .i64 look), (40, v), (41, .int .i64 acts.length), (42, .int .i64 i)])
    (fun _ => [old W]) (fun i => acts.length - i) 0 (Nat.zero_le _) ⟨rfl, rfl, rfl, rfl, rfl, rfl, trivial⟩ ?_
  intro i hi'
  repeat (refine go rfl ?_)
  refine SXB.split (fun hlt => ?_) (fun hge => ?_)
  · have hil : i < acts.length := by omega
    obtain ⟨a, ha⟩ : ∃ a, acts[i]? = some a := ⟨acts[i], List.getElem?_eq_getElem hil⟩
    repeat (refine go rfl ?_)
    rcases hv.2 (by omega) with ⟨_, h0, _⟩ | ⟨ba, off, cap, vs, T, fr, rfl, hb, hle, hcs⟩
    · omega
    rw [acC_length] at hle hcs
    refine SXR.index (off + i * 4) rfl (by omega) (by omega) (by omega) ?_
    repeat (refine go rfl ?_)
    have hcell : (vs.drop (off + i * 4)).take 4 = Ac.cells a := by
      rw [← acC_take acts i a ha, ← hcs, List.drop_take, List.drop_drop, List.take_take, Nat.min_eq_left (by omega)]
    refine SXL.agg (vs := vs) (T := T) (fr := fr) (n := 4) (fun w hw => old_heap (W := W) hw hb) (by omega) ?_
    rw [hcell]
    repeat (first | refine go rfl ?_ | intro b8)
    refine SXG.split rfl (fun h1 => ?_) (fun h1 => ?_)
    · repeat (refine go rfl ?_)
      refine SXG.split rfl (fun h2 => ?_) (fun h2 => ?_)
      · repeat (refine go rfl ?_)
        refine SXB.split (fun h3 => ?_) (fun h3 => ?_)
        · repeat (refine go rfl ?_)
          refine SXR.callF lives_spec rfl ?_
          repeat (refine go rfl ?_)
          exact fin_ret (.tmp rfl .nil) ⟨rfl, rfl⟩
        · repeat (refine go rfl ?_)
          exact fin_round (i + 1) (by omega) (by omega) ⟨rfl, rfl, rfl, rfl, rfl, by rw [wrap_succ (by omega)], trivial⟩
      · repeat (refine go rfl ?_)
        exact fin_round (i + 1) (by omega) (by omega) ⟨rfl, rfl, rfl, rfl, rfl, by rw [wrap_succ (by omega)], trivial⟩
    · repeat (refine go rfl ?_)
      exact fin_round (i + 1) (by omega) (by omega) ⟨rfl, rfl, rfl, rfl, rfl, by rw [wrap_succ (by omega)], trivial⟩
  clear hge hi'
  repeat (refine go rfl ?_)
  refine SXR.call (pnew_spec most) rfl ?_
  rintro u L' hp
  by_cases hmost : 0 ≤ most ∧ most ≤ 4096
  rotate_left
  · obtain ⟨rfl, rfl⟩ : u = .pointer none ∧ L' = [] := by
      rcases hp with ⟨h1, h2, _⟩ | ⟨_, h⟩
      · exact absurd ⟨h1, h2⟩ hmost
      · exact h
    dsimp only [List.cons_append, List.nil_append]
    repeat (refine go rfl ?_)
    refine SXR.call (Ref.new_spec most) rfl ?_
    rintro u L' (⟨_, rfl, rfl⟩ | ⟨h, _⟩)
    rotate_left
    · omega
    dsimp only [List.cons_append, List.nil_append]
    repeat (refine go rfl ?_)
    rw [show (!(true == true)) = false from rfl]
    repeat (refine go rfl ?_)
    refine SXR.callF lives_spec rfl ?_
    repeat (refine go rfl ?_)
    exact fin_ret (.tmp rfl .nil) ⟨rfl, rfl⟩
  obtain ⟨bp, rfl, rfl⟩ : ∃ bp, u = .pointer (some ⟨bp, 0, none⟩) ∧ L' = [poolB bp ⟨most, []⟩ []] := by
    rcases hp with ⟨h1, h2, h⟩ | ⟨h, _⟩
    · exact h
    · exact absurd hmost h
  dsimp only [List.cons_append, List.nil_append]
  repeat (refine go rfl ?_)
  refine SXR.call (Ref.new_spec most) rfl ?_
  rintro u L' (⟨h, _⟩ | ⟨_, br, rfl, rfl⟩)
  · omega
  dsimp only [List.cons_append, List.nil_append]
  repeat (refine go rfl ?_)
  rw [show (!(false == false)) = false from rfl]
  repeat (refine go rfl ?_)
  refine SXR.lenSl (n := acts.length) rfl hv.1 ?_
  repeat (refine go rfl ?_)
  refine SXC.loop (fun x : Ast => x.i ≤ acts.length) (fun x => [(1, v), (2, .int .i64 look), (9, .pointer (some ⟨bp, 0, none⟩)), (10, .pointer (some ⟨br, 0, none⟩)), (73, v), (74, .int .i64 acts.length), (75, .int .i64 x.i)])
    (fun x => [old W, poolB bp x.P x.bs, Ref.poolB br x.P x.cs]) (fun x => acts.length - x.i) ⟨0, ⟨most, []⟩, [], []⟩ (Nat.zero_le _) ⟨rfl, rfl, rfl, rfl, rfl, rfl, rfl, trivial⟩ ?_

  rintro ⟨i, P, bs, cs⟩ hi'
  dsimp only at hi' ⊢
  repeat (refine go rfl ?_)
  refine SXB.split (fun hlt => ?_) (fun hge => ?_)
  rotate_left
  · repeat (refine go rfl ?_)
    refine SXR.callF lives_spec rfl ?_
    repeat (refine go rfl ?_)
    exact fin_ret (.tmp rfl .nil) ⟨rfl, rfl⟩
  have hil : i < acts.length := by omega
  obtain ⟨a, ha⟩ : ∃ a, acts[i]? = some a := ⟨acts[i], List.getElem?_eq_getElem hil⟩
  repeat (refine go rfl ?_)
  rcases hv.2 (by omega) with ⟨_, h0, _⟩ | ⟨ba, off, cap, vs, T, fr, rfl, hb, hle, hcs⟩
  · omega
  rw [acC_length] at hle hcs
  refine SXR.index (off + i * 4) rfl (by omega) (by omega) (by omega) ?_
  repeat (refine go rfl ?_)
  have hcell : (vs.drop (off + i * 4)).take 4 = Ac.cells a := by
    rw [← acC_take acts i a ha, ← hcs, List.drop_take, List.drop_drop, List.take_take, Nat.min_eq_left (by omega)]
  refine SXL.agg (vs := vs) (T := T) (fr := fr) (n := 4) (fun w hw => old_heap (W := W) hw hb) (by omega) ?_
  rw [hcell]
  iterate 12 (first | refine go rfl ?_ | intro b12)
  refine SXC.factP (poolB bp P bs) pool_len (fun hall => ?_)
  refine SXC.cut R (fun _ : Ast => True) (fun y => [(1, .slice (some ⟨ba, off, none⟩) acts.length cap), (2, .int .i64 look), (9, .pointer (some ⟨bp, 0, none⟩)), (10, .pointer (some ⟨br, 0, none⟩)), (12, .pointer (some ⟨b12, 0, none⟩)), (13, .bool true), (73, .slice (some ⟨ba, off, none⟩) acts.length cap), (74, .int .i64 acts.length), (75, .int .i64 i)])
    (fun y => [pts b12 (.cells [.int .i64 a.kind, .int .i64 a.id, .int .i64 a.lo, .int .i64 a.hi].toArray 32 (0, 0)), old W, poolB bp y.P y.bs, Ref.poolB br y.P y.cs]) ?_ ?_
  · repeat (refine go rfl ?_)
    refine SXB.split (fun hk0 => ?_) (fun hk0 => ?_)
    · repeat (refine go rfl ?_)
      refine SXR.call (make_spec bp P bs a.hi) rfl ?_
      rintro v1 L' ⟨bs', rfl, rfl, _⟩
      dsimp only [List.cons_append, List.nil_append]
      repeat (refine go rfl ?_)
      refine SXR.call (Ref.make_spec br P cs a.hi) rfl ?_
      rintro v1 L' ⟨cs', rfl, rfl, _⟩
      dsimp only [List.cons_append, List.nil_append]
      repeat (refine go rfl ?_)

      refine SXG.split rfl (fun _ => ?_) (fun h => by exact absurd rfl h)
      repeat (refine go rfl ?_)
      exact fin_cut ⟨i, (P.make a.hi).2.2, bs', cs'⟩ trivial ⟨rfl, rfl, rfl, rfl, rfl, bool_slot, rfl, rfl, rfl, trivial⟩
    repeat (refine go rfl ?_)
    refine SXB.split (fun hk1 => ?_) (fun hk1 => ?_)
    · repeat (refine go rfl ?_)
      refine SXR.callF (set_spec bp P bs a.id a.lo a.hi) rfl ?_
      repeat (refine go rfl ?_)
      refine SXR.callF (Ref.set_spec br P cs a.id a.lo a.hi) rfl ?_
      repeat (refine go rfl ?_)
      refine SXG.split rfl (fun _ => ?_) (fun h => by exact absurd rfl h)
      repeat (refine go rfl ?_)
      exact fin_cut ⟨i, (P.set a.id a.lo a.hi).2.2, bs, cs⟩ trivial ⟨rfl, rfl, rfl, rfl, rfl, bool_slot, rfl, rfl, rfl, trivial⟩
    repeat (refine go rfl ?_)
    refine SXB.split (fun hk2 => ?_) (fun hk2 => ?_)
    · repeat (refine go rfl ?_)
      refine SXC.draw [pts b12 (.cells [.int .i64 a.kind, .int .i64 a.id, .int .i64 a.lo, .int .i64 a.hi].toArray 32 (0, 0))] (by kernel_rfl) ?_
      refine SXE.quiet 0 rfl rfl rfl (fun X => by (repeat (refine go rfl ?_)); exact fin_qs rfl) ?_
      refine SXE.quiet 1 rfl rfl rfl (fun X => by (repeat (refine go rfl ?_)); exact fin_qs rfl) ?_
      refine SXE.quiet 2 rfl rfl rfl (fun X => by (repeat (refine go rfl ?_)); exact fin_qs rfl) ?_
      refine SXE.quiet 3 rfl rfl rfl (fun X => by (repeat (refine go rfl ?_)); exact fin_qs rfl) ?_
      refine SXE.quiet 4 rfl rfl rfl (fun X => by (repeat (refine go rfl ?_)); exact fin_qs rfl) ?_
      refine SXE.quiet 5 rfl rfl rfl (fun X => by (repeat (refine go rfl ?_)); exact fin_qs rfl) ?_
      refine SXE.quiet 6 rfl rfl rfl (fun X => by (repeat (refine go rfl ?_)); exact fin_qs rfl) ?_
      refine SXE.quiet 8 rfl rfl rfl (fun X => by (repeat (refine go rfl ?_)); exact fin_qs rfl) ?_
      refine SXE.quiet 9 rfl rfl rfl (fun X => by (repeat (refine go rfl ?_)); exact fin_qs rfl) ?_
      refine SXE.quiet 10 rfl rfl rfl (fun X => by (repeat (refine go rfl ?_)); exact fin_qs rfl) ?_
      refine SXE.quiet 11 rfl rfl rfl (fun X => by (repeat (refine go rfl ?_)); exact fin_qs rfl) ?_
      refine SXE.quiet 12 rfl rfl rfl (fun X => by (repeat (refine go rfl ?_)); exact fin_qs rfl) ?_
      refine SXE.quiet 13 rfl rfl rfl (fun X => by (repeat (refine go rfl ?_)); exact fin_qs rfl) ?_
      refine SXE.quiet 14 rfl rfl rfl (fun X => by (repeat (refine go rfl ?_)); exact fin_qs rfl) ?_
      refine SXE.one 7 rfl rfl rfl ?_
      repeat (refine go rfl ?_)
      refine SXR.callF (hold_spec bp P bs a.id a.lo a.hi) rfl ?_
      repeat (refine go rfl ?_)
      refine fin_qeP rfl ?_
      refine SXE.one 15 rfl rfl rfl ?_
      repeat (refine go rfl ?_)
      refine SXR.callF (Ref.hold_spec br P cs a.id a.lo a.hi) rfl ?_
      repeat (refine go rfl ?_)
      refine fin_qeP rfl ?_
      refine SXE.quiet 16 rfl rfl rfl (fun X => by (repeat (refine go rfl ?_)); exact fin_qs rfl) ?_
      refine SXE.quiet 17 rfl rfl rfl (fun X => by (repeat (refine go rfl ?_)); exact fin_qs rfl) ?_
      refine SXE.done rfl ?_
      repeat (refine go rfl ?_)
      exact fin_cut ⟨i, (P.hold a.id a.lo a.hi).2, bs, cs⟩ trivial ⟨rfl, rfl, rfl, rfl, rfl, bool_slot, rfl, rfl, rfl, trivial⟩
    repeat (refine go rfl ?_)
    refine SXB.split (fun hk3 => ?_) (fun hk3 => ?_)
    · repeat (refine go rfl ?_)
      refine SXR.call (drop_spec bp P bs a.id a.lo a.hi) rfl ?_
      rintro v1 L' ⟨w1, bs', rfl, rfl⟩
      dsimp only [List.cons_append, List.nil_append]
      repeat (refine go rfl ?_)
      refine SXR.call (Ref.drop_spec br P cs a.id a.lo a.hi) rfl ?_
      rintro v1 L' ⟨w2, cs', rfl, rfl⟩
      dsimp only [List.cons_append, List.nil_append]
      repeat (refine go rfl ?_)
      refine SXR.callF (ints_spec w1 w2 (P.drop a.id a.lo a.hi).1 (P.drop a.id a.lo a.hi).1 (by have := drop_le hall a.id a.lo a.hi; omega)) rfl ?_
      repeat (refine go rfl ?_)
      refine SXG.split rfl (fun _ => ?_) (fun h => by exact absurd rfl h)
      repeat (refine go rfl ?_)
      exact fin_cut ⟨i, (P.drop a.id a.lo a.hi).2.2, bs', cs'⟩ trivial ⟨rfl, rfl, rfl, rfl, rfl, bool_slot, rfl, rfl, rfl, trivial⟩
    repeat (refine go rfl ?_)
    refine SXB.split (fun hk4 => ?_) (fun hk4 => ?_)
    · repeat (refine go rfl ?_)
      refine SXR.call (copy_spec bp P bs a.id a.lo a.hi) rfl ?_
      rintro v1 L' ⟨w1, bs', rfl, rfl⟩
      dsimp only [List.cons_append, List.nil_append]
      repeat (refine go rfl ?_)
      refine SXR.call (Ref.copy_spec br P cs a.id a.lo a.hi) rfl ?_
      rintro v1 L' ⟨w2, cs', rfl, rfl⟩
      dsimp only [List.cons_append, List.nil_append]
      repeat (refine go rfl ?_)
      refine SXG.split rfl (fun _ => ?_) (fun h => by exact absurd rfl h)
      repeat (refine go rfl ?_)
      refine SXR.callF (ints_spec w1 w2 (P.copy a.id a.lo a.hi).2.1 (P.copy a.id a.lo a.hi).2.1 (by have := copy_le hall a.id a.lo a.hi; omega)) rfl ?_
      repeat (refine go rfl ?_)
      refine SXG.split rfl (fun _ => ?_) (fun h => by exact absurd rfl h)
      repeat (refine go rfl ?_)
      exact fin_cut ⟨i, (P.copy a.id a.lo a.hi).2.2.2, bs', cs'⟩ trivial ⟨rfl, rfl, rfl, rfl, rfl, bool_slot, rfl, rfl, rfl, trivial⟩
    repeat (refine go rfl ?_)
    exact fin_cut ⟨i, P, bs, cs⟩ trivial ⟨rfl, rfl, rfl, rfl, rfl, rfl, rfl, rfl, rfl, trivial⟩
  clear hall
  rintro ⟨_, P', bs', cs'⟩ -
  dsimp only
  refine SXC.factP (poolB bp P' bs') pool_len (fun hall => ?_)
  have hul := used_le hall a.id
  iterate 6 (refine go rfl ?_)
  refine SXC.cut R (fun _ : Value => True) (fun y => [(1, .slice (some ⟨ba, off, none⟩) acts.length cap), (2, .int .i64 look), (9, .pointer (some ⟨bp, 0, none⟩)), (10, .pointer (some ⟨br, 0, none⟩)), (12, .pointer (some ⟨b12, 0, none⟩)), (13, .bool true), (73, .slice (some ⟨ba, off, none⟩) acts.length cap), (74, .int .i64 acts.length), (75, .int .i64 i), (32, y)])
    (fun y => [pts b12 (.cells [.int .i64 a.kind, .int .i64 a.id, .int .i64 a.lo, .int .i64 a.hi].toArray 32 (0, 0)), old W, poolB bp P' bs', Ref.poolB br P' cs', vec y (wantL look (P'.used a.id)).length 1 3 ((wantL look (P'.used a.id)).map intC)]) ?_ ?_
  · repeat (refine go rfl ?_)
    refine SXR.callF (Ref.of_spec br P' cs' a.id) rfl ?_
    cases h : P'.get a.id with
    | none =>
      refine SXR.facts (Ref.pool_none h) (fun hp => ?_)
      rw [hp, show P'.used a.id = [] by simp [Pl.used, h]]
      repeat (refine go rfl ?_)
      refine Fin.ent (big_add (A := vec (.slice none 0 0) (wantL look []).length 1 3 ((wantL look []).map intC)) vec_nil) ?_
      exact fin_cut (.slice none 0 0) trivial ⟨rfl, rfl, rfl, rfl, rfl, rfl, rfl, rfl, rfl, rfl, trivial⟩
    | some x =>
      rw [show P'.used a.id = usedN x.a x.a.length by simp [Pl.used, h]]
      refine SXR.open (Ref.poolB br P' cs') (Ref.pool_open br P' cs' a.id x h) ?_
      intro b hb
      rw [hb.2]
      refine SXR.open (Ref.oneH b x) (Ref.oneH_open b x) ?_
      rintro ⟨bc, v⟩ hok
      dsimp only
      have hal := hok.1
      have hal2 := hok.2.2.1
      repeat (refine go rfl ?_)
      refine SXR.lenRd (n := x.a.length) (cs := x.a.map intC) rfl (fun w hw => RdS.of_vec (sz := 1) (T := 3) hw) ?_
      repeat (refine go rfl ?_)
      refine SXC.ent (big_add (A := vec (0, Value.slice none 0 0).2 (wantL look (usedN x.a (0, Value.slice none 0 0).1)).length 1 3 ((wantL look (usedN x.a (0, Value.slice none 0 0).1)).map intC)) vec_nil) ?_
      refine SXC.loop (fun y : Nat × Value => y.1 ≤ x.a.length) (fun y => [(1, .slice (some ⟨ba, off, none⟩) acts.length cap), (2, .int .i64 look), (9, .pointer (some ⟨bp, 0, none⟩)), (10, .pointer (some ⟨br, 0, none⟩)), (12, .pointer (some ⟨b12, 0, none⟩)), (13, .bool true), (73, .slice (some ⟨ba, off, none⟩) acts.length cap), (74, .int .i64 acts.length), (75, .int .i64 i), (32, y.2), (236, v), (237, .int .i64 x.a.length), (238, .int .i64 y.1)])
        (fun y => [vec y.2 (wantL look (usedN x.a y.1)).length 1 3 ((wantL look (usedN x.a y.1)).map intC), vec v x.a.length 1 3 (x.a.map intC)]) (fun y => x.a.length - y.1) (0, .slice none 0 0) (Nat.zero_le _) ⟨rfl, rfl, rfl, rfl, rfl, rfl, rfl, rfl, rfl, rfl, rfl, rfl, rfl, trivial⟩ ?_
      rintro ⟨n, y⟩ hn
      dsimp only at hn ⊢
      refine SXC.factP (vec y (wantL look (usedN x.a n)).length 1 3 ((wantL look (usedN x.a n)).map intC)) vec_is ?_
      rintro ⟨a0, c0, rfl⟩
      repeat (refine go rfl ?_)
      refine SXB.split (fun hlt => ?_) (fun hge => ?_)
      · have hnl : n < x.a.length := by omega
        have hst := want_used (look := look) (a := x.a) (i := n)
        have hwl : (wantL look (usedN x.a n)).length ≤ 0 + 2 * (usedN x.a n).length := want_len (look := look) (usedN x.a n) []
        have hul2 := usedN_len x.a n
        have hnn := Ref.gf_nn hok.2.2.2 n
        refine SXC.vec (v := v) (n := x.a.length) (sz := 1) (T := 3) (cs := x.a.map intC) (fun _ h _ => absurd h (by omega)) ?_
        rintro bv cap2 sp rfl hcap2 hsp hl
        repeat (refine go rfl ?_)
        refine SXR.index n rfl (by omega) (by omega) (by omega) ?_
        repeat (refine go rfl ?_)
        refine SXL.row (ints_get sp hnl) ?_
        repeat (refine go rfl ?_)
        refine SXG.split rfl (fun h1 => ?_) (fun h1 => ?_)
        · rw [if_pos (by omega)] at hst
          repeat (refine go rfl ?_)
          refine SXG.split rfl (fun h2 => ?_) (fun h2 => ?_)
          · have hs : ¬ wst look (wantL look (usedN x.a n)).length = true := fun h => by have := (of_decide_eq_true h).1; omega
            rw [wantS, if_neg hs] at hst
            generalize wantL look (usedN x.a n) = g at hwl hst ⊢
            repeat (first | refine go rfl ?_ | intro bx)
            refine SXR.append (n := g.length) (m := 2) (sz := 1) (e := 3) (ys := [intC n, intC (gf x.a n)]) rfl (pk (vec (.slice a0 g.length c0) g.length 1 3 (g.map intC))) rfl (fun w hw => RdS.of_pts (b := bx) (off := 0) (vs := [intC n, intC (gf x.a n)]) (T := 3) (fr := (0, 0)) (Nat.le_refl 2) rfl hw) rfl (by simp [Value.oneCell']) (by omega) (by omega) fun y' => ?_
            rw [show g.map intC ++ [intC n, intC (gf x.a n)] = (wantL look (usedN x.a (n + 1))).map intC by rw [hst]; simp, show g.length + 2 = (wantL look (usedN x.a (n + 1))).length by rw [hst]; simp]
            repeat (refine go rfl ?_)
            refine Fin.shutB _ bv (vec_shut (T := 3) hl hcap2 hsp) ?_
            exact fin_round (n + 1, y') (by dsimp only; omega) (by dsimp only; omega) ⟨rfl, rfl, rfl, rfl, rfl, rfl, rfl, rfl, rfl, rfl, rfl, rfl, by rw [wrap_succ (by omega)], trivial⟩
          · repeat (refine go rfl ?_)
            refine SXB.split (fun h3 => ?_) (fun h3 => ?_)
            · have hs : ¬ wst look (wantL look (usedN x.a n)).length = true := fun h => by have := (of_decide_eq_true h).2; omega
              rw [wantS, if_neg hs] at hst
              generalize wantL look (usedN x.a n) = g at hwl hst ⊢
              repeat (first | refine go rfl ?_ | intro bx)
              refine SXR.append (n := g.length) (m := 2) (sz := 1) (e := 3) (ys := [intC n, intC (gf x.a n)]) rfl (pk (vec (.slice a0 g.length c0) g.length 1 3 (g.map intC))) rfl (fun w hw => RdS.of_pts (b := bx) (off := 0) (vs := [intC n, intC (gf x.a n)]) (T := 3) (fr := (0, 0)) (Nat.le_refl 2) rfl hw) rfl (by simp [Value.oneCell']) (by omega) (by omega) fun y' => ?_
              rw [show g.map intC ++ [intC n, intC (gf x.a n)] = (wantL look (usedN x.a (n + 1))).map intC by rw [hst]; simp, show g.length + 2 = (wantL look (usedN x.a (n + 1))).length by rw [hst]; simp]
              repeat (refine go rfl ?_)
              refine Fin.shutB _ bv (vec_shut (T := 3) hl hcap2 hsp) ?_
              exact fin_round (n + 1, y') (by dsimp only; omega) (by dsimp only; omega) ⟨rfl, rfl, rfl, rfl, rfl, rfl, rfl, rfl, rfl, rfl, rfl, rfl, by rw [wrap_succ (by omega)], trivial⟩
            · have hs : wst look (wantL look (usedN x.a n)).length = true := decide_eq_true ⟨by omega, by omega⟩
              rw [wantS, if_pos hs] at hst
              rw [← hst]
              repeat (refine go rfl ?_)
              refine Fin.shutB _ bv (vec_shut (T := 3) hl hcap2 hsp) ?_
              exact fin_round (n + 1, .slice a0 (wantL look (usedN x.a (n + 1))).length c0) (by dsimp only; omega) (by dsimp only; omega) ⟨rfl, rfl, rfl, rfl, rfl, rfl, rfl, rfl, rfl, rfl, rfl, rfl, by rw [wrap_succ (by omega)], trivial⟩
        · rw [if_neg (by omega)] at hst
          rw [← hst]
          repeat (first | refine go rfl ?_ | refine SXR.skipU rfl ?_)
          refine Fin.shutB _ bv (vec_shut (T := 3) hl hcap2 hsp) ?_
          exact fin_round (n + 1, .slice a0 (wantL look (usedN x.a (n + 1))).length c0) (by dsimp only; omega) (by dsimp only; omega) ⟨rfl, rfl, rfl, rfl, rfl, rfl, rfl, rfl, rfl, rfl, rfl, rfl, by rw [wrap_succ (by omega)], trivial⟩
      · obtain rfl : n = x.a.length := by omega
        repeat (refine go rfl ?_)
        refine Fin.shut _ (Ref.oneH_shut b x bc v hok) ?_
        refine Fin.shut _ (Ref.pool_same br P' cs' a.id b x h hb) ?_
        exact fin_cut (.slice a0 (wantL look (usedN x.a x.a.length)).length c0) trivial ⟨rfl, rfl, rfl, rfl, rfl, rfl, rfl, rfl, rfl, rfl, trivial⟩
  rintro y -
  refine SXC.factP (poolB bp P' bs') pool_okf (fun hpo => ?_)
  have hidl := idsU_len (P'.l.map Option.isNone) P'.l.length
  have hwl : (wantL look (P'.used a.id)).length ≤ 0 + 2 * (P'.used a.id).length := want_len (look := look) (P'.used a.id) []
  have hpl : P'.l.length ≤ 4096 := by have := hpo.1; have := hpo.2; omega
  repeat (refine go rfl ?_)
  refine SXC.draw [pts b12 (.cells [.int .i64 a.kind, .int .i64 a.id, .int .i64 a.lo, .int .i64 a.hi].toArray 32 (0, 0)), poolB bp P' bs', Ref.poolB br P' cs', vec y (wantL look (P'.used a.id)).length 1 3 ((wantL look (P'.used a.id)).map intC)] (by kernel_rfl) ?_
  refine SXE.quiet 0 rfl rfl rfl (fun X => by (repeat (refine go rfl ?_)); exact fin_qs rfl) ?_
  refine SXE.quiet 1 rfl rfl rfl (fun X => by (repeat (refine go rfl ?_)); exact fin_qs rfl) ?_
  refine SXE.quiet 2 rfl rfl rfl (fun X => by (repeat (refine go rfl ?_)); exact fin_qs rfl) ?_
  refine SXE.quiet 3 rfl rfl rfl (fun X => by (repeat (refine go rfl ?_)); exact fin_qs rfl) ?_
  refine SXE.quiet 4 rfl rfl rfl (fun X => by (repeat (refine go rfl ?_)); exact fin_qs rfl) ?_
  refine SXE.quiet 5 rfl rfl rfl (fun X => by (repeat (refine go rfl ?_)); exact fin_qs rfl) ?_
  refine SXE.quiet 6 rfl rfl rfl (fun X => by (repeat (refine go rfl ?_)); refine SXR.callF (slots_spec bp P' bs' a.id) rfl ?_; (repeat (refine go rfl ?_)); exact fin_qsP rfl) ?_
  refine SXE.quiet 7 rfl rfl rfl (fun X => by (repeat (refine go rfl ?_)); exact fin_qs rfl) ?_
  refine SXE.quiet 8 rfl rfl rfl (fun X => by (repeat (refine go rfl ?_)); exact fin_qs rfl) ?_
  refine SXE.quiet 9 rfl rfl rfl (fun X => by (repeat (refine go rfl ?_)); exact fin_qs rfl) ?_
  refine SXE.quiet 10 rfl rfl rfl (fun X => by (repeat (refine go rfl ?_)); refine SXR.callF (Ref.slots_spec br P' cs' a.id) rfl ?_; (repeat (refine go rfl ?_)); exact fin_qsP rfl) ?_
  refine SXE.quiet 11 rfl rfl rfl (fun X => by (repeat (refine go rfl ?_)); exact fin_qs rfl) ?_
  rw [show (!(P'.slots a.id == P'.slots a.id)) = false by simp]
  refine SXE.quiet 12 rfl rfl rfl (fun X => by (repeat (refine go rfl ?_)); exact fin_qs rfl) ?_
  refine SXE.quiet 13 rfl rfl rfl (fun X => by (repeat (refine go rfl ?_)); exact fin_qs rfl) ?_
  refine SXE.quiet 14 rfl rfl rfl (fun X => by (repeat (refine go rfl ?_)); exact fin_qs rfl) ?_
  refine SXE.quiet 15 rfl rfl rfl (fun X => by (repeat (refine go rfl ?_)); exact fin_qs rfl) ?_
  refine SXE.quiet 16 rfl rfl rfl (fun X => by (repeat (refine go rfl ?_)); exact fin_qs rfl) ?_
  refine SXE.quiet 17 rfl rfl rfl (fun X => by (repeat (refine go rfl ?_)); exact fin_qs rfl) ?_
  refine SXE.quiet 18 rfl rfl rfl (fun X => by (repeat (refine go rfl ?_)); exact fin_qs rfl) ?_
  refine SXE.quiet 19 rfl rfl rfl (fun X => by (repeat (refine go rfl ?_)); refine SXR.callF (cover_spec bp P' bs' a.id a.lo) rfl ?_; (repeat (refine go rfl ?_)); exact fin_qsP rfl) ?_
  refine SXE.quiet 20 rfl rfl rfl (fun X => by (repeat (refine go rfl ?_)); exact fin_qs rfl) ?_
  refine SXE.quiet 21 rfl rfl rfl (fun X => by (repeat (refine go rfl ?_)); exact fin_qs rfl) ?_
  refine SXE.quiet 22 rfl rfl rfl (fun X => by (repeat (refine go rfl ?_)); exact fin_qs rfl) ?_
  refine SXE.quiet 23 rfl rfl rfl (fun X => by (repeat (refine go rfl ?_)); exact fin_qs rfl) ?_
  refine SXE.quiet 24 rfl rfl rfl (fun X => by (repeat (refine go rfl ?_)); exact fin_qs rfl) ?_
  refine SXE.quiet 25 rfl rfl rfl (fun X => by (repeat (refine go rfl ?_)); refine SXR.callF (Ref.cover_spec br P' cs' a.id a.lo) rfl ?_; (repeat (refine go rfl ?_)); exact fin_qsP rfl) ?_
  refine SXE.quiet 26 rfl rfl rfl (fun X => by (repeat (refine go rfl ?_)); exact fin_qs rfl) ?_
  rw [show (!(P'.cover a.id a.lo == P'.cover a.id a.lo)) = false by simp]
  refine SXE.quiet 27 rfl rfl rfl (fun X => by (repeat (refine go rfl ?_)); exact fin_qs rfl) ?_
  refine SXE.quiet 28 rfl rfl rfl (fun X => by (repeat (refine go rfl ?_)); exact fin_qs rfl) ?_
  refine SXE.quiet 29 rfl rfl rfl (fun X => by (repeat (refine go rfl ?_)); exact fin_qs rfl) ?_
  refine SXE.quiet 30 rfl rfl rfl (fun X => by (repeat (refine go rfl ?_)); exact fin_qs rfl) ?_
  refine SXE.quiet 31 rfl rfl rfl (fun X => by (repeat (refine go rfl ?_)); exact fin_qs rfl) ?_
  refine SXE.quiet 32 rfl rfl rfl (fun X => by (repeat (refine go rfl ?_)); exact fin_qs rfl) ?_
  refine SXE.quiet 33 rfl rfl rfl (fun X => by (repeat (refine go rfl ?_)); exact fin_qs rfl) ?_
  refine SXE.quiet 34 rfl rfl rfl (fun X => by (repeat (refine go rfl ?_)); refine SXR.callF (get_spec bp P' bs' a.id a.lo) rfl ?_; (repeat (refine go rfl ?_)); exact fin_qsP rfl) ?_
  refine SXE.quiet 35 rfl rfl rfl (fun X => by (repeat (refine go rfl ?_)); exact fin_qs rfl) ?_
  refine SXE.quiet 36 rfl rfl rfl (fun X => by (repeat (refine go rfl ?_)); exact fin_qs rfl) ?_
  refine SXE.quiet 37 rfl rfl rfl (fun X => by (repeat (refine go rfl ?_)); exact fin_qs rfl) ?_
  refine SXE.quiet 38 rfl rfl rfl (fun X => by (repeat (refine go rfl ?_)); exact fin_qs rfl) ?_
  refine SXE.quiet 39 rfl rfl rfl (fun X => by (repeat (refine go rfl ?_)); exact fin_qs rfl) ?_
  refine SXE.quiet 40 rfl rfl rfl (fun X => by (repeat (refine go rfl ?_)); refine SXR.callF (Ref.get_spec br P' cs' a.id a.lo) rfl ?_; (repeat (refine go rfl ?_)); exact fin_qsP rfl) ?_
  refine SXE.quiet 41 rfl rfl rfl (fun X => by (repeat (refine go rfl ?_)); exact fin_qs rfl) ?_
  rw [show (!(P'.at a.id a.lo == P'.at a.id a.lo)) = false by simp]
  refine SXE.quiet 42 rfl rfl rfl (fun X => by (repeat (refine go rfl ?_)); exact fin_qs rfl) ?_
  refine SXE.quiet 43 rfl rfl rfl (fun X => by (repeat (refine go rfl ?_)); exact fin_qs rfl) ?_
  refine SXE.quiet 44 rfl rfl rfl (fun X => by (repeat (refine go rfl ?_)); exact fin_qs rfl) ?_
  refine SXE.quiet 46 rfl rfl rfl (fun X => by (repeat (refine go rfl ?_)); exact fin_qs rfl) ?_
  refine SXE.one 45 rfl rfl rfl ?_
  repeat (refine go rfl ?_)
  refine SXR.call (ids_spec bp P' bs') rfl ?_
  rintro u1 L' rfl
  dsimp only [List.cons_append, List.nil_append]
  repeat (refine go rfl ?_)
  refine fin_qeP rfl ?_
  refine SXE.one 47 rfl rfl rfl ?_
  repeat (refine go rfl ?_)
  refine SXR.call (Ref.ids_spec br P' cs') rfl ?_
  rintro u2 L' rfl
  dsimp only [List.cons_append, List.nil_append]
  repeat (refine go rfl ?_)
  refine fin_qeP rfl ?_
  refine SXE.one 48 rfl rfl rfl ?_
  repeat (refine go rfl ?_)
  refine SXR.callF (ints_spec u1 u2 P'.ids P'.ids (by show (idsU _ _).length ≤ _; omega)) rfl ?_
  repeat (refine go rfl ?_)
  refine fin_qeP rfl ?_
  rw [show decide (P'.ids = P'.ids) = true by simp]
  refine SXE.quiet 49 rfl rfl rfl (fun X => by (repeat (refine go rfl ?_)); exact fin_qs rfl) ?_
  refine SXE.quiet 50 rfl rfl rfl (fun X => by (repeat (refine go rfl ?_)); exact fin_qs rfl) ?_
  refine SXE.quiet 51 rfl rfl rfl (fun X => by (repeat (refine go rfl ?_)); exact fin_qs rfl) ?_
  refine SXE.quiet 52 rfl rfl rfl (fun X => by (repeat (refine go rfl ?_)); exact fin_qs rfl) ?_
  refine SXE.quiet 53 rfl rfl rfl (fun X => by (repeat (refine go rfl ?_)); exact fin_qs rfl) ?_
  refine SXE.quiet 54 rfl rfl rfl (fun X => by (repeat (refine go rfl ?_)); exact fin_qs rfl) ?_
  refine SXE.quiet 55 rfl rfl rfl (fun X => by (repeat (refine go rfl ?_)); exact fin_qs rfl) ?_
  refine SXE.quiet 57 rfl rfl rfl (fun X => by (repeat (refine go rfl ?_)); exact fin_qs rfl) ?_
  refine SXE.one 56 rfl rfl rfl ?_
  repeat (refine go rfl ?_)
  refine SXR.call (lused_spec bp P' bs' a.id look) rfl ?_
  rintro u3 L' rfl
  dsimp only [List.cons_append, List.nil_append]
  repeat (refine go rfl ?_)
  refine fin_qeP rfl ?_
  refine SXE.one 58 rfl rfl rfl ?_
  repeat (refine go rfl ?_)
  refine SXR.callF (ints_spec u3 y (wantL look (P'.used a.id)) (wantL look (P'.used a.id)) (by omega)) rfl ?_
  repeat (refine go rfl ?_)
  refine fin_qeP rfl ?_
  rw [show decide ((wantL look (P'.used a.id)) = (wantL look (P'.used a.id))) = true by simp]
  refine SXE.quiet 59 rfl rfl rfl (fun X => by (repeat (refine go rfl ?_)); exact fin_qs rfl) ?_
  refine SXE.quiet 60 rfl rfl rfl (fun X => by (repeat (refine go rfl ?_)); exact fin_qs rfl) ?_
  refine SXE.done rfl ?_
  repeat (refine go rfl ?_)
  exact fin_round ⟨i + 1, P', bs', cs'⟩ (by dsimp only; omega) (by dsimp only; omega) ⟨rfl, rfl, rfl, rfl, rfl, rfl, by rw [wrap_succ (by omega)], trivial⟩
end Go.Proofs.Ytlgphhknfocfaaa
