import Derived.Test.YtlgphhknfocfaaaRef4
namespace Go.Proofs.Ytlgphhknfocfaaa.Ref
open Go.Sl

theorem gf_sub {l : List Int} {o k m : Nat} (hm : m < k) (h : o + k ≤ l.length) : gf ((l.drop o).take k) m = gf l ((o + m : Nat) : Int) := by
  have h1 : m < ((l.drop o).take k).length := by simp; omega
  rw [gf_get h1, gf_get (show o + m < l.length by omega)]
  simp
theorem cur_set {l : List Int} {o k m : Nat} (hm : m < k) (h : o + k ≤ l.length) : ((l.drop o).take m ++ List.replicate (k - m) 0).set m (gf l ((o + m : Nat) : Int)) = (l.drop o).take (m + 1) ++ List.replicate (k - (m + 1)) 0 := by
  have h1 : ((l.drop o).take m).length = m := by simp; omega
  rw [List.set_append_right _ _ (by omega), h1, Nat.sub_self, show k - m = (k - (m + 1)) + 1 by omega, List.replicate_succ, List.set_cons_zero, List.take_add_one, List.getElem?_drop, List.getElem?_eq_getElem (by omega), gf_get (by omega)]
  simp
theorem outs_succ (a : List Int) (i : Nat) : (usedN a (i + 1)).map (·.2) = (usedN a i).map (·.2) ++ (if 0 < gf a i then [gf a i] else []) := by
  rw [usedN_succ]; split <;> simp
theorem gf_nn {l : List Int} (h : ∀ x ∈ l, 0 ≤ x) (i : Nat) : 0 ≤ gf l i := by
  by_cases hi : i < l.length
  · exact h _ (gf_in (by omega) (by omega))
  · unfold gf; rw [Int.toNat_natCast, List.getD_eq_getElem?_getD, List.getElem?_eq_none (by omega)]; exact Int.le_refl 0
set_option maxRecDepth 4000 in
set_option maxHeartbeats 4000000 in
theorem copy_spec (bp : Nat) (p : Pl) (bs : List (Option Nat)) (id lo hi : Int) : Tri Try.prog 22 [.pointer (some ⟨bp, 0, none⟩), .int .i64 id, .int .i64 lo, .int .i64 hi] [poolB bp p bs]
    (fun u l => ∃ v bs', u = .tuple #[.int .i64 (p.copy id lo hi).1, v, .int .i64 (p.copy id lo hi).2.2.1] ∧ l = [poolB bp (p.copy id lo hi).2.2.2 bs', vec v (p.copy id lo hi).2.1.length 1 3 ((p.copy id lo hi).2.1.map intC)]) := by
  refine tri_intro Try.func22 rfl Try.results22 Try.ntmps22 rfl (by kernel_rfl) fun R => ?_
  repeat (refine go rfl ?_)
  refine SXR.callF (of_spec bp p bs id) rfl ?_
  cases h : p.get id with
  | none =>
    refine SXR.facts (pool_none h) (fun hp => ?_)
    have hs : p.copy id lo hi = (0, [], 7, p) := by simp [Pl.copy, h]
    rw [hp, hs]
    repeat (refine go rfl ?_)
    refine Fin.ent (big_add (A := vec (.slice none 0 0) ([] : List Int).length 1 3 (([] : List Int).map intC)) vec_nil) ?_
    exact fin_ret (.tmp rfl (.tmp rfl (.tmp rfl .nil))) ⟨_, bs, rfl, rfl⟩
  | some a =>
    refine SXR.facts (pool_at h) ?_
    rintro ⟨_, hok⟩
    have hal := hok.1
    have hal2 := hok.2.2.1
    refine SXR.open (poolB bp p bs) (pool_open bp p bs id a h) ?_
    intro b hb
    rw [hb.2]
    refine SXR.open (oneH b a) (oneH_open b a) ?_
    rintro ⟨bc, v⟩ _
    dsimp only
    have hbad2 : a.within lo hi = false → p.copy id lo hi = (0, [], 2, p) := fun hw => by simp [Pl.copy, h, hw]
    repeat (refine go rfl ?_)
    refine SXG.split rfl (fun h1 => ?_) (fun h1 => ?_)
    · rw [hbad2 (decide_eq_false (by omega))]
      repeat (refine go rfl ?_)
      refine Fin.ent (big_add (A := vec (.slice none 0 0) ([] : List Int).length 1 3 (([] : List Int).map intC)) vec_nil) ?_
      refine Fin.shut _ (oneH_shut b a bc v hok) ?_
      refine Fin.shut _ (pool_same bp p bs id b a h hb) ?_
      exact fin_ret (.tmp rfl (.tmp rfl (.tmp rfl .nil))) ⟨_, bs, rfl, rfl⟩
    repeat (refine go rfl ?_)
    refine SXG.split rfl (fun h2 => ?_) (fun h2 => ?_)
    · rw [hbad2 (decide_eq_false (by omega))]
      repeat (refine go rfl ?_)
      refine Fin.ent (big_add (A := vec (.slice none 0 0) ([] : List Int).length 1 3 (([] : List Int).map intC)) vec_nil) ?_
      refine Fin.shut _ (oneH_shut b a bc v hok) ?_
      refine Fin.shut _ (pool_same bp p bs id b a h hb) ?_
      exact fin_ret (.tmp rfl (.tmp rfl (.tmp rfl .nil))) ⟨_, bs, rfl, rfl⟩
    repeat (refine go rfl ?_)
    refine SXR.lenRd (n := a.a.length) (cs := a.a.map intC) rfl (fun w hw => RdS.of_vec (sz := 1) (T := 3) hw) ?_
    repeat (refine go rfl ?_)
    refine SXB.split (fun h3 => ?_) (fun h3 => ?_)
    · rw [hbad2 (decide_eq_false (by omega))]
      repeat (refine go rfl ?_)
      refine Fin.ent (big_add (A := vec (.slice none 0 0) ([] : List Int).length 1 3 (([] : List Int).map intC)) vec_nil) ?_
      refine Fin.shut _ (oneH_shut b a bc v hok) ?_
      refine Fin.shut _ (pool_same bp p bs id b a h hb) ?_
      exact fin_ret (.tmp rfl (.tmp rfl (.tmp rfl .nil))) ⟨_, bs, rfl, rfl⟩
    have hw : a.within lo hi = true := decide_eq_true (by omega)
    have hwi : 0 ≤ lo ∧ lo < hi ∧ hi ≤ a.a.length := by omega
    clear hbad2
    refine SXC.shut _ (oneH_shut b a bc v hok) ?_
    refine SXC.shut _ (pool_same bp p bs id b a h hb) ?_
    repeat (refine go rfl ?_)
    rw [show IntKind.i64.wrap (hi - lo) = hi - lo from IntWalk.i64_in _ ⟨by omega, by omega⟩]
    refine SXR.call (make_spec bp p bs (hi - lo)) rfl ?_
    rintro u L' ⟨bs', rfl, rfl, hat⟩
    dsimp only [List.cons_append, List.nil_append]
    by_cases hm : (p.make (hi - lo)).2.1 = 0
    · obtain ⟨hm1, hm2⟩ := Pl.make_get hm
      obtain ⟨hm3, hm4⟩ := hm2 id a h
      have hs : p.copy id lo hi = ((p.make (hi - lo)).1, (usedN (Pl.copyA a lo hi).a (Pl.copyA a lo hi).a.length).map (·.2), 0, (p.make (hi - lo)).2.2.upd (p.make (hi - lo)).1 (Pl.copyA a lo hi)) := by
        simp only [Pl.copy, h]; rw [if_neg (by simp [hw]), if_neg (fun hh => hh hm)]
      have hb' := hat id b hb
      rw [hs, hm]
      generalize (p.make (hi - lo)).2.2 = q at hm1 hm3 ⊢
      generalize (p.make (hi - lo)).1 = n at hm1 hm4 ⊢
      clear hat hm hm2
      repeat (refine go rfl ?_)
      refine SXB.split (fun hc => by exact absurd rfl hc) (fun _ => ?_)
      refine SXC.open (poolB bp q bs') (pool_open2 bp q bs' id n a (fresh (hi - lo)) hm3 hm1 hm4) ?_
      rintro ⟨b0, bn, v0⟩ ⟨hb0, hbn, hql, hqo⟩
      dsimp only at hb0 hbn ⊢
      obtain rfl : b0 = b := by have := hb0.1; rw [hb'.1] at this; cases this; rfl
      have hqlen : bs'.length ≤ 4096 := by have := hqo.1; have := hqo.2; omega
      refine SXC.open (oneH b0 a) (oneH_open b0 a) ?_
      rintro ⟨bc3, v3⟩ _
      refine SXC.open (oneH bn (fresh (hi - lo))) (oneH_open bn (fresh (hi - lo))) ?_
      rintro ⟨bc2, v2⟩ hok2
      dsimp only
      have hfl : (fresh (hi - lo)).a.length = (hi - lo).toNat := by simp [fresh]
      have hfa : (fresh (hi - lo)).a = List.replicate (hi - lo).toNat 0 := rfl
      have hfc : (fresh (hi - lo)).c = List.replicate (hi - lo).toNat 1 := rfl
      rw [hfl, hfa, hfc]
      obtain ⟨k, hk⟩ : ∃ k : Nat, (hi - lo).toNat = k := ⟨_, rfl⟩
      obtain ⟨o, rfl⟩ : ∃ o : Nat, lo = o := ⟨lo.toNat, by omega⟩
      rw [hk]
      refine SXC.vec (v := v3) (n := a.a.length) (sz := 1) (T := 3) (cs := a.a.map intC) (fun _ h _ => absurd h (by omega)) ?_
      rintro bv cap sp rfl hcap hsp hl
      refine SXC.vec (v := v2) (n := k) (sz := 1) (T := 3) (cs := (List.replicate k (0 : Int)).map intC) (fun _ h _ => absurd h (by omega)) ?_
      rintro bw capw spw rfl hcapw hspw hlw
      have hca : (Pl.copyA a o hi).a = (a.a.drop o).take k := by unfold Pl.copyA; rw [hk, Int.toNat_natCast]
      have hcc : (Pl.copyA a o hi).c = List.replicate k 1 := by unfold Pl.copyA; rw [hk]
      have hle : ((a.a.drop o).take k).length = k := by simp; omega
      have hcl : (Pl.copyA a o hi).a.length = k := by rw [hca, hle]
      have hcok := copyA_ok hok hwi.1 hwi.2.1 hwi.2.2
      repeat (refine go rfl ?_)
      refine SXC.ent (big_add (A := vec (.slice none 0 0) ([] : List Int).length 1 3 (([] : List Int).map intC)) vec_nil) ?_
      rw [show vec (.slice none 0 0) ([] : List Int).length 1 3 (([] : List Int).map intC) = vec (0, Value.slice none 0 0).2 ((usedN (Pl.copyA a o hi).a (0, Value.slice none 0 0).1).map (·.2)).length 1 3 (((usedN (Pl.copyA a o hi).a (0, Value.slice none 0 0).1).map (·.2)).map intC) from rfl,
        show (Obj.cells ((List.replicate k (0 : Int)).map intC ++ spw).toArray 3 (0, 0)) = Obj.cells (((a.a.drop o).take (0, Value.slice none 0 0).1 ++ List.replicate (k - (0, Value.slice none 0 0).1) (0 : Int)).map intC ++ spw).toArray 3 (0, 0) by simp]
      refine SXC.loop (fun x : Nat × Value => x.1 ≤ k) (fun x => [(0, .pointer (some ⟨bp, 0, none⟩)), (2, .int .i64 o), (3, .int .i64 hi), (11, .pointer (some ⟨b0, 0, none⟩)), (12, .int .i64 n), (14, x.2), (15, .int .i64 ((o + x.1 : Nat) : Int))])
        (fun x => [rawP bp q.most v0, vec v0 bs'.length 1 54 (bs'.map pv), vec x.2 ((usedN (Pl.copyA a o hi).a x.1).map (·.2)).length 1 3 (((usedN (Pl.copyA a o hi).a x.1).map (·.2)).map intC), pts bw (.cells (((a.a.drop o).take x.1 ++ List.replicate (k - x.1) (0 : Int)).map intC ++ spw).toArray 3 (0, 0))])
        (fun x => k - x.1) (0, .slice none 0 0) (Nat.zero_le _) ⟨rfl, rfl, rfl, rfl, rfl, rfl, rfl, trivial⟩ ?_
      rintro ⟨m, g⟩ hm'
      dsimp only at hm' ⊢
      have hul := usedN_len (Pl.copyA a o hi).a m
      have hcm : ((a.a.drop o).take m ++ List.replicate (k - m) (0 : Int)).length = k := by simp; omega
      repeat (refine go rfl ?_)
      refine SXB.split (fun hlt => ?_) (fun hge => ?_)
      · have hmk : m < k := by omega
        have hgs : gf (Pl.copyA a o hi).a m = gf a.a ((o + m : Nat) : Int) := by rw [hca]; exact gf_sub hmk (by omega)
        have hst := outs_succ (Pl.copyA a o hi).a m
        rw [hgs] at hst
        have hnn := gf_nn hok.2.2.2 (o + m)
        repeat (refine go rfl ?_)
        refine SXC.draw [rawP bp q.most v0, vec v0 bs'.length 1 54 (bs'.map pv)] (by kernel_rfl) ?_
        refine SXE.phase 0 rfl rfl rfl (by (repeat (refine go rfl ?_)); exact fin_qs rfl) ?_
        refine SXE.phase 1 rfl rfl rfl (by (repeat (refine go rfl ?_)); exact fin_qs rfl) ?_
        refine SXE.phase 2 rfl rfl rfl (by (repeat (refine go rfl ?_)); refine SXR.callF (ofL_spec bp q.most v0 bs' hqlen n) rfl ?_; (repeat (refine go rfl ?_)); exact fin_qsP rfl) ?_
        rw [hbn.2]
        refine SXE.phase 3 rfl rfl rfl (by (repeat (refine go rfl ?_)); exact fin_qs rfl) ?_
        refine SXE.phase 4 rfl rfl rfl (by (repeat (refine go rfl ?_)); exact fin_qs rfl) ?_
        refine SXE.phase 5 rfl rfl rfl (by (repeat (refine go rfl ?_)); exact fin_qs rfl) ?_
        refine SXE.phase 6 rfl rfl rfl (by (repeat (refine go rfl ?_)); exact fin_qs rfl) ?_
        refine SXE.phase 7 rfl rfl rfl (by (repeat (refine go rfl ?_)); exact fin_qs rfl) ?_
        refine SXE.phase 8 rfl rfl rfl (by (repeat (refine go rfl ?_)); exact fin_qs rfl) ?_
        refine SXE.phase 9 rfl rfl rfl (by (repeat (refine go rfl ?_)); exact fin_qs rfl) ?_
        refine SXE.phase 10 rfl rfl rfl (by (repeat (refine go rfl ?_)); exact fin_qs rfl) ?_
        refine SXE.phase 11 rfl rfl rfl (by (repeat (refine go rfl ?_)); exact fin_qs rfl) ?_
        refine SXE.phase 12 rfl rfl rfl (by (repeat (refine go rfl ?_)); exact fin_qs rfl) ?_
        refine SXE.phase 13 rfl rfl rfl (by (repeat (refine go rfl ?_)); exact fin_qs rfl) ?_
        refine SXE.phase 14 rfl rfl rfl (by (repeat (refine go rfl ?_)); refine SXR.index (o + m) rfl (by omega) (by omega) (by omega) ?_; (repeat (refine go rfl ?_)); exact fin_qs rfl) ?_
        refine SXE.phase 15 rfl rfl rfl (by (repeat (refine go rfl ?_)); refine SXL.row (ints_get sp (i := o + m) (by omega)) ?_; (repeat (refine go rfl ?_)); exact fin_qs rfl) ?_
        rw [show IntKind.i64.wrap (((o + m : Nat) : Int) - (o : Int)) = (m : Int) by rw [IntWalk.i64_in _ ⟨by omega, by omega⟩]; omega]
        refine SXE.phase 16 rfl rfl rfl (by (repeat (refine go rfl ?_)); refine SXR.index (m) rfl (by omega) (by omega) (by omega) ?_; (repeat (refine go rfl ?_)); exact fin_qs rfl) ?_
        refine SXE.one 17 rfl rfl rfl ?_
        repeat (refine go rfl ?_)
        refine SXS.row rfl (by rw [List.length_append, List.length_map, hcm]; omega) ?_
        rw [ints_set spw (by rw [hcm]; exact hmk), cur_set hmk (by omega)]
        repeat (refine go rfl ?_)
        refine fin_qe0P ?_
        refine SXE.done rfl ?_
        repeat (refine go rfl ?_)
        refine SXR.index (o + m) rfl (by omega) (by omega) (by omega) ?_
        repeat (refine go rfl ?_)
        refine SXL.row (ints_get sp (i := o + m) (by omega)) ?_
        repeat (refine go rfl ?_)
        refine SXB.split (fun hz => ?_) (fun hz => ?_)
        · rw [if_pos (by omega)] at hst
          repeat (refine go rfl ?_)
          refine SXR.index (o + m) rfl (by omega) (by omega) (by omega) ?_
          repeat (refine go rfl ?_)
          refine SXL.row (ints_get sp (i := o + m) (by omega)) ?_
          repeat (first | refine go rfl ?_ | intro bx)
          refine SXR.append (n := ((usedN (Pl.copyA a o hi).a m).map (·.2)).length) (m := 1) (sz := 1) (e := 3) (ys := [intC (gf a.a ((o + m : Nat) : Int))]) rfl (pk (vec g ((usedN (Pl.copyA a o hi).a m).map (·.2)).length 1 3 (((usedN (Pl.copyA a o hi).a m).map (·.2)).map intC))) rfl (fun w hw => RdS.of_pts (b := bx) (off := 0) (vs := [intC (gf a.a ((o + m : Nat) : Int))]) (T := 3) (fr := (0, 0)) (Nat.le_refl 1) rfl hw) rfl (by simp [Value.oneCell']) (by rw [List.length_map]; omega) (by rw [List.length_map]; omega) fun g' => ?_
          rw [show ((usedN (Pl.copyA a o hi).a m).map (·.2)).map intC ++ [intC (gf a.a ((o + m : Nat) : Int))] = ((usedN (Pl.copyA a o hi).a (m + 1)).map (·.2)).map intC by rw [hst, List.map_append]; rfl,
            show ((usedN (Pl.copyA a o hi).a m).map (·.2)).length + 1 = ((usedN (Pl.copyA a o hi).a (m + 1)).map (·.2)).length by rw [hst]; simp]
          repeat (refine go rfl ?_)
          exact fin_round (m + 1, g') (by dsimp only; omega) (by dsimp only; omega) ⟨rfl, rfl, rfl, rfl, rfl, rfl, by rw [wrap_succ (by omega)]; rfl, trivial⟩
        · rw [if_neg (by omega), List.append_nil] at hst
          rw [← hst]
          repeat (refine go rfl ?_)
          exact fin_round (m + 1, g) (by dsimp only; omega) (by dsimp only; omega) ⟨rfl, rfl, rfl, rfl, rfl, rfl, by rw [wrap_succ (by omega)]; rfl, trivial⟩
      · obtain rfl : m = k := by omega
        rw [Nat.sub_self, List.replicate_zero, List.append_nil]
        repeat (refine go rfl ?_)
        refine Fin.shutB _ bv (vec_shut (T := 3) hl hcap hsp) ?_
        refine Fin.shutB _ bw (vec_shut (n := m) (sz := 1) (T := 3) (by rw [List.length_map, hle]; omega) hcapw hspw) ?_
        refine Fin.shut (cs := [pts b0 (.cells [.pointer (some ⟨bc3, 0, none⟩), .slice (some ⟨bv, 0, none⟩) a.a.length cap].toArray 58 (0, 0)), rcB bc3 a.c, vec (.slice (some ⟨bv, 0, none⟩) a.a.length cap) a.a.length 1 3 (a.a.map intC)]) _ (oneH_shut b0 a bc3 (.slice (some ⟨bv, 0, none⟩) a.a.length cap) hok) ?_
        refine Fin.shut (cs := [pts bn (.cells [.pointer (some ⟨bc2, 0, none⟩), .slice (some ⟨bw, 0, none⟩) m capw].toArray 58 (0, 0)), rcB bc2 (List.replicate m 1), vec (.slice (some ⟨bw, 0, none⟩) m capw) m 1 3 (((a.a.drop o).take m).map intC)]) _ (fun m' hm => oneH_shut bn (Pl.copyA a o hi) bc2 (.slice (some ⟨bw, 0, none⟩) m capw) hcok m' (by rw [hcl, hca, hcc]; exact hm)) ?_
        refine Fin.shut _ (pool_close2 bp q bs' id n b0 bn v0 a (fresh (hi - o)) (Pl.copyA a o hi) hm3 hm1 hm4 hb0 hbn hql hqo) ?_
        rw [hcl]
        exact fin_ret (.tmp rfl (.tmp rfl (.tmp rfl .nil))) ⟨g, bs', rfl, rfl⟩
    · obtain ⟨hm1, hm2⟩ := Pl.make_bad hm
      have hs : p.copy id lo hi = (0, [], (p.make (hi - lo)).2.1, p) := by
        simp only [Pl.copy, h]; rw [if_neg (by simp [hw]), if_pos hm]
      rw [hs, hm1, hm2]
      repeat (refine go rfl ?_)
      refine SXB.split (fun _ => ?_) (fun hc => by exact absurd hc hm)
      repeat (refine go rfl ?_)
      refine Fin.ent (big_add (A := vec (.slice none 0 0) ([] : List Int).length 1 3 (([] : List Int).map intC)) vec_nil) ?_
      exact fin_ret (.tmp rfl (.tmp rfl (.tmp rfl .nil))) ⟨_, bs', rfl, rfl⟩
end Go.Proofs.Ytlgphhknfocfaaa.Ref
