import Derived.Test.YtlgphhknfocfaaaRef3
namespace Go.Proofs.Ytlgphhknfocfaaa.Ref
open Go.Sl

set_option maxRecDepth 4000 in
set_option maxHeartbeats 4000000 in
theorem drop_spec (bp : Nat) (p : Pl) (bs : List (Option Nat)) (id lo hi : Int) : Tri Try.prog 20 [.pointer (some ⟨bp, 0, none⟩), .int .i64 id, .int .i64 lo, .int .i64 hi] [poolB bp p bs]
    (fun u l => ∃ v bs', u = .tuple #[v, .int .i64 (p.drop id lo hi).2.1] ∧ l = [poolB bp (p.drop id lo hi).2.2 bs', vec v (p.drop id lo hi).1.length 1 3 ((p.drop id lo hi).1.map intC)]) := by
  refine tri_intro Try.func20 rfl Try.results20 Try.ntmps20 rfl (by kernel_rfl) fun R => ?_
  repeat (refine go rfl ?_)
  refine SXR.callF (of_spec bp p bs id) rfl ?_
  cases h : p.get id with
  | none =>
    refine SXR.facts (pool_none h) (fun hp => ?_)
    have hs : p.drop id lo hi = ([], 7, p) := by simp [Pl.drop, h]
    rw [hp, hs]
    repeat (refine go rfl ?_)
    refine Fin.ent (big_add (A := vec (.slice none 0 0) ([] : List Int).length 1 3 (([] : List Int).map intC)) vec_nil) ?_
    exact fin_ret (.tmp rfl (.tmp rfl .nil)) ⟨_, bs, rfl, rfl⟩
  | some a =>
    refine SXR.open (poolB bp p bs) (pool_open bp p bs id a h) ?_
    intro b hb
    rw [hb.2]
    refine SXR.open (oneH b a) (oneH_open b a) ?_
    rintro ⟨bc, v⟩ hok
    dsimp only
    have hal := hok.1
    have hal2 := hok.2.2.1
    have hbad2 : a.within lo hi = false → p.drop id lo hi = ([], 2, p) := fun hw => by simp [Pl.drop, h, hw]
    repeat (refine go rfl ?_)
    refine SXG.split rfl (fun h1 => ?_) (fun h1 => ?_)
    · rw [hbad2 (decide_eq_false (by omega))]
      repeat (refine go rfl ?_)
      refine Fin.ent (big_add (A := vec (.slice none 0 0) ([] : List Int).length 1 3 (([] : List Int).map intC)) vec_nil) ?_
      refine Fin.shut _ (oneH_shut b a bc v hok) ?_
      refine Fin.shut _ (pool_same bp p bs id b a h hb) ?_
      exact fin_ret (.tmp rfl (.tmp rfl .nil)) ⟨_, bs, rfl, rfl⟩
    repeat (refine go rfl ?_)
    refine SXG.split rfl (fun h2 => ?_) (fun h2 => ?_)
    · rw [hbad2 (decide_eq_false (by omega))]
      repeat (refine go rfl ?_)
      refine Fin.ent (big_add (A := vec (.slice none 0 0) ([] : List Int).length 1 3 (([] : List Int).map intC)) vec_nil) ?_
      refine Fin.shut _ (oneH_shut b a bc v hok) ?_
      refine Fin.shut _ (pool_same bp p bs id b a h hb) ?_
      exact fin_ret (.tmp rfl (.tmp rfl .nil)) ⟨_, bs, rfl, rfl⟩
    repeat (refine go rfl ?_)
    refine SXR.lenRd (n := a.a.length) (cs := a.a.map intC) rfl (fun w hw => RdS.of_vec (sz := 1) (T := 3) hw) ?_
    repeat (refine go rfl ?_)
    refine SXB.split (fun h3 => ?_) (fun h3 => ?_)
    · rw [hbad2 (decide_eq_false (by omega))]
      repeat (refine go rfl ?_)
      refine Fin.ent (big_add (A := vec (.slice none 0 0) ([] : List Int).length 1 3 (([] : List Int).map intC)) vec_nil) ?_
      refine Fin.shut _ (oneH_shut b a bc v hok) ?_
      refine Fin.shut _ (pool_same bp p bs id b a h hb) ?_
      exact fin_ret (.tmp rfl (.tmp rfl .nil)) ⟨_, bs, rfl, rfl⟩
    have hw : a.within lo hi = true := decide_eq_true (by omega)
    clear hbad2
    repeat (refine go rfl ?_)
    refine SXR.call (rcAdd_spec bc a.c lo hi (-1) (by omega) (by decide)) rfl ?_
    rintro u L' (⟨hbad, rfl, rfl⟩ | ⟨hbad, v', rfl, rfl⟩)
    · have hs : p.drop id lo hi = ([], 2, p) := by
        simp only [Pl.drop, h]; rw [if_neg (by simp [hw]), if_pos hbad]
      rw [hs]
      dsimp only [List.cons_append, List.nil_append]
      repeat (refine go rfl ?_)
      refine SXB.split (fun _ => ?_) (fun hc => by exact absurd hc (by decide))
      repeat (refine go rfl ?_)
      refine Fin.ent (big_add (A := vec (.slice none 0 0) ([] : List Int).length 1 3 (([] : List Int).map intC)) vec_nil) ?_
      refine Fin.shut _ (oneH_shut b a bc v hok) ?_
      refine Fin.shut _ (pool_same bp p bs id b a h hb) ?_
      exact fin_ret (.tmp rfl (.tmp rfl .nil)) ⟨_, bs, rfl, rfl⟩
    · dsimp only [List.cons_append, List.nil_append]
      have hgm := goneC_mem (c := a.c) (lo := lo) (hi := hi) (d := -1)
      have hgl := goneC_len a.c lo hi (-1)
      have hs : p.drop id lo hi = ((dropG a.a (goneC a.c lo hi (-1))).2, 0, if (addC a.c lo hi (-1)).sum = 0 then ⟨p.most, p.l.set (id - 1).toNat none⟩ else p.upd id ⟨addC a.c lo hi (-1), (dropG a.a (goneC a.c lo hi (-1))).1⟩) := by
        simp only [Pl.drop, h]; rw [if_neg (by simp [hw]), if_neg hbad]
      rw [hs]
      generalize goneC a.c lo hi (-1) = g at hgm hgl ⊢
      repeat (refine go rfl ?_)
      refine SXB.split (fun hc => by exact absurd rfl hc) (fun _ => ?_)
      refine SXC.vec (v := v) (n := a.a.length) (sz := 1) (T := 3) (cs := a.a.map intC) (fun _ h _ => absurd h (by omega)) ?_
      rintro bv cap sp rfl hcap hsp hl
      repeat (refine go rfl ?_)
      refine SXR.lenRd (n := g.length) (cs := g.map intC) rfl (fun w hw => RdS.of_vec (sz := 1) (T := 3) hw) ?_
      repeat (refine go rfl ?_)
      refine SXC.ent (big_add (A := vec (.slice none 0 0) ([] : List Int).length 1 3 (([] : List Int).map intC)) vec_nil) ?_
      rw [show vec (.slice none 0 0) ([] : List Int).length 1 3 (([] : List Int).map intC) = vec (0, Value.slice none 0 0).2 (dropG a.a (g.take (0, Value.slice none 0 0).1)).2.length 1 3 ((dropG a.a (g.take (0, Value.slice none 0 0).1)).2.map intC) from rfl,
        show (Obj.cells (a.a.map intC ++ sp).toArray 3 (0, 0)) = Obj.cells ((dropG a.a (g.take (0, Value.slice none 0 0).1)).1.map intC ++ sp).toArray 3 (0, 0) from rfl]
      refine SXC.loop (fun x : Nat × Value => x.1 ≤ g.length) (fun x => [(0, .pointer (some ⟨bp, 0, none⟩)), (1, .int .i64 id), (10, .pointer (some ⟨b, 0, none⟩)), (13, x.2), (50, v'), (51, .int .i64 g.length), (52, .int .i64 x.1)])
        (fun x => [vec x.2 (dropG a.a (g.take x.1)).2.length 1 3 ((dropG a.a (g.take x.1)).2.map intC), pts bv (.cells ((dropG a.a (g.take x.1)).1.map intC ++ sp).toArray 3 (0, 0)), vec v' g.length 1 3 (g.map intC), pts b (.cells [.pointer (some ⟨bc, 0, none⟩), .slice (some ⟨bv, 0, none⟩) a.a.length cap].toArray 58 (0, 0))])
        (fun x => g.length - x.1) (0, .slice none 0 0) (Nat.zero_le _) ⟨rfl, rfl, rfl, rfl, rfl, rfl, rfl, trivial⟩ ?_
      rintro ⟨i, o⟩ hi'
      dsimp only at hi' ⊢
      have hdl := dropG_len (a := a.a) hi'
      repeat (refine go rfl ?_)
      refine SXB.split (fun hlt => ?_) (fun hge => ?_)
      · have hil : i < g.length := by omega
        have hx : g[i]? = some g[i] := List.getElem?_eq_getElem hil
        have hgi := gf_get hil
        have hxb := hgm g[i] (List.getElem_mem hil)
        have hds := dropG_succ (a := a.a) hx
        rw [← hgi] at hxb hds
        generalize hgx : gf g i = x at hxb hds
        have hnn : 0 ≤ gf (dropG a.a (g.take i)).1 x := (hdl.2.2 hok.2.2.2) _ (gf_in (by omega) (by omega))
        repeat (refine go rfl ?_)
        refine SXR.vec (v := v') (n := g.length) (sz := 1) (T := 3) (cs := g.map intC) (fun _ h _ => absurd h (by omega)) ?_
        rintro bg capg spg rfl hcapg hspg hlg
        refine SXR.index i rfl (by omega) (by omega) (by omega) ?_
        repeat (refine go rfl ?_)
        refine SXL.row (ints_get spg hil) ?_
        rw [hgx]
        repeat (refine go rfl ?_)
        refine SXR.index x.toNat rfl (by omega) (by omega) (by omega) ?_
        repeat (refine go rfl ?_)
        refine SXL.row (ints_get sp (l := (dropG a.a (g.take i)).1) (i := x.toNat) (by omega)) ?_
        rw [show ((x.toNat : Nat) : Int) = x by omega]
        repeat (refine go rfl ?_)
        refine SXB.split (fun hc0 => ?_) (fun hc0 => ?_)
        · have hc : gf (dropG a.a (g.take i)).1 x > 0 := by omega
          repeat (refine go rfl ?_)
          refine SXR.index x.toNat rfl (by omega) (by omega) (by omega) ?_
          repeat (refine go rfl ?_)
          refine SXL.row (ints_get sp (l := (dropG a.a (g.take i)).1) (i := x.toNat) (by omega)) ?_
          rw [show ((x.toNat : Nat) : Int) = x by omega]
          repeat (first | refine go rfl ?_ | intro bx)
          refine SXR.append (n := (dropG a.a (g.take i)).2.length) (m := 1) (sz := 1) (e := 3) (ys := [intC (gf (dropG a.a (g.take i)).1 x)]) rfl (pk (vec o (dropG a.a (g.take i)).2.length 1 3 ((dropG a.a (g.take i)).2.map intC))) rfl (fun w hw => RdS.of_pts (b := bx) (off := 0) (vs := [intC (gf (dropG a.a (g.take i)).1 x)]) (T := 3) (fr := (0, 0)) (Nat.le_refl 1) rfl hw) rfl (by simp [Value.oneCell']) (by omega) (by omega) fun o' => ?_
          repeat (refine go rfl ?_)
          refine SXR.index x.toNat rfl (by omega) (by omega) (by omega) ?_
          repeat (refine go rfl ?_)
          refine SXS.row rfl (by rw [List.length_append, List.length_map]; omega) ?_
          rw [ints_set sp (by omega)]
          rw [show (dropG a.a (g.take i)).1.set x.toNat 0 = (dropG a.a (g.take (i + 1))).1 by rw [hds]; rfl,
            show (dropG a.a (g.take i)).2.map intC ++ [intC (gf (dropG a.a (g.take i)).1 x)] = (dropG a.a (g.take (i + 1))).2.map intC by rw [hds]; simp [dropStep, hc],
            show (dropG a.a (g.take i)).2.length + 1 = (dropG a.a (g.take (i + 1))).2.length by rw [hds]; simp [dropStep, hc]]
          repeat (refine go rfl ?_)
          refine Fin.shutB _ bg (vec_shut (T := 3) hlg hcapg hspg) ?_
          exact fin_round (i + 1, o') (by dsimp only; omega) (by dsimp only; omega) ⟨rfl, rfl, rfl, rfl, rfl, rfl, by rw [wrap_succ (by omega)], trivial⟩
        · have hc : ¬ gf (dropG a.a (g.take i)).1 x > 0 := by omega
          repeat (refine go rfl ?_)
          refine SXR.index x.toNat rfl (by omega) (by omega) (by omega) ?_
          repeat (refine go rfl ?_)
          refine SXS.row rfl (by rw [List.length_append, List.length_map]; omega) ?_
          rw [ints_set sp (by omega)]
          rw [show (dropG a.a (g.take i)).1.set x.toNat 0 = (dropG a.a (g.take (i + 1))).1 by rw [hds]; rfl,
            show (dropG a.a (g.take i)).2 = (dropG a.a (g.take (i + 1))).2 by rw [hds]; simp [dropStep, hc]]
          repeat (refine go rfl ?_)
          refine Fin.shutB _ bg (vec_shut (T := 3) hlg hcapg hspg) ?_
          exact fin_round (i + 1, o) (by dsimp only; omega) (by dsimp only; omega) ⟨rfl, rfl, rfl, rfl, rfl, rfl, by rw [wrap_succ (by omega)], trivial⟩
      · obtain rfl : i = g.length := by omega
        rw [List.take_length] at hdl ⊢
        repeat (refine go rfl ?_)
        refine SXR.callF (rcSum_spec bc (addC a.c lo hi (-1))) rfl ?_
        repeat (refine go rfl ?_)
        refine SXB.split (fun hz => ?_) (fun hz => ?_)
        · rw [if_pos hz]
          refine SXC.open (poolX bp p bs (id - 1).toNat) (poolX_open bp p bs (id - 1).toNat) ?_
          rintro vp ⟨hbl, hpo⟩
          have hpg := Pl.get_some h
          have hpl : p.l.length ≤ 4096 := by have := hpo.1; have := hpo.2; omega
          refine SXC.vec (v := vp) (n := bs.length) (sz := 1) (T := 54) (cs := bs.map pv) (fun _ h _ => absurd h (by omega)) ?_
          rintro bq capq spq rfl hcapq hspq hlq
          repeat (refine go rfl ?_)
          rw [show IntKind.i64.wrap (id - 1) = id - 1 from IntWalk.i64_in _ ⟨by omega, by omega⟩]
          refine SXR.index ((id - 1).toNat) rfl (by omega) (by omega) (by omega) ?_
          repeat (refine go rfl ?_)
          refine SXS.row rfl (by rw [List.length_append, List.length_map]; omega) ?_
          rw [show (bs.map pv ++ spq).set (id - 1).toNat (.pointer none) = (bs.set (id - 1).toNat none).map pv ++ spq from bs_set none spq (by omega)]
          repeat (refine go rfl ?_)
          refine Fin.shutB _ bq (vec_shut (n := bs.length) (cap := capq) (sz := 1) (T := 54) (by simp) hcapq hspq) ?_
          refine Fin.shut _ (pool_gone bp p bs id a (.slice (some ⟨bq, 0, none⟩) bs.length capq) h hbl hpo) ?_
          exact fin_ret (.tmp rfl (.tmp rfl .nil)) ⟨_, bs.set (id - 1).toNat none, rfl, rfl⟩
        · rw [if_neg hz]
          have e := hdl.1
          repeat (refine go rfl ?_)
          refine Fin.shutB _ bv (vec_shut (n := a.a.length) (cap := cap) (sz := 1) (T := 3) (by simp [e]) hcap hsp) ?_
          rw [← e]
          refine Fin.shut (cs := [pts b (.cells [.pointer (some ⟨bc, 0, none⟩), .slice (some ⟨bv, 0, none⟩) (dropG a.a g).1.length cap].toArray 58 (0, 0)), rcB bc (addC a.c lo hi (-1)), vec (.slice (some ⟨bv, 0, none⟩) (dropG a.a g).1.length cap) (dropG a.a g).1.length 1 3 ((dropG a.a g).1.map intC)]) _ (oneH_shut b ⟨addC a.c lo hi (-1), (dropG a.a g).1⟩ bc (.slice (some ⟨bv, 0, none⟩) (dropG a.a g).1.length cap) ⟨by rw [addC_len]; exact e.trans hal, by rw [addC_len]; exact hok.2.1, by rw [addC_len]; exact hok.2.2.1, hdl.2.2 hok.2.2.2⟩) ?_
          refine Fin.shut _ (pool_close bp p bs id b a ⟨addC a.c lo hi (-1), (dropG a.a g).1⟩ h hb) ?_
          exact fin_ret (.tmp rfl (.tmp rfl .nil)) ⟨_, bs, rfl, rfl⟩
end Go.Proofs.Ytlgphhknfocfaaa.Ref
