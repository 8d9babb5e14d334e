import Derived.Test.YtlgphhknfocfaaaAmap5
namespace Go.Proofs.Ytlgphhknfocfaaa
open Go.Sl

def dropStep (st : List Int × List Int) (i : Int) : List Int × List Int := (st.1.set i.toNat 0, if gf st.1 i > 0 then st.2 ++ [gf st.1 i] else st.2)
def dropG (a g : List Int) : List Int × List Int := g.foldl dropStep (a, [])
theorem dropG_succ {a g : List Int} {i : Nat} {x : Int} (h : g[i]? = some x) : dropG a (g.take (i + 1)) = dropStep (dropG a (g.take i)) x := by
  have : g.take (i + 1) = g.take i ++ [x] := by rw [List.take_add_one, h]; rfl
  rw [this]; simp [dropG]
theorem dropG_len {a : List Int} : ∀ {g : List Int} {i : Nat}, i ≤ g.length → (dropG a (g.take i)).1.length = a.length ∧ (dropG a (g.take i)).2.length ≤ i ∧ ((∀ x ∈ a, 0 ≤ x) → ∀ x ∈ (dropG a (g.take i)).1, 0 ≤ x)
  | g, 0, _ => by simp [dropG]
  | g, i + 1, h => by
    have ih := dropG_len (a := a) (g := g) (i := i) (by omega)
    rw [dropG_succ (List.getElem?_eq_getElem (show i < g.length by omega))]
    refine ⟨by simp [dropStep, ih.1], ?_, fun ha x hx => ?_⟩
    · unfold dropStep; dsimp only; split
      · simp; omega
      · omega
    · rcases List.mem_or_eq_of_mem_set hx with hx | hx
      · exact ih.2.2 ha x hx
      · omega
def Pl.drop (p : Pl) (id lo hi : Int) : List Int × Int × Pl := match p.get id with
  | none => ([], 7, p)
  | some a => if a.within lo hi = false then ([], 2, p) else if badC a.c lo hi (-1) then ([], 2, p) else
    ((dropG a.a (goneC a.c lo hi (-1))).2, 0, if (addC a.c lo hi (-1)).sum = 0 then ⟨p.most, p.l.set (id - 1).toNat none⟩ else p.upd id ⟨addC a.c lo hi (-1), (dropG a.a (goneC a.c lo hi (-1))).1⟩)
theorem goneC_mem {c : List Int} {lo hi d : Int} : ∀ x ∈ goneC c lo hi d, lo ≤ x ∧ x < hi := fun x hx => by
  unfold goneC at hx
  exact mem_irange.1 (List.mem_filter.1 hx).1
theorem goneC_len (c : List Int) (lo hi d : Int) : (goneC c lo hi d).length ≤ (hi - lo).toNat := by
  unfold goneC
  refine Nat.le_trans (List.length_filter_le _ _) ?_
  simp [irange]
theorem hole_none {p : Pl} {bs : List (Option Nat)} {i : Nat} {a : Am} (h : p.l[i]? = some (some a)) (hl : bs.length = p.l.length) : ∀ m, big ((List.zipWith oneO bs p.l).take i ++ (List.zipWith oneO bs p.l).drop (i + 1)) m → big (List.zipWith oneO (bs.set i none) (p.l.set i none)) m := fun m hm => by
  rw [zip_set]
  have hi := (List.getElem?_eq_some_iff.1 h).1
  refine big_back (by simp; omega) ?_
  exact big_add (A := oneO none none) (fun _ => trivial) m (big_pack (L2 := []) (by rw [List.append_nil]; exact hm))
theorem poolX_open (bp : Nat) (p : Pl) (bs : List (Option Nat)) (i : Nat) : ∀ m, poolX bp p bs i m → ∃ v : Value, (bs.length = p.l.length ∧ p.ok) ∧
  big [pts bp (.cells [.int .i64 p.most, .bool true, v, .int .i64 p.kn].toArray 63 (0, 0)), vec v bs.length 1 64 (bs.map pv), big ((List.zipWith oneO bs p.l).take i ++ (List.zipWith oneO bs p.l).drop (i + 1))] m := fun _ h => h
theorem bs_set {bs : List (Option Nat)} {i : Nat} (o : Option Nat) (sp : List Value) (h : i < bs.length) : (bs.map pv ++ sp).set i (pv o) = (bs.set i o).map pv ++ sp := by
  rw [List.set_append_left _ _ (by simpa using h), List.map_set]
theorem pool_gone (bp : Nat) (p : Pl) (bs : List (Option Nat)) (id : Int) (a : Am) (v : Value) (h : p.get id = some a) (hl : bs.length = p.l.length) (hp : p.ok) : ∀ m, big [pts bp (.cells [.int .i64 p.most, .bool true, v, .int .i64 (p.kn - 1)].toArray 63 (0, 0)), vec v bs.length 1 64 ((bs.set (id - 1).toNat none).map pv), big ((List.zipWith oneO bs p.l).take (id - 1).toNat ++ (List.zipWith oneO bs p.l).drop ((id - 1).toNat + 1))] m →
    poolB bp ⟨p.most, p.l.set (id - 1).toNat none⟩ (bs.set (id - 1).toNat none) m := fun m hm => by
  obtain ⟨g1, g2, g3⟩ := Pl.get_some h
  refine ⟨v, ⟨by simp [hl], by simpa [Pl.ok] using hp⟩, ?_⟩
  have hk : Pl.kn ⟨p.most, p.l.set (id - 1).toNat none⟩ = p.kn - 1 := by
    have := knL_gone g3
    simp only [Pl.kn]; omega
  rw [hk, List.length_set]
  exact big_map (fun m h => big_map (fun m h => big_head (hole_none g3 hl) m h) m h) m hm
set_option maxRecDepth 4000 in
theorem drop_spec (bp : Nat) (p : Pl) (bs : List (Option Nat)) (id lo hi : Int) : Tri Try.prog 10 [.pointer (some ⟨bp, 0, none⟩), .int .i64 id, .int .i64 lo, .int .i64 hi] [poolB bp p bs]
    (fun u l => ∃ v bs', u = .tuple #[v, .int .i64 (p.drop id lo hi).2.1] ∧ l = [poolB bp (p.drop id lo hi).2.2 bs', vec v (p.drop id lo hi).1.length 1 3 ((p.drop id lo hi).1.map intC)]) := by
  refine tri_intro Try.func10 rfl Try.results10 Try.ntmps10 rfl (by kernel_rfl) fun R => ?_
  repeat (refine go rfl ?_)
  refine SXR.callF (known_spec bp p bs id) rfl ?_
  cases h : p.get id with
  | none =>
    have he : p.er id = 7 := by simp [Pl.er, h]
    have hs : p.drop id lo hi = ([], 7, p) := by simp [Pl.drop, h]
    rw [he, hs]
    repeat (refine go rfl ?_)
    refine SXB.split (fun _ => ?_) (fun hc => by exact absurd hc (by decide))
    repeat (refine go rfl ?_)
    refine Fin.ent (big_add (A := vec (.slice none 0 0) ([] : List Int).length 1 3 (([] : List Int).map intC)) vec_nil) ?_
    exact fin_ret (.tmp rfl (.tmp rfl .nil)) ⟨_, bs, rfl, rfl⟩
  | some a =>
    have he : p.er id = 0 := by simp [Pl.er, h]
    rw [he]
    repeat (refine go rfl ?_)
    refine SXB.split (fun hc => by exact absurd rfl hc) (fun _ => ?_)
    refine SXC.open (poolB bp p bs) (pool_open bp p bs id a h) ?_
    intro b hb
    rw [hb.2]
    repeat (refine go rfl ?_)
    cases hw : a.within lo hi with
    | false =>
      refine SXR.callF (within_spec b a lo hi) rfl ?_
      rw [hw]
      have hs : p.drop id lo hi = ([], 2, p) := by simp [Pl.drop, h, hw]
      rw [hs]
      repeat (refine go rfl ?_)
      refine Fin.ent (big_add (A := vec (.slice none 0 0) ([] : List Int).length 1 3 (([] : List Int).map intC)) vec_nil) ?_
      refine Fin.shut _ (pool_same bp p bs id b a h hb) ?_
      exact fin_ret (.tmp rfl (.tmp rfl .nil)) ⟨_, bs, rfl, rfl⟩
    | true =>
      refine SXR.callF (within_spec b a lo hi) rfl ?_
      rw [hw]
      have hwi : 0 ≤ lo ∧ lo < hi ∧ hi ≤ a.a.length := of_decide_eq_true hw
      refine SXR.open (oneH b a) (oneH_open b a) ?_
      rintro ⟨bc, v⟩ hok
      have hal := hok.1
      have hal2 := hok.2.2.1
      dsimp only
      repeat (refine go rfl ?_)
      refine SXR.call (addC_spec bc a.c lo hi (-1) (by omega) (by decide)) rfl ?_
      rintro u L' (⟨hbad, rfl, rfl⟩ | ⟨hbad, v', rfl, rfl⟩)
      · have hs : p.drop id lo hi = ([], 2, p) := by
          simp only [Pl.drop, h]; rw [if_neg (by simp [hw]), if_pos hbad]
        rw [hs]
        dsimp only [List.cons_append, List.nil_append]
        repeat (refine go rfl ?_)
        refine SXB.split (fun _ => ?_) (fun hc => by exact absurd hc (by decide))
        repeat (refine go rfl ?_)
        refine Fin.ent (big_add (A := vec (.slice none 0 0) ([] : List Int).length 1 3 (([] : List Int).map intC)) vec_nil) ?_
        refine Fin.shut _ (oneH_shut b a bc v hok) ?_
        refine Fin.shut _ (pool_same bp p bs id b a h hb) ?_
        exact fin_ret (.tmp rfl (.tmp rfl .nil)) ⟨_, bs, rfl, rfl⟩
      · dsimp only [List.cons_append, List.nil_append]
        have hgm := goneC_mem (c := a.c) (lo := lo) (hi := hi) (d := -1)
        have hgl := goneC_len a.c lo hi (-1)
        have hs : p.drop id lo hi = ((dropG a.a (goneC a.c lo hi (-1))).2, 0, if (addC a.c lo hi (-1)).sum = 0 then ⟨p.most, p.l.set (id - 1).toNat none⟩ else p.upd id ⟨addC a.c lo hi (-1), (dropG a.a (goneC a.c lo hi (-1))).1⟩) := by
          simp only [Pl.drop, h]; rw [if_neg (by simp [hw]), if_neg hbad]
        rw [hs]
        generalize goneC a.c lo hi (-1) = g at hgm hgl ⊢
        repeat (refine go rfl ?_)
        refine SXB.split (fun hc => by exact absurd rfl hc) (fun _ => ?_)
        refine SXC.vec (v := v) (n := a.a.length) (sz := 1) (T := 3) (cs := a.a.map intC) (fun _ h _ => absurd h (by omega)) ?_
        rintro bv cap sp rfl hcap hsp hl
        repeat (refine go rfl ?_)
        refine SXR.lenRd (n := g.length) (cs := g.map intC) rfl (fun w hw => RdS.of_vec (sz := 1) (T := 3) hw) ?_
        repeat (refine go rfl ?_)
        refine SXC.ent (big_add (A := vec (.slice none 0 0) ([] : List Int).length 1 3 (([] : List Int).map intC)) vec_nil) ?_
        rw [show vec (.slice none 0 0) ([] : List Int).length 1 3 (([] : List Int).map intC) = vec (0, Value.slice none 0 0).2 (dropG a.a (g.take (0, Value.slice none 0 0).1)).2.length 1 3 ((dropG a.a (g.take (0, Value.slice none 0 0).1)).2.map intC) from rfl,
          show (Obj.cells (a.a.map intC ++ sp).toArray 3 (0, 0)) = Obj.cells ((dropG a.a (g.take (0, Value.slice none 0 0).1)).1.map intC ++ sp).toArray 3 (0, 0) from rfl]
        refine SXC.loop (fun x : Nat × Value => x.1 ≤ g.length) (fun x => [(0, .pointer (some ⟨bp, 0, none⟩)), (1, .int .i64 id), (10, .pointer (some ⟨b, 0, none⟩)), (13, x.2), (43, v'), (44, .int .i64 g.length), (45, .int .i64 x.1)])
          (fun x => [vec x.2 (dropG a.a (g.take x.1)).2.length 1 3 ((dropG a.a (g.take x.1)).2.map intC), pts bv (.cells ((dropG a.a (g.take x.1)).1.map intC ++ sp).toArray 3 (0, 0)), vec v' g.length 1 3 (g.map intC), pts b (.cells [.pointer (some ⟨bc, 0, none⟩), .slice (some ⟨bv, 0, none⟩) a.a.length cap].toArray 68 (0, 0))])
          (fun x => g.length - x.1) (0, .slice none 0 0) (Nat.zero_le _) ⟨rfl, rfl, rfl, rfl, rfl, rfl, rfl, trivial⟩ ?_
        rintro ⟨i, o⟩ hi'
        dsimp only at hi' ⊢
        have hdl := dropG_len (a := a.a) hi'
        repeat (refine go rfl ?_)
        refine SXB.split (fun hlt => ?_) (fun hge => ?_)
        · have hil : i < g.length := by omega
          have hx : g[i]? = some g[i] := List.getElem?_eq_getElem hil
          have hgi := gf_get hil
          have hxb := hgm g[i] (List.getElem_mem hil)
          have hds := dropG_succ (a := a.a) hx
          rw [← hgi] at hxb hds
          generalize hgx : gf g i = x at hxb hds
          repeat (refine go rfl ?_)
          refine SXR.vec (v := v') (n := g.length) (sz := 1) (T := 3) (cs := g.map intC) (fun _ h _ => absurd h (by omega)) ?_
          rintro bg capg spg rfl hcapg hspg hlg
          refine SXR.index i rfl (by omega) (by omega) (by omega) ?_
          repeat (refine go rfl ?_)
          refine SXL.row (ints_get spg hil) ?_
          rw [hgx]
          repeat (refine go rfl ?_)
          refine SXR.index x.toNat rfl (by omega) (by omega) (by omega) ?_
          repeat (refine go rfl ?_)
          refine SXL.row (ints_get sp (l := (dropG a.a (g.take i)).1) (i := x.toNat) (by omega)) ?_
          rw [show ((x.toNat : Nat) : Int) = x by omega]
          repeat (refine go rfl ?_)
          refine SXB.split (fun hc => ?_) (fun hc => ?_)
          · repeat (refine go rfl ?_)
            refine SXR.index x.toNat rfl (by omega) (by omega) (by omega) ?_
            repeat (refine go rfl ?_)
            refine SXL.row (ints_get sp (l := (dropG a.a (g.take i)).1) (i := x.toNat) (by omega)) ?_
            rw [show ((x.toNat : Nat) : Int) = x by omega]
            repeat (first | refine go rfl ?_ | intro bx)
            refine SXR.append (n := (dropG a.a (g.take i)).2.length) (m := 1) (sz := 1) (e := 3) (ys := [intC (gf (dropG a.a (g.take i)).1 x)]) rfl (pk (vec o (dropG a.a (g.take i)).2.length 1 3 ((dropG a.a (g.take i)).2.map intC))) rfl (fun w hw => RdS.of_pts (b := bx) (off := 0) (vs := [intC (gf (dropG a.a (g.take i)).1 x)]) (T := 3) (fr := (0, 0)) (Nat.le_refl 1) rfl hw) rfl (by simp [Value.oneCell']) (by omega) (by omega) fun o' => ?_
            repeat (refine go rfl ?_)
            refine SXR.index x.toNat rfl (by omega) (by omega) (by omega) ?_
            repeat (refine go rfl ?_)
            refine SXS.row rfl (by rw [List.length_append, List.length_map]; omega) ?_
            rw [ints_set sp (by omega)]
            rw [show (dropG a.a (g.take i)).1.set x.toNat 0 = (dropG a.a (g.take (i + 1))).1 by rw [hds]; rfl,
              show (dropG a.a (g.take i)).2.map intC ++ [intC (gf (dropG a.a (g.take i)).1 x)] = (dropG a.a (g.take (i + 1))).2.map intC by rw [hds]; simp [dropStep, hc],
              show (dropG a.a (g.take i)).2.length + 1 = (dropG a.a (g.take (i + 1))).2.length by rw [hds]; simp [dropStep, hc]]
            repeat (refine go rfl ?_)
            refine Fin.shutB _ bg (vec_shut (T := 3) hlg hcapg hspg) ?_
            exact fin_round (i + 1, o') (by dsimp only; omega) (by dsimp only; omega) ⟨rfl, rfl, rfl, rfl, rfl, rfl, by rw [wrap_succ (by omega)], trivial⟩
          · repeat (refine go rfl ?_)
            refine SXR.index x.toNat rfl (by omega) (by omega) (by omega) ?_
            repeat (refine go rfl ?_)
            refine SXS.row rfl (by rw [List.length_append, List.length_map]; omega) ?_
            rw [ints_set sp (by omega)]
            rw [show (dropG a.a (g.take i)).1.set x.toNat 0 = (dropG a.a (g.take (i + 1))).1 by rw [hds]; rfl,
              show (dropG a.a (g.take i)).2 = (dropG a.a (g.take (i + 1))).2 by rw [hds]; simp [dropStep, hc]]
            repeat (refine go rfl ?_)
            refine Fin.shutB _ bg (vec_shut (T := 3) hlg hcapg hspg) ?_
            exact fin_round (i + 1, o) (by dsimp only; omega) (by dsimp only; omega) ⟨rfl, rfl, rfl, rfl, rfl, rfl, by rw [wrap_succ (by omega)], trivial⟩
        · obtain rfl : i = g.length := by omega
          rw [List.take_length] at hdl ⊢
          repeat (refine go rfl ?_)
          refine SXR.callF (sumC_spec bc (addC a.c lo hi (-1))) rfl ?_
          repeat (refine go rfl ?_)
          refine SXB.split (fun hz => ?_) (fun hz => ?_)
          · rw [if_pos hz]
            refine SXC.open (poolX bp p bs (id - 1).toNat) (poolX_open bp p bs (id - 1).toNat) ?_
            rintro vp ⟨hbl, hpo⟩
            have hpg := Pl.get_some h
            have hpl : p.l.length ≤ 4096 := by have := hpo.1; have := hpo.2; omega
            have hkn : p.kn ≤ 4096 := by have := knL_le p.l; simp only [Pl.kn]; omega
            refine SXC.vec (v := vp) (n := bs.length) (sz := 1) (T := 64) (cs := bs.map pv) (fun _ h _ => absurd h (by omega)) ?_
            rintro bq capq spq rfl hcapq hspq hlq
            repeat (refine go rfl ?_)
            rw [show IntKind.i64.wrap (id - 1) = id - 1 from IntWalk.i64_in _ ⟨by omega, by omega⟩]
            refine SXR.index ((id - 1).toNat) rfl (by omega) (by omega) (by omega) ?_
            repeat (refine go rfl ?_)
            refine SXS.row rfl (by rw [List.length_append, List.length_map]; omega) ?_
            rw [show (bs.map pv ++ spq).set (id - 1).toNat (.pointer none) = (bs.set (id - 1).toNat none).map pv ++ spq from bs_set none spq (by omega)]
            repeat (refine go rfl ?_)
            rw [show IntKind.i64.wrap (p.kn - 1) = p.kn - 1 from IntWalk.i64_in _ ⟨by simp only [Pl.kn]; omega, by omega⟩]
            refine Fin.shutB _ bq (vec_shut (n := bs.length) (cap := capq) (sz := 1) (T := 64) (by simp) hcapq hspq) ?_
            refine Fin.shut _ (pool_gone bp p bs id a (.slice (some ⟨bq, 0, none⟩) bs.length capq) h hbl hpo) ?_
            exact fin_ret (.tmp rfl (.tmp rfl .nil)) ⟨_, bs.set (id - 1).toNat none, rfl, rfl⟩
          · rw [if_neg hz]
            have e := hdl.1
            repeat (refine go rfl ?_)
            refine Fin.shutB _ bv (vec_shut (n := a.a.length) (cap := cap) (sz := 1) (T := 3) (by simp [e]) hcap hsp) ?_
            rw [← e]
            refine Fin.shut (cs := [pts b (.cells [.pointer (some ⟨bc, 0, none⟩), .slice (some ⟨bv, 0, none⟩) (dropG a.a g).1.length cap].toArray 68 (0, 0)), cntC bc (addC a.c lo hi (-1)), vec (.slice (some ⟨bv, 0, none⟩) (dropG a.a g).1.length cap) (dropG a.a g).1.length 1 3 ((dropG a.a g).1.map intC)]) _ (oneH_shut b ⟨addC a.c lo hi (-1), (dropG a.a g).1⟩ bc (.slice (some ⟨bv, 0, none⟩) (dropG a.a g).1.length cap) ⟨by rw [addC_len]; exact e.trans hal, by rw [addC_len]; exact hok.2.1, by rw [addC_len]; exact hok.2.2.1, hdl.2.2 hok.2.2.2⟩) ?_
            refine Fin.shut _ (pool_close bp p bs id b a ⟨addC a.c lo hi (-1), (dropG a.a g).1⟩ h hb) ?_
            exact fin_ret (.tmp rfl (.tmp rfl .nil)) ⟨_, bs, rfl, rfl⟩
end Go.Proofs.Ytlgphhknfocfaaa
