import Derived.Test.YtlgphhknfocfaaaAmap3
namespace Go.Proofs.Ytlgphhknfocfaaa
open Go.Sl

def Pl.set (p : Pl) (id s x : Int) : Int × Int × Pl := match p.get id with
  | none => (0, 7, p)
  | some a => if p.cover id s = 0 ∨ x < 0 then (0, 2, p) else (gf a.a s, 0, p.upd id ⟨a.c, a.a.set s.toNat x⟩)
theorem ints_set {l : List Int} {i : Nat} {x : Int} (sp : List Value) (h : i < l.length) : (l.map intC ++ sp).set i (.int .i64 x) = (l.set i x).map intC ++ sp := by
  rw [List.set_append_left _ _ (by simpa using h), List.map_set]
theorem set_spec (bp : Nat) (p : Pl) (bs : List (Option Nat)) (id s x : Int) : Tri Try.prog 8 [.pointer (some ⟨bp, 0, none⟩), .int .i64 id, .int .i64 s, .int .i64 x] [poolB bp p bs]
    (fun u l => u = .tuple #[.int .i64 (p.set id s x).1, .int .i64 (p.set id s x).2.1] ∧ l = [poolB bp (p.set id s x).2.2 bs]) := by
  refine tri_intro Try.func8 rfl Try.results8 Try.ntmps8 rfl (by kernel_rfl) fun R => ?_
  repeat (refine go rfl ?_)
  refine SXR.callF (known_spec bp p bs id) rfl ?_
  cases h : p.get id with
  | none =>
    have he : p.er id = 7 := by simp [Pl.er, h]
    have hs : p.set id s x = (0, 7, p) := by simp [Pl.set, h]
    rw [he, hs]
    repeat (refine go rfl ?_)
    refine SXB.split (fun _ => ?_) (fun hc => by exact absurd hc (by decide))
    repeat (refine go rfl ?_)
    exact fin_ret (.tmp rfl (.tmp rfl .nil)) ⟨rfl, rfl⟩
  | some a =>
    have he : p.er id = 0 := by simp [Pl.er, h]
    rw [he]
    repeat (refine go rfl ?_)
    refine SXB.split (fun hc => by exact absurd rfl hc) (fun _ => ?_)
    repeat (refine go rfl ?_)
    refine SXR.callF (cover_spec bp p bs id s) rfl ?_
    repeat (refine go rfl ?_)
    refine SXG.split rfl (fun h1 => ?_) (fun h1 => ?_)
    · have hs : p.set id s x = (0, 2, p) := by simp [Pl.set, h, h1]
      rw [hs]
      repeat (refine go rfl ?_)
      exact fin_ret (.tmp rfl (.tmp rfl .nil)) ⟨rfl, rfl⟩
    · repeat (refine go rfl ?_)
      refine SXB.split (fun h2 => ?_) (fun h2 => ?_)
      · have hs : p.set id s x = (0, 2, p) := by simp [Pl.set, h, h2]
        rw [hs]
        repeat (refine go rfl ?_)
        exact fin_ret (.tmp rfl (.tmp rfl .nil)) ⟨rfl, rfl⟩
      · have hs : p.set id s x = (gf a.a s, 0, p.upd id ⟨a.c, a.a.set s.toNat x⟩) := by
          simp only [Pl.set, h]; exact if_neg (by rintro (hh | hh); exact h1 hh; exact h2 hh)
        rw [hs]
        refine SXC.open (poolB bp p bs) (pool_open bp p bs id a h) ?_
        intro b hb
        rw [hb.2]
        refine SXC.open (oneH b a) (oneH_open b a) ?_
        rintro ⟨bc, v⟩ hok
        dsimp only
        have hr : 0 ≤ s ∧ s < a.c.length := by
          apply Classical.byContradiction
          intro hn
          exact h1 (by simp only [Pl.cover, h]; rw [if_neg hn]; rfl)
        have hal := hok.1
        have hal2 := hok.2.2.1
        refine SXC.vec (v := v) (n := a.a.length) (sz := 1) (T := 3) (cs := a.a.map intC) (fun _ h _ => absurd h (by omega)) ?_
        rintro bv cap sp rfl hcap hsp hl
        repeat (refine go rfl ?_)
        refine SXR.index s.toNat rfl (by omega) (by omega) (by omega) ?_
        repeat (refine go rfl ?_)
        refine SXL.row (ints_get sp (i := s.toNat) (by omega)) ?_
        rw [show ((s.toNat : Nat) : Int) = s by omega]
        repeat (refine go rfl ?_)
        refine SXR.index s.toNat rfl (by omega) (by omega) (by omega) ?_
        repeat (refine go rfl ?_)
        refine SXS.row rfl (by rw [List.length_append, List.length_map]; omega) ?_
        rw [ints_set sp (by omega)]
        repeat (refine go rfl ?_)
        refine Fin.shutB _ bv (vec_shut (n := a.a.length) (sz := 1) (T := 3) (by simp) hcap hsp) ?_
        rw [show a.a.length = (a.a.set s.toNat x).length by simp]
        refine Fin.shut (cs := [pts b (.cells [.pointer (some ⟨bc, 0, none⟩), .slice (some ⟨bv, 0, none⟩) (a.a.set s.toNat x).length cap].toArray 68 (0, 0)), cntC bc a.c, vec (.slice (some ⟨bv, 0, none⟩) (a.a.set s.toNat x).length cap) (a.a.set s.toNat x).length 1 3 ((a.a.set s.toNat x).map intC)]) _ (oneH_shut b ⟨a.c, a.a.set s.toNat x⟩ bc (.slice (some ⟨bv, 0, none⟩) (a.a.set s.toNat x).length cap) ⟨by simp [hal], hok.2.1, hok.2.2.1, fun y hy => ?_⟩) ?_
        · rcases List.mem_or_eq_of_mem_set hy with hy | hy
          · exact hok.2.2.2 y hy
          · omega
        refine Fin.shut _ (pool_close bp p bs id b a ⟨a.c, a.a.set s.toNat x⟩ h hb) ?_
        exact fin_ret (.tmp rfl (.tmp rfl .nil)) ⟨rfl, rfl⟩
end Go.Proofs.Ytlgphhknfocfaaa
