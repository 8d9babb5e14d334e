import Derived.Test.YtlgphhknfocfaaaAmap8
namespace Go.Proofs.Ytlgphhknfocfaaa
open Go.Sl

def idsU (s : List Bool) (i : Nat) : List Int := (List.range i).filterMap fun k : Nat => if s[k]? = some false then some ((k : Int) + 1) else none
theorem idsU_succ (s : List Bool) (i : Nat) : idsU s (i + 1) = idsU s i ++ (if s[i]? = some false then [(i : Int) + 1] else []) := by
  unfold idsU
  rw [List.range_succ, List.filterMap_append]
  congr 1
  split <;> simp_all
theorem idsU_len (s : List Bool) (i : Nat) : (idsU s i).length ≤ i := by
  unfold idsU
  refine Nat.le_trans (List.length_filterMap_le _ _) ?_
  simp
def Pl.ids (p : Pl) : List Int := idsU (p.l.map Option.isNone) p.l.length
theorem ids_spec (bp : Nat) (p : Pl) (bs : List (Option Nat)) : Tri Try.prog 12 [.pointer (some ⟨bp, 0, none⟩)] [poolB bp p bs] (fun u l => l = [poolB bp p bs, vec u p.ids.length 1 3 (p.ids.map intC)]) := by
  refine tri_intro Try.func12 rfl Try.results12 Try.ntmps12 rfl (by kernel_rfl) fun R => ?_
  repeat (refine go rfl ?_)
  refine SXR.callF (pmade_spec bp p bs) rfl ?_
  refine SXR.open (poolB bp p bs) (fun m hm => by
    obtain ⟨v, ⟨h1, h2⟩, hm⟩ := hm
    have hsh : bs.map Option.isNone = p.l.map Option.isNone := zip_shape h1 (by
      have := big_tail (big_tail hm)
      have := big_flat this; rwa [List.append_nil] at this)
    exact ⟨v, (⟨h1, h2, hsh⟩ : bs.length = p.l.length ∧ p.ok ∧ bs.map Option.isNone = p.l.map Option.isNone), hm⟩) ?_
  rintro v ⟨hbl, hpo, hsh⟩
  have hpl : bs.length ≤ 4096 := by have := hpo.1; have := hpo.2; omega
  have hids : p.ids = idsU (bs.map Option.isNone) bs.length := by unfold Pl.ids; rw [hsh, hbl]
  rw [hids]
  repeat (refine go rfl ?_)
  refine SXR.lenRd (n := bs.length) (cs := bs.map pv) rfl (fun w hw => RdS.of_vec (sz := 1) (T := 64) hw) ?_
  repeat (refine go rfl ?_)
  refine SXC.ent (big_add (A := vec (0, Value.slice none 0 0).2 (idsU (bs.map Option.isNone) (0, Value.slice none 0 0).1).length 1 3 ((idsU (bs.map Option.isNone) (0, Value.slice none 0 0).1).map intC)) vec_nil) ?_
  refine SXC.loop (fun x : Nat × Value => x.1 ≤ bs.length) (fun x => [(3, x.2), (12, v), (13, .int .i64 bs.length), (14, .int .i64 x.1)])
    (fun x => [vec x.2 (idsU (bs.map Option.isNone) x.1).length 1 3 ((idsU (bs.map Option.isNone) x.1).map intC), vec v bs.length 1 64 (bs.map pv)]) (fun x => bs.length - x.1) (0, .slice none 0 0) (Nat.zero_le _) ⟨rfl, rfl, rfl, rfl, trivial⟩ ?_
  rintro ⟨i, o⟩ hi'
  dsimp only at hi' ⊢
  repeat (refine go rfl ?_)
  refine SXB.split (fun hlt => ?_) (fun hge => ?_)
  · have hil : i < bs.length := by omega
    obtain ⟨r, hr⟩ : ∃ r, bs[i]? = some r := ⟨bs[i], List.getElem?_eq_getElem hil⟩
    have hsu := idsU_succ (bs.map Option.isNone) i
    have hsl := idsU_len (bs.map Option.isNone) i
    rw [List.getElem?_map, hr] at hsu
    refine SXC.vec (v := v) (n := bs.length) (sz := 1) (T := 64) (cs := bs.map pv) (fun _ h _ => absurd h (by omega)) ?_
    rintro b cap sp rfl hcap hsp hl
    repeat (refine go rfl ?_)
    refine SXR.index i rfl (by omega) (by omega) (by omega) ?_
    repeat (refine go rfl ?_)
    refine SXL.row (v := pv r) (by rw [List.getElem?_append_left (by simp; omega), List.getElem?_map, hr]; rfl) ?_
    cases r with
    | none =>
      have e : idsU (bs.map Option.isNone) (i + 1) = idsU (bs.map Option.isNone) i := by rw [hsu]; simp
      repeat (refine go rfl ?_)
      refine Fin.shutB _ b (vec_shut (T := 64) hl hcap hsp) ?_
      rw [← e]
      exact fin_round (i + 1, o) (by dsimp only; omega) (by dsimp only; omega) ⟨rfl, rfl, rfl, by rw [wrap_succ (by omega)], trivial⟩
    | some q =>
      have e : idsU (bs.map Option.isNone) (i + 1) = idsU (bs.map Option.isNone) i ++ [(i : Int) + 1] := by rw [hsu]; simp
      repeat (refine go rfl ?_)
      rw [show IntKind.i64.wrap ((i : Int) + 1) = (i : Int) + 1 from IntWalk.i64_in _ ⟨by omega, by omega⟩]
      repeat (first | refine go rfl ?_ | intro bx)
      refine SXR.append (n := (idsU (bs.map Option.isNone) i).length) (m := 1) (sz := 1) (e := 3) (ys := [intC ((i : Int) + 1)]) rfl (pk (vec o (idsU (bs.map Option.isNone) i).length 1 3 ((idsU (bs.map Option.isNone) i).map intC))) rfl (fun w hw => RdS.of_pts (b := bx) (off := 0) (vs := [intC ((i : Int) + 1)]) (T := 3) (fr := (0, 0)) (Nat.le_refl 1) rfl hw) rfl (by simp [Value.oneCell']) (by omega) (by omega) fun o' => ?_
      rw [show (idsU (bs.map Option.isNone) i).map intC ++ [intC ((i : Int) + 1)] = (idsU (bs.map Option.isNone) (i + 1)).map intC by rw [e]; simp, show (idsU (bs.map Option.isNone) i).length + 1 = (idsU (bs.map Option.isNone) (i + 1)).length by rw [e]; simp]
      repeat (refine go rfl ?_)
      refine Fin.shutB _ b (vec_shut (T := 64) hl hcap hsp) ?_
      exact fin_round (i + 1, o') (by dsimp only; omega) (by dsimp only; omega) ⟨rfl, rfl, rfl, by rw [wrap_succ (by omega)], trivial⟩
  · obtain rfl : i = bs.length := by omega
    repeat (refine go rfl ?_)
    refine Fin.shut _ (poolB_shut bp p bs v ⟨hbl, hpo⟩) ?_
    exact fin_ret (.tmp rfl .nil) rfl
end Go.Proofs.Ytlgphhknfocfaaa
