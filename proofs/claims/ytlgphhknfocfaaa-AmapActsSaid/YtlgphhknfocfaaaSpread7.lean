import Derived.Test.YtlgphhknfocfaaaSpread6
import Derived.Test.YtlgphhknfocfaaaSlLib2
namespace Go.Proofs.Ytlgphhknfocfaaa
open Go.Sl

def splitF (at' : Int) (r : Rn) : Bool := decide (r.lo < at') && decide (at' < r.hi)
def splitL (l : List Rn) (at' : Int) : List Rn := match l.findIdx? (splitF at') with
  | none => l
  | some k => match l[k]? with
    | none => l
    | some r => l.take k ++ [⟨r.lo, at', r.n⟩, ⟨at', r.hi, r.n⟩] ++ l.drop (k + 1)
theorem rc_take {l : List Rn} {sp : List Value} {k : Nat} : (rc l ++ sp).take (rc (l.take k)).length = rc (l.take k) := by
  have e : rc l = rc (l.take k) ++ rc (l.drop k) := by rw [← rc_append, List.take_append_drop]
  rw [e, List.append_assoc, List.take_left]
theorem rc_skip {l : List Rn} {sp : List Value} {k : Nat} (h : k ≤ l.length) : ((rc l ++ sp).drop (k * 3)).take (rc (l.drop k)).length = rc (l.drop k) := by
  have e : rc l = rc (l.take k) ++ rc (l.drop k) := by rw [← rc_append, List.take_append_drop]
  have e2 : k * 3 = (rc (l.take k)).length := by rw [rc_length, List.length_take]; omega
  rw [e, e2, List.append_assoc, List.drop_left, List.take_left]
theorem splitL_pos {l : List Rn} {a : Int} (h : 0 < l.length) : 0 < (splitL l a).length := by
  unfold splitL
  split
  · exact h
  · split
    · exact h
    · simp only [List.length_append, List.length_cons, List.length_nil]; omega
theorem splitL_le {l : List Rn} {a : Int} : (splitL l a).length ≤ l.length + 1 := by
  unfold splitL
  split
  · omega
  · split
    · omega
    · rename_i h
      have := (List.getElem?_eq_some_iff.1 h).1
      simp; omega
set_option maxRecDepth 4000 in
theorem split_spec (v : Value) (l : List Rn) (a : Int) (h0 : 0 < l.length) (hlen : l.length ≤ 999998) : Tri Try.prog 47 [v, .int .i64 a] [vec v l.length 3 76 (rc l)] (fun u L' => L' = [vec u (splitL l a).length 3 76 (rc (splitL l a))]) := by
  refine tri_intro Try.func47 rfl Try.results47 Try.ntmps47 rfl (by kernel_rfl) fun R => ?_
  refine SXC.vec (v := v) (n := l.length) (sz := 3) (T := 76) (cs := rc l) ?_ ?_
  · rintro rfl hn hl; omega
  · rintro b cap sp rfl hcap hsp hl
    repeat (first | refine go rfl ?_ | intro b3)
    refine SXR.callF (runIndex_spec b cap 55 l sp [.pointer (some ⟨b3, 0, none⟩)] (pts b3 (.cells [.int .i64 a].toArray 3 (0, 0))) (splitF a) (by omega) (fun r => split1_spec r b3 a)) rfl ?_
    repeat (refine go rfl ?_)
    cases hk : l.findIdx? (splitF a) with
    | none =>
      have hs : splitL l a = l := by simp [splitL, hk]
      have hi : idxF (splitF a) l = -1 := by simp [idxF, hk]
      rw [hi, hs]
      refine SXB.split (fun _ => ?_) (fun hc => by omega)
      repeat (refine go rfl ?_)
      refine Fin.shutB _ b (vec_shut (T := 76) hl hcap hsp) ?_
      exact fin_ret (.tmp rfl .nil) rfl
    | some k =>
      have hkl : k < l.length := by
        obtain ⟨h, _⟩ := List.findIdx?_eq_some_iff_getElem.1 hk
        exact h
      obtain ⟨r, hr⟩ : ∃ r, l[k]? = some r := ⟨l[k], List.getElem?_eq_getElem hkl⟩
      have hs : splitL l a = l.take k ++ [⟨r.lo, a, r.n⟩, ⟨a, r.hi, r.n⟩] ++ l.drop (k + 1) := by simp [splitL, hk, hr]
      have hi : idxF (splitF a) l = k := by simp [idxF, hk]
      rw [hi]
      refine SXB.split (fun hc => by omega) (fun _ => ?_)
      repeat (refine go rfl ?_)
      refine SXC.draw [pts b (.cells (rc l ++ sp).toArray 76 (0, 0))] (by kernel_rfl) ?_
      refine SXE.quiet 0 rfl rfl rfl (fun X => by (repeat (refine go rfl ?_)); exact fin_qs rfl) ?_
      refine SXE.quiet 1 rfl rfl rfl (fun X => by (repeat (refine go rfl ?_)); exact fin_qs rfl) ?_
      refine SXE.quiet 2 rfl rfl rfl (fun X => by (repeat (refine go rfl ?_)); refine SXR.index (k * 3) rfl (by omega) (by omega) (by omega) ?_; (repeat (refine go rfl ?_)); exact fin_qs rfl) ?_
      refine SXE.quiet 3 rfl rfl rfl (fun X => by (repeat (refine go rfl ?_)); refine SXL.aggAt (rc_take3 l sp k r hr) (rc_fits l sp k hkl) ?_; (repeat (refine go rfl ?_)); exact fin_qs rfl) ?_
      refine SXE.quiet 4 rfl rfl rfl (fun X => by (repeat (refine go rfl ?_)); exact fin_qs rfl) ?_
      refine SXE.quiet 5 rfl rfl rfl (fun X => by (repeat (refine go rfl ?_)); exact fin_qs rfl) ?_
      refine SXE.quiet 6 rfl rfl rfl (fun X => by (repeat (refine go rfl ?_)); refine SXR.index (k * 3) rfl (by omega) (by omega) (by omega) ?_; (repeat (refine go rfl ?_)); exact fin_qs rfl) ?_
      refine SXE.quiet 7 rfl rfl rfl (fun X => by (repeat (refine go rfl ?_)); refine SXL.aggAt (rc_take3 l sp k r hr) (rc_fits l sp k hkl) ?_; (repeat (refine go rfl ?_)); exact fin_qs rfl) ?_
      refine SXE.two 8 9 rfl rfl rfl rfl rfl ?_ ?_
      all_goals
        repeat (first | refine go rfl ?_ | intro _)
        refine fin_qeP rfl ?_
        first
        | refine SXE.one 9 rfl rfl rfl ?_
          rename_i b6
          repeat (first | refine go rfl ?_ | intro _)
          refine fin_qeP rfl ?_
          rename_i b7
        | refine SXE.one 8 rfl rfl rfl ?_
          rename_i b7
          repeat (first | refine go rfl ?_ | intro _)
          refine fin_qeP rfl ?_
          rename_i b6
        refine SXE.one 10 rfl rfl rfl ?_
        repeat (refine go rfl ?_)
        refine fin_qe0P ?_
        refine SXE.one 11 rfl rfl rfl ?_
        repeat (refine go rfl ?_)
        refine fin_qe0P ?_
        refine SXE.done rfl ?_
        repeat (refine go rfl ?_)
        refine SXC.draw [pts b3 (.cells [.int .i64 a].toArray 3 (0, 0))] (by kernel_rfl) ?_
        refine SXE.quiet 0 rfl rfl rfl (fun X => by (repeat (refine go rfl ?_)); exact fin_qs rfl) ?_
        refine SXE.quiet 1 rfl rfl rfl (fun X => by (repeat (refine go rfl ?_)); exact fin_qs rfl) ?_
        refine SXE.quiet 2 rfl rfl rfl (fun X => by (repeat (refine go rfl ?_)); exact fin_qs rfl) ?_
        refine SXE.one 3 rfl rfl rfl ?_
        repeat (refine go rfl ?_)
        refine fin_qe0P ?_
        refine SXE.quiet 4 rfl rfl rfl (fun X => by (repeat (refine go rfl ?_)); exact fin_qs rfl) ?_
        refine SXE.one 5 rfl rfl rfl ?_
        repeat (refine go rfl ?_)
        refine fin_qe0P ?_
        refine SXE.done rfl ?_
        repeat (refine go rfl ?_)
        refine SXC.draw [pts b (.cells (rc l ++ sp).toArray 76 (0, 0)), pts b6 (.cells [.int .i64 r.lo, .int .i64 a, .int .i64 r.n].toArray 76 (0, 0)), pts b7 (.cells [.int .i64 a, .int .i64 r.hi, .int .i64 r.n].toArray 76 (0, 0))] (by kernel_rfl) ?_
        refine SXE.quiet 0 rfl rfl rfl (fun X => by (repeat (refine go rfl ?_)); exact fin_qs rfl) ?_
        refine SXE.quiet 1 rfl rfl rfl (fun X => by (repeat (refine go rfl ?_)); exact fin_qs rfl) ?_
        refine SXE.quiet 2 rfl rfl rfl (fun X => by (repeat (refine go rfl ?_)); exact fin_qs rfl) ?_
        refine SXE.quiet 3 rfl rfl rfl (fun X => by (repeat (refine go rfl ?_)); refine SXR.slice3 k k rfl rfl rfl rfl (by omega) (by omega) ?_; (repeat (refine go rfl ?_)); exact fin_qs rfl) ?_
        refine SXE.quiet 4 rfl rfl rfl (fun X => by (repeat (refine go rfl ?_)); exact fin_qs rfl) ?_
        refine SXE.quiet 5 rfl rfl rfl (fun X => by (repeat (refine go rfl ?_)); exact fin_qs rfl) ?_
        refine SXE.quiet 7 rfl rfl rfl (fun X => by (repeat (refine go rfl ?_)); exact fin_qs rfl) ?_
        refine SXE.quiet 8 rfl rfl rfl (fun X => by (repeat (refine go rfl ?_)); exact fin_qs rfl) ?_
        refine SXE.quiet 9 rfl rfl rfl (fun X => by (repeat (refine go rfl ?_)); exact fin_qs rfl) ?_
        rw [wrap_succ (by omega)]
        refine SXE.quiet 10 rfl rfl rfl (fun X => by (repeat (refine go rfl ?_)); refine SXR.sliceLo (k + 1) _ rfl rfl (by omega) rfl ?_; (repeat (refine go rfl ?_)); exact fin_qs rfl) ?_
        refine SXE.one 6 rfl rfl rfl ?_
        repeat (first | refine go rfl ?_ | intro _)
        refine fin_qeP rfl ?_
        rename_i bs2
        refine SXE.one 11 rfl rfl rfl ?_
        repeat (first | refine go rfl ?_ | intro _)
        refine fin_qeP rfl ?_
        rename_i bs3
        refine SXE.one 12 rfl rfl rfl ?_
        repeat (refine go rfl ?_)
        have spc := fun hr => runConcat_spec bs3 [(.slice (some ⟨b, 0, none⟩) k k, l.take k), (.slice (some ⟨bs2, 0, none⟩) 2 2, [⟨r.lo, a, r.n⟩, ⟨a, r.hi, r.n⟩]), (.slice (some ⟨b, if cap = k + 1 then 0 else 0 + (k + 1) * 3, none⟩) (l.length - (k + 1)) (cap - (k + 1)), l.drop (k + 1))]
          [pts b (.cells (rc l ++ sp).toArray 76 (0, 0)), pts bs2 (.cells [.int .i64 r.lo, .int .i64 a, .int .i64 r.n, .int .i64 a, .int .i64 r.hi, .int .i64 r.n].toArray 76 (0, 0))] hr (by simp) (by rw [show catL _ = l.take k ++ ([⟨r.lo, a, r.n⟩, ⟨a, r.hi, r.n⟩] ++ (l.drop (k + 1) ++ [])) from rfl]; simp; omega)
        dsimp only [List.map, List.length_cons, List.length_nil] at spc
        refine SXR.call (spc ?_) rfl ?_
        · intro x hx L w hw
          dsimp only [List.cons_append, List.nil_append] at hw
          rcases List.mem_cons.1 hx with rfl | hx
          · rw [show (l.take k).length = k by simp; omega]
            exact RdS.of_pts (vs := rc l ++ sp) (off := 0) (by simp [rc_length]; omega) (by simpa using rc_take) hw
          · rcases List.mem_cons.1 hx with rfl | hx
            · exact RdS.of_pts (b := bs2) (off := 0) (vs := [.int .i64 r.lo, .int .i64 a, .int .i64 r.n, .int .i64 a, .int .i64 r.hi, .int .i64 r.n]) (T := 76) (fr := (0, 0)) (Nat.le_refl 6) rfl hw
            · rw [List.mem_singleton] at hx
              subst hx
              dsimp only
              rw [List.length_drop]
              by_cases hc : cap = k + 1
              · rw [if_pos hc]
                have : l.drop (k + 1) = [] := List.drop_eq_nil_of_le (by omega)
                rw [this]
                exact RdS.of_pts (vs := rc l ++ sp) (off := 0) (by simp [rc]) (by simp [rc]) hw
              · rw [if_neg hc, Nat.zero_add]
                exact RdS.of_pts (vs := rc l ++ sp) (off := (k + 1) * 3) (by rw [rc_length, List.length_append, rc_length, List.length_drop]; omega) (rc_skip (by omega)) hw
        · rintro u L' rfl
          have hcat : catL [(Value.slice (some ⟨b, 0, none⟩) k k, l.take k), (.slice (some ⟨bs2, 0, none⟩) 2 2, [⟨r.lo, a, r.n⟩, ⟨a, r.hi, r.n⟩]), (.slice (some ⟨b, if cap = k + 1 then 0 else 0 + (k + 1) * 3, none⟩) (l.length - (k + 1)) (cap - (k + 1)), l.drop (k + 1))] = splitL l a := by rw [hs]; simp [catL]
          rw [hcat]
          dsimp only [List.cons_append, List.nil_append]
          repeat (refine go rfl ?_)
          refine fin_qeP rfl ?_
          refine SXE.phase 13 rfl rfl rfl (by (repeat (refine go rfl ?_)); exact fin_qs rfl) ?_
          refine SXE.done rfl ?_
          repeat (refine go rfl ?_)
          exact fin_ret (.tmp rfl .nil) rfl
end Go.Proofs.Ytlgphhknfocfaaa
