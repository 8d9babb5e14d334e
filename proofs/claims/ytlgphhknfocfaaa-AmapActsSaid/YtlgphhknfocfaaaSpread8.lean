import Derived.Test.YtlgphhknfocfaaaSpread7
namespace Go.Proofs.Ytlgphhknfocfaaa
open Go.Sl

def joinStep (out : List Rn) (r : Rn) : List Rn := match out.getLast? with
  | some q => if q.n = r.n then out.dropLast ++ [⟨q.lo, r.hi, q.n⟩] else out ++ [r]
  | none => [r]
def joinL (l : List Rn) : List Rn := l.foldl joinStep []
theorem joinL_succ {l : List Rn} {i : Nat} {r : Rn} (h : l[i]? = some r) : joinL (l.take (i + 1)) = joinStep (joinL (l.take i)) r := by
  have : l.take (i + 1) = l.take i ++ [r] := by rw [List.take_add_one, h]; rfl
  rw [this]; simp [joinL]
theorem joinStep_le (out : List Rn) (r : Rn) : (joinStep out r).length ≤ out.length + 1 := by
  unfold joinStep
  split
  · split
    · rw [List.length_append, List.length_dropLast]
      simp
    · simp
  · simp
theorem joinL_le (l : List Rn) : ∀ i, i ≤ l.length → (joinL (l.take i)).length ≤ i
  | 0, _ => by simp [joinL]
  | i + 1, h => by
    have := joinL_le l i (by omega)
    rw [joinL_succ (List.getElem?_eq_getElem (show i < l.length by omega))]
    have := joinStep_le (joinL (l.take i)) l[i]
    omega
theorem rc_at2 (o : List Rn) (q : Rn) (sp : List Value) : (rc (o ++ [q]) ++ sp)[o.length * 3 + 2]? = some (.int .i64 q.n) := by
  rw [rc_append, List.append_assoc, List.getElem?_append_right (by rw [rc_length]; omega), rc_length]
  simp [rc, Rn.cells, show o.length * 3 + 2 - o.length * 3 = 2 by omega]
theorem rc_set1 (o : List Rn) (q : Rn) (sp : List Value) (h : Int) : (rc (o ++ [q]) ++ sp).set (o.length * 3 + 1) (.int .i64 h) = rc (o ++ [⟨q.lo, h, q.n⟩]) ++ sp := by
  rw [rc_append, rc_append, List.append_assoc, List.append_assoc, List.set_append_right _ _ (by rw [rc_length]; omega), rc_length]
  simp [rc, Rn.cells, show o.length * 3 + 1 - o.length * 3 = 1 by omega]
set_option maxRecDepth 4000 in
theorem join_spec (v : Value) (l : List Rn) (hlen : l.length ≤ 1000000) : Tri Try.prog 49 [v] [vec v l.length 3 76 (rc l)] (fun u L' => L' = [vec u (joinL l).length 3 76 (rc (joinL l))]) := by
  refine tri_intro Try.func49 rfl Try.results49 Try.ntmps49 rfl (by kernel_rfl) fun R => ?_
  repeat (refine go rfl ?_)
  refine SXR.lenRd (n := l.length) (cs := rc l) rfl (fun w hw => RdS.of_vec (sz := 3) (T := 76) hw) ?_
  repeat (refine go rfl ?_)
  refine SXC.ent (big_add (A := vec (0, Value.slice none 0 0).2 (joinL (l.take (0, Value.slice none 0 0).1)).length 3 76 (rc (joinL (l.take (0, Value.slice none 0 0).1)))) vec_nil) ?_
  refine SXC.loop (fun x : Nat × Value => x.1 ≤ l.length) (fun x => [(7, v), (8, .int .i64 l.length), (9, .int .i64 x.1), (3, x.2)])
    (fun x => [vec x.2 (joinL (l.take x.1)).length 3 76 (rc (joinL (l.take x.1))), vec v l.length 3 76 (rc l)]) (fun x => l.length - x.1) (0, .slice none 0 0) (Nat.zero_le _) ⟨rfl, rfl, rfl, rfl, trivial⟩ ?_
  rintro ⟨i, u⟩ hi'
  dsimp only at hi' ⊢
  repeat (refine go rfl ?_)
  refine SXB.split (fun hlt => ?_) (fun hge => ?_)
  · have hil : i < l.length := by omega
    obtain ⟨r, hr⟩ : ∃ r, l[i]? = some r := ⟨l[i], List.getElem?_eq_getElem hil⟩
    have hs := joinL_succ hr
    have hle := joinL_le l i (by omega)
    repeat (refine go rfl ?_)
    refine SXR.vec (v := v) (n := l.length) (sz := 3) (T := 76) (cs := rc l) (fun _ h _ => absurd h (by omega)) ?_
    rintro b cap sp rfl hcap hsp hl
    repeat (refine go rfl ?_)
    refine SXR.index (i * 3) rfl (by omega) (by omega) (by omega) ?_
    repeat (refine go rfl ?_)
    refine SXL.aggAt (rc_take3 l sp i r hr) (rc_fits l sp i hil) ?_
    repeat (first | refine go rfl ?_ | intro b5)
    refine SXR.lenRd (n := (joinL (l.take i)).length) (cs := rc (joinL (l.take i))) rfl (fun w hw => RdS.of_vec (sz := 3) (T := 76) hw) ?_
    repeat (refine go rfl ?_)
    refine SXC.shutB _ b (vec_shut (T := 76) hl hcap hsp) ?_
    rcases List.eq_nil_or_concat (joinL (l.take i)) with he | ⟨o, q, he⟩
    · rw [show IntKind.i64.wrap (((joinL (l.take i)).length : Int) - 1) = -1 by rw [he]; decide]
      refine SXC.draw [pts b5 (.cells [.int .i64 r.lo, .int .i64 r.hi, .int .i64 r.n].toArray 76 (0, 0))] (by kernel_rfl) ?_
      refine SXE.quiet 0 rfl rfl rfl (fun X => by (repeat (refine go rfl ?_)); exact fin_qs rfl) ?_
      refine SXE.quiet 1 rfl rfl rfl (fun X => by (repeat (refine go rfl ?_)); exact fin_qs rfl) ?_
      rw [show decide ((-1 : Int) ≥ 0) = false by decide]
      refine SXE.quiet 2 rfl rfl rfl (fun X => by (repeat (refine go rfl ?_)); exact fin_qs rfl) ?_
      refine SXE.quiet 3 rfl rfl rfl (fun X => by (repeat (refine go rfl ?_)); exact fin_qs rfl) ?_
      refine SXE.quiet 4 rfl rfl rfl (fun X => by (repeat (refine go rfl ?_)); exact fin_qs rfl) ?_
      refine SXE.quiet 5 rfl rfl rfl (fun X => by (repeat (refine go rfl ?_)); exact fin_qs rfl) ?_
      refine SXE.quiet 6 rfl rfl rfl (fun X => by (repeat (refine go rfl ?_)); exact fin_qs rfl) ?_
      refine SXE.quiet 7 rfl rfl rfl (fun X => by (repeat (refine go rfl ?_)); exact fin_qs rfl) ?_
      refine SXE.quiet 8 rfl rfl rfl (fun X => by (repeat (refine go rfl ?_)); exact fin_qs rfl) ?_
      refine SXE.quiet 9 rfl rfl rfl (fun X => by (repeat (refine go rfl ?_)); exact fin_qs rfl) ?_
      refine SXE.quiet 10 rfl rfl rfl (fun X => by (repeat (refine go rfl ?_)); exact fin_qs rfl) ?_
      refine SXE.quiet 11 rfl rfl rfl (fun X => by (repeat (refine go rfl ?_)); exact fin_qs rfl) ?_
      refine SXE.done rfl ?_
      repeat (first | refine go rfl ?_ | intro bs)
      refine SXR.append (n := (joinL (l.take i)).length) (m := 1) (sz := 3) (e := 76) (ys := Rn.cells r) rfl (pk (vec u (joinL (l.take i)).length 3 76 (rc (joinL (l.take i))))) rfl (fun w hw => RdS.of_pts (b := bs) (off := 0) (vs := Rn.cells r) (T := 76) (fr := (0, 0)) (Nat.le_refl 3) rfl hw) rfl (by simp [Rn.cells, Value.oneCell']) (by omega) (by omega) fun v' => ?_
      have hj : joinL (l.take (i + 1)) = joinL (l.take i) ++ [r] := by rw [hs, he]; rfl
      rw [show rc (joinL (l.take i)) ++ Rn.cells r = rc (joinL (l.take (i + 1))) by rw [hj, rc_append]; simp [rc], show (joinL (l.take i)).length + 1 = (joinL (l.take (i + 1))).length by rw [hj]; simp]
      repeat (refine go rfl ?_)
      exact fin_round (i + 1, v') (by dsimp only; omega) (by dsimp only; omega) ⟨rfl, rfl, by rw [wrap_succ (by omega)], rfl, trivial⟩
    · rw [List.concat_eq_append] at he
      rw [he] at hle hs ⊢
      have hn : (o ++ [q]).length = o.length + 1 := by simp
      rw [show IntKind.i64.wrap (((o ++ [q]).length : Int) - 1) = (o.length : Int) by rw [IntWalk.i64_in _ ⟨by omega, by omega⟩, hn]; omega]
      refine SXC.vec (v := u) (n := (o ++ [q]).length) (sz := 3) (T := 76) (cs := rc (o ++ [q])) (fun _ h _ => absurd h (by omega)) ?_
      rintro bu capu spu rfl hcapu hspu hlu
      refine SXC.draw [pts b5 (.cells [.int .i64 r.lo, .int .i64 r.hi, .int .i64 r.n].toArray 76 (0, 0)), pts bu (.cells (rc (o ++ [q]) ++ spu).toArray 76 (0, 0))] (by kernel_rfl) ?_
      refine SXE.quiet 0 rfl rfl rfl (fun X => by (repeat (refine go rfl ?_)); exact fin_qs rfl) ?_
      refine SXE.quiet 1 rfl rfl rfl (fun X => by (repeat (refine go rfl ?_)); exact fin_qs rfl) ?_
      rw [show decide ((o.length : Int) ≥ 0) = true from decide_eq_true (by omega)]
      refine SXE.quiet 2 rfl rfl rfl (fun X => by (repeat (refine go rfl ?_)); exact fin_qs rfl) ?_
      refine SXE.quiet 3 rfl rfl rfl (fun X => by (repeat (refine go rfl ?_)); exact fin_qs rfl) ?_
      refine SXE.quiet 4 rfl rfl rfl (fun X => by (repeat (refine go rfl ?_)); exact fin_qs rfl) ?_
      refine SXE.quiet 5 rfl rfl rfl (fun X => by (repeat (refine go rfl ?_)); refine SXR.index (o.length * 3) rfl (by omega) (by omega) (by omega) ?_; (repeat (refine go rfl ?_)); exact fin_qs rfl) ?_
      refine SXE.quiet 6 rfl rfl rfl (fun X => by (repeat (refine go rfl ?_)); exact fin_qs rfl) ?_
      refine SXE.quiet 7 rfl rfl rfl (fun X => by (repeat (refine go rfl ?_)); refine SXL.row (rc_at2 o q spu) ?_; (repeat (refine go rfl ?_)); exact fin_qs rfl) ?_
      refine SXE.quiet 8 rfl rfl rfl (fun X => by (repeat (refine go rfl ?_)); exact fin_qs rfl) ?_
      refine SXE.quiet 9 rfl rfl rfl (fun X => by (repeat (refine go rfl ?_)); exact fin_qs rfl) ?_
      refine SXE.quiet 10 rfl rfl rfl (fun X => by (repeat (refine go rfl ?_)); exact fin_qs rfl) ?_
      refine SXE.quiet 11 rfl rfl rfl (fun X => by (repeat (refine go rfl ?_)); exact fin_qs rfl) ?_
      refine SXE.done rfl ?_
      repeat (refine go rfl ?_)
      refine SXB.split (fun hc => ?_) (fun hc => ?_)
      · have hj : joinL (l.take (i + 1)) = o ++ [⟨q.lo, r.hi, q.n⟩] := by rw [hs]; simp [joinStep, hc]
        repeat (refine go rfl ?_)
        refine SXR.index (o.length * 3) rfl (by omega) (by omega) (by omega) ?_
        repeat (refine go rfl ?_)
        refine SXS.row rfl (by rw [List.length_append, rc_length]; omega) ?_
        rw [rc_set1]
        repeat (refine go rfl ?_)
        refine Fin.shutB _ bu (vec_shut (n := (o ++ [q]).length) (cs := rc (o ++ [⟨q.lo, r.hi, q.n⟩])) (T := 76) (by rw [rc_length]; simp) hcapu hspu) ?_
        rw [show (o ++ [q]).length = (joinL (l.take (i + 1))).length by rw [hj]; simp, ← hj]
        exact fin_round (i + 1, .slice (some ⟨bu, 0, none⟩) (joinL (l.take (i + 1))).length capu) (by dsimp only; omega) (by dsimp only; omega) ⟨rfl, rfl, by rw [wrap_succ (by omega)], rfl, trivial⟩
      · have hj : joinL (l.take (i + 1)) = o ++ [q] ++ [r] := by rw [hs]; simp [joinStep, hc]
        refine SXC.shutB _ bu (vec_shut (T := 76) hlu hcapu hspu) ?_
        repeat (first | refine go rfl ?_ | intro bs)
        refine SXR.append (n := (o ++ [q]).length) (m := 1) (sz := 3) (e := 76) (ys := Rn.cells r) rfl (pk (vec (.slice (some ⟨bu, 0, none⟩) (o ++ [q]).length capu) (o ++ [q]).length 3 76 (rc (o ++ [q])))) rfl (fun w hw => RdS.of_pts (b := bs) (off := 0) (vs := Rn.cells r) (T := 76) (fr := (0, 0)) (Nat.le_refl 3) rfl hw) rfl (by simp [Rn.cells, Value.oneCell']) (by omega) (by omega) fun v' => ?_
        rw [show rc (o ++ [q]) ++ Rn.cells r = rc (joinL (l.take (i + 1))) by rw [hj, rc_append (o ++ [q])]; simp [rc], show (o ++ [q]).length + 1 = (joinL (l.take (i + 1))).length by rw [hj]; simp]
        repeat (refine go rfl ?_)
        exact fin_round (i + 1, v') (by dsimp only; omega) (by dsimp only; omega) ⟨rfl, rfl, by rw [wrap_succ (by omega)], rfl, trivial⟩
  · obtain rfl : i = l.length := by omega
    rw [List.take_length]
    repeat (refine go rfl ?_)
    exact fin_ret (.tmp rfl .nil) rfl
end Go.Proofs.Ytlgphhknfocfaaa
