import Derived.Test.YtlgphhknfocfaaaSpread9
namespace Go.Proofs.Ytlgphhknfocfaaa
open Go.Sl

theorem grow_spec (b : Nat) (n : Int) (h0 : 1 ≤ n) (hn : n ≤ 4096) : Tri Try.prog 44 [.pointer (some ⟨b, 0, none⟩), .int .i64 n] [pts b (.cells [.slice none 0 0, .int .i64 0, .bool true].toArray 87 (0, 0))]
    (fun u L' => u = .int .i64 0 ∧ L' = [cnt b [⟨0, n, 0⟩] n]) := by
  refine tri_intro Try.func44 rfl Try.results44 Try.ntmps44 rfl (by kernel_rfl) fun R => ?_
  repeat (refine go rfl ?_)
  refine SXR.callF (made_spec b (.slice none 0 0) 0 true) rfl ?_
  repeat (refine go rfl ?_)
  refine SXG.split rfl (fun hc => by omega) (fun _ => ?_)
  repeat (refine go rfl ?_)
  refine SXB.split (fun hc => by omega) (fun _ => ?_)
  repeat (refine go rfl ?_)
  refine SXB.split (fun hc => ?_) (fun _ => by omega)
  refine SXC.ent (big_add (A := vec (.slice none 0 0) ([] : List Rn).length 3 76 (rc [])) vec_nil) ?_
  repeat (refine go rfl ?_)
  refine SXC.draw [pts b (.cells [.slice none 0 0, .int .i64 0, .bool true].toArray 87 (0, 0))] (by kernel_rfl) ?_
  refine SXE.quiet 0 rfl rfl rfl (fun X => by (repeat (refine go rfl ?_)); exact fin_qs rfl) ?_
  refine SXE.quiet 1 rfl rfl rfl (fun X => by (repeat (refine go rfl ?_)); exact fin_qs rfl) ?_
  refine SXE.quiet 2 rfl rfl rfl (fun X => by (repeat (refine go rfl ?_)); exact fin_qs rfl) ?_
  refine SXE.quiet 3 rfl rfl rfl (fun X => by (repeat (refine go rfl ?_)); exact fin_qs rfl) ?_
  refine SXE.quiet 4 rfl rfl rfl (fun X => by (repeat (refine go rfl ?_)); exact fin_qs rfl) ?_
  refine SXE.quiet 6 rfl rfl rfl (fun X => by (repeat (refine go rfl ?_)); exact fin_qs rfl) ?_
  refine SXE.quiet 7 rfl rfl rfl (fun X => by (repeat (refine go rfl ?_)); exact fin_qs rfl) ?_
  refine SXE.quiet 8 rfl rfl rfl (fun X => by (repeat (refine go rfl ?_)); exact fin_qs rfl) ?_
  refine SXE.quiet 9 rfl rfl rfl (fun X => by (repeat (refine go rfl ?_)); exact fin_qs rfl) ?_
  refine SXE.quiet 10 rfl rfl rfl (fun X => by (repeat (refine go rfl ?_)); exact fin_qs rfl) ?_
  refine SXE.quiet 11 rfl rfl rfl (fun X => by (repeat (refine go rfl ?_)); exact fin_qs rfl) ?_
  refine SXE.two 5 12 rfl rfl rfl rfl rfl ?_ ?_
  all_goals
    repeat (first | refine go rfl ?_ | intro _)
    first
    | refine SXR.call (runClone_spec (.slice none 0 0) [] (by decide)) rfl ?_
      rintro u L' rfl
      dsimp only [List.cons_append, List.nil_append]
      repeat (refine go rfl ?_)
      refine fin_qeP rfl ?_
      refine SXE.one 12 rfl rfl rfl ?_
      repeat (first | refine go rfl ?_ | intro _)
      refine fin_qeP rfl ?_
      rename_i bl
    | refine fin_qeP rfl ?_
      rename_i bl
      refine SXE.one 5 rfl rfl rfl ?_
      repeat (refine go rfl ?_)
      refine SXR.call (runClone_spec (.slice none 0 0) [] (by decide)) rfl ?_
      rintro u L' rfl
      dsimp only [List.cons_append, List.nil_append]
      repeat (refine go rfl ?_)
      refine fin_qeP rfl ?_
    refine SXE.one 13 rfl rfl rfl ?_
    repeat (refine go rfl ?_)
    refine SXR.append (n := ([] : List Rn).length) (m := 1) (sz := 3) (e := 76) (ys := Rn.cells ⟨0, n, 0⟩) rfl (pk (vec u ([] : List Rn).length 3 76 (rc []))) rfl (fun w hw => RdS.of_pts (b := bl) (off := 0) (vs := Rn.cells ⟨0, n, 0⟩) (T := 76) (fr := (0, 0)) (Nat.le_refl 3) rfl hw) rfl (by simp [Rn.cells, Value.oneCell']) (by decide) (by decide) fun v' => ?_
    repeat (refine go rfl ?_)
    rw [show vec v' (([] : List Rn).length + 1) 3 76 (rc [] ++ Rn.cells ⟨0, n, 0⟩) = vec v' [(⟨0, n, 0⟩ : Rn)].length 3 76 (rc [⟨0, n, 0⟩]) from rfl]
    refine fin_qeP rfl ?_
    refine SXE.one 14 rfl rfl rfl ?_
    repeat (refine go rfl ?_)
    refine SXR.call (join_spec v' [⟨0, n, 0⟩] (Nat.le_of_ble_eq_true rfl)) rfl ?_
    rintro u2 L' rfl
    dsimp only [List.cons_append, List.nil_append]
    rw [show joinL [(⟨0, n, 0⟩ : Rn)] = [⟨0, n, 0⟩] from rfl]
    refine SXR.vec (v := u2) (n := [(⟨0, n, 0⟩ : Rn)].length) (sz := 3) (T := 76) (cs := rc [⟨0, n, 0⟩]) (fun _ h _ => absurd h (Nat.succ_ne_zero 0)) ?_
    rintro bj capj spj rfl hcapj hspj hlj
    repeat (refine go rfl ?_)
    refine fin_qeP rfl ?_
    refine SXE.quiet 15 rfl rfl rfl (fun X => by (repeat (refine go rfl ?_)); exact fin_qs rfl) ?_
    refine SXE.quiet 16 rfl rfl rfl (fun X => by (repeat (refine go rfl ?_)); exact fin_qs rfl) ?_
    refine SXE.sync 17 rfl rfl rfl ?_
    repeat (refine go rfl ?_)
    refine fin_qe20 [] ?_
    refine SXE.done rfl ?_
    repeat (refine go rfl ?_)
    refine Fin.shut _ (cnt_shut (b := b) (rs := [⟨0, n, 0⟩]) (n := n) (bs := bj) hcapj hspj) ?_
    exact fin_ret (.tmp rfl .nil) ⟨rfl, rfl⟩
end Go.Proofs.Ytlgphhknfocfaaa
