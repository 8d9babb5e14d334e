import Derived.Test.YtlgphhknfocfaaaSpread1
import Derived.Test.YtlgphhknfocfaaaSlLib2
namespace Go.Proofs.Ytlgphhknfocfaaa
open Go.Sl

theorem partsL_append (a b : List Rn) (lo hi : Int) : partsL (a ++ b) lo hi = partsL a lo hi ++ partsL b lo hi := by simp [partsL]
theorem partsL_succ {rs : List Rn} {i : Nat} {r : Rn} (h : rs[i]? = some r) (lo hi : Int) : partsL (rs.take (i + 1)) lo hi = partsL (rs.take i) lo hi ++ (if (clip lo hi r).lo < (clip lo hi r).hi then [clip lo hi r] else []) := by
  have : rs.take (i + 1) = rs.take i ++ [r] := by rw [List.take_add_one, h]; rfl
  rw [this, partsL_append]
  congr 1
  simp only [partsL, List.map_cons, List.map_nil, List.filter_cons, List.filter_nil]
  split <;> simp_all
theorem partsL_get {rs : List Rn} {i : Nat} {r : Rn} (h : rs[i]? = some r) {lo hi : Int} (hc : (clip lo hi r).lo < (clip lo hi r).hi) : (partsL rs lo hi)[(partsL (rs.take i) lo hi).length]? = some (clip lo hi r) := by
  have e : partsL rs lo hi = partsL (rs.take (i + 1)) lo hi ++ partsL (rs.drop (i + 1)) lo hi := by rw [← partsL_append, List.take_append_drop]
  rw [e, partsL_succ h, if_pos hc]
  simp

theorem cnt_open (b : Nat) (rs : List Rn) (n : Int) : ∀ m, cnt b rs n m → ∃ q : Nat × Nat × List Value, (rs.length ≤ q.2.1 ∧ q.2.2.length = (q.2.1 - rs.length) * 3) ∧
  big [pts b (.cells [.slice (some ⟨q.1, 0, none⟩) rs.length q.2.1, .int .i64 n, .bool true].toArray 87 (0, 0)), pts q.1 (.cells (rc rs ++ q.2.2).toArray 76 (0, 0))] m := fun _ h => h
theorem cnt_shut {b : Nat} {rs : List Rn} {n : Int} {bs cap : Nat} {sp : List Value} (h1 : rs.length ≤ cap) (h2 : sp.length = (cap - rs.length) * 3) : ∀ m, big [pts b (.cells [.slice (some ⟨bs, 0, none⟩) rs.length cap, .int .i64 n, .bool true].toArray 87 (0, 0)), pts bs (.cells (rc rs ++ sp).toArray 76 (0, 0))] m → cnt b rs n m :=
  fun _ h => ⟨(bs, cap, sp), ⟨h1, h2⟩, h⟩

theorem wrap_succ {i : Nat} (h : i < 9223372036854775807) : IntKind.i64.wrap ((i : Int) + 1) = ((i + 1 : Nat) : Int) := by
  rw [IntWalk.i64_in _ ⟨by omega, by omega⟩]; rfl
theorem cnt_made (b : Nat) (rs : List Rn) (n : Int) : Tri Try.prog 45 [.pointer (some ⟨b, 0, none⟩)] [cnt b rs n] (fun u l => u = .bool true ∧ l = [cnt b rs n]) := by
  refine tri_intro Try.func45 rfl Try.results45 Try.ntmps45 rfl (by kernel_rfl) fun R => ?_
  refine SXC.open (cnt b rs n) (cnt_open b rs n) ?_
  rintro ⟨bs, cap, sp⟩ ⟨hcap, hsp⟩
  dsimp only at hcap hsp ⊢
  repeat (refine go rfl ?_)
  refine Fin.shut _ (cnt_shut (b := b) (n := n) (bs := bs) hcap hsp) ?_
  exact fin_ret (.tmp rfl .nil) ⟨rfl, rfl⟩
theorem cnt_len (b : Nat) (rs : List Rn) (n : Int) : Tri Try.prog 50 [.pointer (some ⟨b, 0, none⟩)] [cnt b rs n] (fun u l => u = .int .i64 n ∧ l = [cnt b rs n]) := by
  refine tri_intro Try.func50 rfl Try.results50 Try.ntmps50 rfl (by kernel_rfl) fun R => ?_
  repeat (refine go rfl ?_)
  refine SXR.callF (cnt_made b rs n) rfl ?_
  refine SXR.open (cnt b rs n) (cnt_open b rs n) ?_
  rintro ⟨bs, cap, sp⟩ ⟨hcap, hsp⟩
  dsimp only at hcap hsp ⊢
  repeat (refine go rfl ?_)
  refine Fin.shut _ (cnt_shut (b := b) (n := n) (bs := bs) hcap hsp) ?_
  exact fin_ret (.tmp rfl .nil) ⟨rfl, rfl⟩

set_option maxRecDepth 4000 in
theorem parts1_spec (l b b1 b2 b3 : Nat) (rs : List Rn) (n lo hi : Int) (hlen : rs.length ≤ 1000000) (J : Nat → HP) (Jx : HP)
    (hy : ∀ k r', (partsL rs lo hi)[k]? = some r' → YTri Try.prog l [.agg (Rn.cells r').toArray] [J k] (fun v L' => (v = .bool true ∧ L' = [J (k + 1)]) ∨ (v = .bool false ∧ L' = [Jx]))) :
    Tri Try.prog 53 [.func (.yield l) #[] #[], .pointer (some ⟨b1, 0, none⟩), .pointer (some ⟨b2, 0, none⟩), .pointer (some ⟨b3, 0, none⟩)]
      [J 0, pts b1 (.cells [.pointer (some ⟨b, 0, none⟩)].toArray 65 (0, 0)), pts b2 (.cells [.int .i64 lo].toArray 3 (0, 0)), pts b3 (.cells [.int .i64 hi].toArray 3 (0, 0)), cnt b rs n]
      (fun v L' => v = .tuple #[] ∧ (L' = [J (partsL rs lo hi).length, cnt b rs n] ∨ L' = [Jx, cnt b rs n])) := by
  refine tri_intro Try.func53 rfl Try.results53 Try.ntmps53 rfl (by kernel_rfl) fun R => ?_
  repeat (refine go rfl ?_)
  refine SXR.callF (cnt_made b rs n) rfl ?_
  refine SXR.open (cnt b rs n) (cnt_open b rs n) ?_
  rintro ⟨bs, cap, sp⟩ ⟨hcap, hsp⟩
  dsimp only at hcap hsp ⊢
  repeat (refine go rfl ?_)
  rw [show J 0 = J (partsL (rs.take 0) lo hi).length from rfl]
  refine SXC.loop (fun i : Nat => i ≤ rs.length) (fun i => [(0, .func (.yield l) #[] #[]), (2, .pointer (some ⟨b2, 0, none⟩)), (3, .pointer (some ⟨b3, 0, none⟩)), (13, .slice (some ⟨bs, 0, none⟩) rs.length cap), (14, .int .i64 rs.length), (15, .int .i64 i)])
    (fun i => [J (partsL (rs.take i) lo hi).length, pts b2 (.cells [.int .i64 lo].toArray 3 (0, 0)), pts b3 (.cells [.int .i64 hi].toArray 3 (0, 0)), pts bs (.cells (rc rs ++ sp).toArray 76 (0, 0)), pts b (.cells [.slice (some ⟨bs, 0, none⟩) rs.length cap, .int .i64 n, .bool true].toArray 87 (0, 0))])
    (fun i => rs.length - i) 0 (Nat.zero_le _) ⟨rfl, rfl, rfl, rfl, rfl, rfl, trivial⟩ ?_
  intro i hi'
  repeat (refine go rfl ?_)
  refine SXB.split (fun hlt => ?_) (fun hge => ?_)
  · have hil : i < rs.length := by omega
    obtain ⟨r, hr⟩ : ∃ r, rs[i]? = some r := ⟨rs[i], List.getElem?_eq_getElem hil⟩
    repeat (refine go rfl ?_)
    refine SXR.index (i * 3) rfl (by omega) (by omega) (by omega) ?_
    repeat (refine go rfl ?_)
    refine SXL.aggAt (rc_take3 rs sp i r hr) (rc_fits rs sp i hil) ?_
    repeat (first | refine go rfl ?_ | intro b6)
    refine SXC.draw [pts b2 (.cells [.int .i64 lo].toArray 3 (0, 0)), pts b3 (.cells [.int .i64 hi].toArray 3 (0, 0))] (by kernel_rfl) ?_
    refine SXE.phase 0 rfl rfl rfl (by (repeat (refine go rfl ?_)); exact fin_qs rfl) ?_
    refine SXE.phase 1 rfl rfl rfl (by (repeat (refine go rfl ?_)); exact fin_qs rfl) ?_
    refine SXE.quiet 2 rfl rfl rfl (fun X => by (repeat (refine go rfl ?_)); exact fin_qs rfl) ?_
    refine SXE.phase 3 rfl rfl rfl (by (repeat (refine go rfl ?_)); exact fin_qs rfl) ?_
    refine SXE.phase 4 rfl rfl rfl (by (repeat (refine go rfl ?_)); exact fin_qs rfl) ?_
    refine SXE.phase 5 rfl rfl rfl (by (repeat (refine go rfl ?_)); exact fin_qs rfl) ?_
    refine SXE.quiet 6 rfl rfl rfl (fun X => by (repeat (refine go rfl ?_)); exact fin_qs rfl) ?_
    refine SXE.quiet 7 rfl rfl rfl (fun X => by (repeat (refine go rfl ?_)); exact fin_qs rfl) ?_
    refine SXE.phase 8 rfl rfl rfl (by (repeat (refine go rfl ?_)); exact fin_qs rfl) ?_
    refine SXE.one 9 rfl rfl rfl ?_
    repeat (refine go rfl ?_)
    refine fin_qe0P ?_
    refine SXE.phase 10 rfl rfl rfl (by (repeat (refine go rfl ?_)); exact fin_qs rfl) ?_
    refine SXE.one 11 rfl rfl rfl ?_
    repeat (refine go rfl ?_)
    refine fin_qe0P ?_
    refine SXE.done rfl ?_
    repeat (refine go rfl ?_)
    refine SXG.split rfl (fun hc => ?_) (fun hc => ?_)
    · have hk := partsL_get hr (lo := lo) (hi := hi) hc
      have hs := partsL_succ hr lo hi
      rw [if_pos (show (clip lo hi r).lo < (clip lo hi r).hi from hc)] at hs
      repeat (refine go rfl ?_)
      refine SXR.yield (hy _ _ hk) rfl rfl ?_
      rintro v L' (⟨rfl, rfl⟩ | ⟨rfl, rfl⟩)
      · dsimp only [List.cons_append, List.nil_append]
        rw [show J ((partsL (rs.take i) lo hi).length + 1) = J (partsL (rs.take (i + 1)) lo hi).length by rw [hs]; simp]
        repeat (refine go rfl ?_)
        exact fin_round (i + 1) (by omega) (by omega) ⟨rfl, rfl, rfl, rfl, rfl, by rw [wrap_succ (by omega)], trivial⟩
      · dsimp only [List.cons_append, List.nil_append]
        repeat (refine go rfl ?_)
        refine Fin.shut _ (cnt_shut (b := b) (n := n) (bs := bs) hcap hsp) ?_
        exact fin_ret .nil ⟨rfl, .inr rfl⟩
    · have hs := partsL_succ hr lo hi
      rw [if_neg (show ¬ (clip lo hi r).lo < (clip lo hi r).hi from hc), List.append_nil] at hs
      rw [← hs]
      repeat (refine go rfl ?_)
      exact fin_round (i + 1) (by omega) (by omega) ⟨rfl, rfl, rfl, rfl, rfl, by rw [wrap_succ (by omega)], trivial⟩
  · have hil : i = rs.length := by omega
    subst hil
    rw [List.take_length]
    repeat (refine go rfl ?_)
    refine Fin.shut _ (cnt_shut (b := b) (n := n) (bs := bs) hcap hsp) ?_
    exact fin_end .nil ⟨rfl, .inl rfl⟩
end Go.Proofs.Ytlgphhknfocfaaa
