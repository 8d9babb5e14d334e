import Derived.Test.YtlgphhknfocfaaaSpread10
namespace Go.Proofs.Ytlgphhknfocfaaa
open Go.Sl

def sumR (l : List Rn) : Int := (l.map fun r => r.n * (r.hi - r.lo)).sum
theorem sumR_le (n : Int) : ∀ (l : List Rn), (∀ r ∈ l, 0 ≤ r.lo ∧ r.lo ≤ r.hi ∧ r.hi ≤ 4096 ∧ 0 ≤ r.n ∧ r.n ≤ 1000000) → 0 ≤ sumR l ∧ sumR l ≤ 4096000000 * l.length := by
  intro l
  induction l with
  | nil => intro _; simp [sumR]
  | cons r l ih =>
    intro h
    have h1 := ih fun r hr => h r (List.mem_cons_of_mem _ hr)
    have h2 := h r List.mem_cons_self
    have h3 : 0 ≤ r.n * (r.hi - r.lo) := Int.mul_nonneg (by omega) (by omega)
    have h4 : r.n * (r.hi - r.lo) ≤ 1000000 * 4096 := Int.mul_le_mul (by omega) (by omega) (by omega) (by omega)
    simp only [sumR, List.map_cons, List.sum_cons, List.length_cons] at h1 ⊢
    omega
theorem partsL_bnd {rs : List Rn} {n lo hi : Int} (hB : Bnd rs n) (h0 : 0 ≤ lo) : ∀ r ∈ partsL rs lo hi, 0 ≤ r.lo ∧ r.lo ≤ r.hi ∧ r.hi ≤ 4096 ∧ 0 ≤ r.n ∧ r.n ≤ 1000000 := by
  intro r h
  obtain ⟨q, hq, rfl, hlt⟩ := partsL_mem h
  have := hB.2.2.2 q hq
  have := hB.2.2.1
  simp only [clip] at hlt ⊢
  omega
theorem partsL_len (rs : List Rn) (lo hi : Int) : (partsL rs lo hi).length ≤ rs.length := by
  unfold partsL; exact Nat.le_trans (List.length_filter_le _ _) (by simp)
theorem sum_spec (b : Nat) (rs : List Rn) (n : Int) (hB : Bnd rs n) : Tri Try.prog 36 [.pointer (some ⟨b, 0, none⟩)] [cnt b rs n]
    (fun u L' => u = .int .i64 (sumR (partsL rs 0 n)) ∧ L' = [cnt b rs n]) := by
  obtain ⟨hlen, hn0, hn, hr⟩ := id hB
  refine tri_intro Try.func36 rfl Try.results36 Try.ntmps36 rfl (by kernel_rfl) fun R => ?_
  repeat (first | refine go rfl ?_ | intro _)
  rename_i b4
  refine SXR.callF (cnt_len b rs n) rfl ?_
  repeat (refine go rfl ?_)
  refine SXR.call (parts_spec b 0 n) rfl ?_
  rintro v L' ⟨b1, b2, b3, rfl, rfl⟩
  dsimp only [List.cons_append, List.nil_append]
  repeat (refine go rfl ?_)
  refine SXC.rangeFunc (pre := [pts b4 (.cells [.int .i64 0].toArray 3 (0, 0)), pts b1 (.cells [.pointer (some ⟨b, 0, none⟩)].toArray 65 (0, 0)), pts b2 (.cells [.int .i64 0].toArray 3 (0, 0)), pts b3 (.cells [.int .i64 n].toArray 3 (0, 0)), cnt b rs n]) rfl
    (fun l r hl => parts_iter hl b b1 b2 b3 rs n 0 n (by omega) (fun k => [pts b4 (.cells [.int .i64 (sumR ((partsL rs 0 n).take k))].toArray 3 (0, 0))]) (fun c L => False) ?_) ?_ ?_
  · intro k r' hk
    have hrm := partsL_bnd hB (Int.le_refl 0) r' (List.mem_of_getElem? hk)
    have hsl := sumR_le n ((partsL rs 0 n).take k) fun r h => partsL_bnd hB (Int.le_refl 0) r (List.mem_of_mem_take h)
    have hk2 : ((partsL rs 0 n).take k).length ≤ 4096 := by have := partsL_len rs 0 n; rw [List.length_take]; omega
    have hs : sumR ((partsL rs 0 n).take (k + 1)) = sumR ((partsL rs 0 n).take k) + r'.n * (r'.hi - r'.lo) := by
      rw [List.take_add_one, hk]; simp [sumR]
    have h3 : 0 ≤ r'.n * (r'.hi - r'.lo) := Int.mul_nonneg (by omega) (by omega)
    have h4 : r'.n * (r'.hi - r'.lo) ≤ 1000000 * 4096 := Int.mul_le_mul (by omega) (by omega) (by omega) (by omega)
    refine ytri_of hl rfl (by kernel_rfl) (by kernel_rfl) (by kernel_rfl) fun R => ?_
    repeat (first | refine go rfl ?_ | intro _)
    refine fin_asg hl.state ?_
    repeat (refine go rfl ?_)
    rw [show IntKind.i64.wrap (sumR ((partsL rs 0 n).take k) + IntKind.i64.wrap (r'.n * IntKind.i64.wrap (r'.hi - r'.lo))) = sumR ((partsL rs 0 n).take (k + 1)) by
      rw [show IntKind.i64.wrap (r'.hi - r'.lo) = r'.hi - r'.lo from IntWalk.i64_in _ ⟨by omega, by omega⟩, show IntKind.i64.wrap (r'.n * (r'.hi - r'.lo)) = r'.n * (r'.hi - r'.lo) from IntWalk.i64_in _ ⟨by omega, by omega⟩, hs]
      exact IntWalk.i64_in _ ⟨by omega, by omega⟩]
    exact fin_rnd (.inl ⟨rfl, rfl⟩)
  · rintro D L'' (⟨_, rfl⟩ | ⟨c, L, h, _⟩)
    · dsimp only [List.cons_append, List.nil_append]
      rw [List.take_length]
      repeat (refine go rfl ?_)
      refine fin_mark ?_
      exact fin_ret (.tmp rfl .nil) ⟨rfl, rfl⟩
    · cases h
  · rintro D L'' c (⟨h, _⟩ | ⟨c', L, h, hf, rfl⟩)
    · cases h
    · exact hf.elim

theorem runs_spec (b : Nat) (rs : List Rn) (n : Int) (hlen : rs.length ≤ 4096) : Tri Try.prog 35 [.pointer (some ⟨b, 0, none⟩)] [cnt b rs n]
    (fun u L' => L' = [cnt b rs n, vec u rs.length 3 76 (rc rs)]) := by
  refine tri_intro Try.func35 rfl Try.results35 Try.ntmps35 rfl (by kernel_rfl) fun R => ?_
  repeat (refine go rfl ?_)
  refine SXR.callF (cnt_made b rs n) rfl ?_
  refine SXR.open (cnt b rs n) (cnt_open b rs n) ?_
  rintro ⟨bs, cap, sp⟩ ⟨hcap, hsp⟩
  dsimp only at hcap hsp ⊢
  repeat (refine go rfl ?_)
  refine SXR.shutB _ bs (vec_shut (n := rs.length) (sz := 3) (T := 76) (by rw [rc_length]) hcap hsp) ?_
  refine SXR.call (runClone_spec (.slice (some ⟨bs, 0, none⟩) rs.length cap) rs (by omega)) rfl ?_
  rintro u L' rfl
  dsimp only [List.cons_append, List.nil_append]
  refine SXR.vec (v := .slice (some ⟨bs, 0, none⟩) rs.length cap) (n := rs.length) (sz := 3) (T := 76) (cs := rc rs) (fun h _ _ => by cases h) ?_
  rintro bs' cap' sp' he hcap' hsp' _
  cases he
  repeat (refine go rfl ?_)
  refine Fin.shut _ (cnt_shut (b := b) (rs := rs) (n := n) (bs := bs) hcap' hsp') ?_
  exact fin_ret (.tmp rfl .nil) rfl

theorem new_spec (n : Int) (h0 : 1 ≤ n) (hn : n ≤ 4096) : Tri Try.prog 30 [.int .i64 n] [] (fun u L' => ∃ b, u = .pointer (some ⟨b, 0, none⟩) ∧ L' = [cnt b [⟨0, n, 0⟩] n]) := by
  refine tri_intro Try.func30 rfl Try.results30 Try.ntmps30 rfl (by kernel_rfl) fun R => ?_
  repeat (refine go rfl ?_)
  refine SXG.split rfl (fun hc => by omega) (fun _ => ?_)
  repeat (refine go rfl ?_)
  refine SXB.split (fun hc => by omega) (fun _ => ?_)
  repeat (first | refine go rfl ?_ | intro b)
  refine SXR.callF (grow_spec b n h0 hn) rfl ?_
  repeat (refine go rfl ?_)
  exact fin_ret (.tmp rfl .nil) ⟨_, rfl, rfl⟩
end Go.Proofs.Ytlgphhknfocfaaa
