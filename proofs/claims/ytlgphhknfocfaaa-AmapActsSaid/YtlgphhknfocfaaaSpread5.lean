import Derived.Test.YtlgphhknfocfaaaSpread4
namespace Go.Proofs.Ytlgphhknfocfaaa
open Go.Sl

theorem split1_spec (r : Rn) (bAt : Nat) (at' : Int) : Tri Try.prog 55 [.agg (Rn.cells r).toArray, .pointer (some ⟨bAt, 0, none⟩)] [pts bAt (.cells [.int .i64 at'].toArray 3 (0, 0))] (fun u l => u = .bool (decide (r.lo < at') && decide (at' < r.hi)) ∧ l = [pts bAt (.cells [.int .i64 at'].toArray 3 (0, 0))]) := by
  refine tri_intro Try.func55 rfl Try.results55 Try.ntmps55 rfl (by kernel_rfl) fun R => ?_
  repeat (first | refine go rfl ?_ | intro _)
  refine SXG.split rfl (fun hc => ?_) (fun hc => ?_)
  · repeat (refine go rfl ?_)
    exact fin_ret (.tmp rfl .nil) ⟨by simp [hc], rfl⟩
  · repeat (refine go rfl ?_)
    exact fin_ret (.tmp rfl .nil) ⟨by simp [hc], rfl⟩

def idxF (f : Rn → Bool) (l : List Rn) : Int := match l.findIdx? f with
  | some k => k
  | none => -1
theorem idxF_none {f : Rn → Bool} {l : List Rn} (h : ∀ (i : Nat) (r : Rn), l[i]? = some r → f r = false) : idxF f l = -1 := by
  have : l.findIdx? f = none := by
    rw [List.findIdx?_eq_none_iff]
    intro x hx
    obtain ⟨i, hi⟩ := List.getElem?_of_mem hx
    exact h i x hi
  simp [idxF, this]
theorem idxF_some {f : Rn → Bool} {l : List Rn} {k : Nat} {r : Rn} (h : ∀ i : Nat, i < k → ∀ r : Rn, l[i]? = some r → f r = false) (hk : l[k]? = some r) (hf : f r = true) : idxF f l = k := by
  have : l.findIdx? f = some k := by
    rw [List.findIdx?_eq_some_iff_getElem]
    obtain ⟨h1, h2⟩ := List.getElem?_eq_some_iff.1 hk
    exact ⟨h1, by rw [h2]; exact hf, fun j hj => by
      have := h j hj _ (List.getElem?_eq_getElem (by omega)); simp [this]⟩
  simp [idxF, this]
theorem runIndex_spec (b cap g : Nat) (l : List Rn) (sp : List Value) (caps : List Value) (C : HP) (f : Rn → Bool) [CalF Try.prog g] (hlen : l.length ≤ 1000000) (hf : ∀ r, Tri Try.prog g (.agg (Rn.cells r).toArray :: caps) [C] (fun u L' => u = .bool (f r) ∧ L' = [C])) :
    Tri Try.prog 54 [.slice (some ⟨b, 0, none⟩) l.length cap, .func (.func g) #[] caps.toArray] [pts b (.cells (rc l ++ sp).toArray 76 (0, 0)), C] (fun u L' => u = .int .i64 (idxF f l) ∧ L' = [pts b (.cells (rc l ++ sp).toArray 76 (0, 0)), C]) := by
  refine tri_intro Try.func54 rfl Try.results54 Try.ntmps54 rfl (by kernel_rfl) fun R => ?_
  repeat (refine go rfl ?_)
  refine SXC.loop (fun i : Nat => i ≤ l.length ∧ ∀ j, j < i → ∀ r, l[j]? = some r → f r = false) (fun i => [(0, .slice (some ⟨b, 0, none⟩) l.length cap), (1, .func (.func g) #[] caps.toArray), (7, .int .i64 l.length), (8, .int .i64 i)])
    (fun _ => [pts b (.cells (rc l ++ sp).toArray 76 (0, 0)), C]) (fun i => l.length - i) 0 ⟨Nat.zero_le _, fun j h => absurd h (Nat.not_lt_zero _)⟩ ⟨rfl, rfl, rfl, rfl, trivial⟩ ?_
  rintro i ⟨hi', hno⟩
  repeat (refine go rfl ?_)
  refine SXB.split (fun hlt => ?_) (fun hge => ?_)
  · have hil : i < l.length := by omega
    obtain ⟨r, hr⟩ : ∃ r, l[i]? = some r := ⟨l[i], List.getElem?_eq_getElem hil⟩
    repeat (refine go rfl ?_)
    refine SXR.index (i * 3) rfl (by omega) (by omega) (by omega) ?_
    repeat (refine go rfl ?_)
    refine SXL.aggAt (rc_take3 l sp i r hr) (rc_fits l sp i hil) ?_
    repeat (refine go rfl ?_)
    refine SXR.callVF (vs := [.agg (Rn.cells r).toArray]) (hf r) rfl rfl ?_
    repeat (refine go rfl ?_)
    refine SXB.split (fun hc => ?_) (fun hc => ?_)
    · repeat (refine go rfl ?_)
      exact fin_ret (.tmp rfl .nil) ⟨by rw [idxF_some hno hr hc], rfl⟩
    · repeat (refine go rfl ?_)
      refine fin_round (i + 1) ⟨by omega, fun j hj r' hr' => ?_⟩ (by omega) ⟨rfl, rfl, rfl, by rw [wrap_succ (by omega)], trivial⟩
      by_cases e : j = i
      · subst e; rw [hr] at hr'; cases hr'; exact hc
      · exact hno j (by omega) r' hr'
  · repeat (refine go rfl ?_)
    refine fin_ret (.tmp rfl .nil) ⟨?_, rfl⟩
    rw [idxF_none fun j r hr => hno j (by have := (List.getElem?_eq_some_iff.1 hr).1; omega) r hr]
theorem runGrow_spec (n : Int) (h0 : 0 ≤ n) (hn : n ≤ 1000000) : Tri Try.prog 57 [.slice none 0 0, .int .i64 n] [] (fun u L' => L' = [vec u 0 3 76 []]) := by
  refine tri_intro Try.func57 rfl Try.results57 Try.ntmps57 rfl (by kernel_rfl) fun R => ?_
  repeat (refine go rfl ?_)
  refine SXB.split (fun hc => by omega) (fun _ => ?_)
  repeat (refine go rfl ?_)
  rw [show IntKind.i64.wrap (n - IntKind.i64.wrap (((0 : Nat) : Int) - ((0 : Nat) : Int))) = n by rw [show IntKind.i64.wrap (((0 : Nat) : Int) - ((0 : Nat) : Int)) = 0 by decide]; exact (IntWalk.i64_in _ ⟨by omega, by omega⟩).trans (by omega)]
  refine SXB.split (fun hc => ?_) (fun hc => ?_)
  · repeat (refine go rfl ?_)
    refine SXR.sliceNil rfl ?_
    repeat (refine go rfl ?_)
    refine SXR.appendZeros (sz := 3) (bytes := 24) rfl rfl (by decide) hc (by omega) (by omega) fun b cap hcap => ?_
    repeat (refine go rfl ?_)
    refine SXR.sliceHi 0 rfl rfl (Nat.zero_le _) ?_
    repeat (refine go rfl ?_)
    refine Fin.shutB _ b (fun m h => vec_shut (n := 0) (sz := 3) (T := 76) (cs := []) (cap := cap) rfl (Nat.zero_le _) ?_ m h) ?_
    · simp [zerosL_length]; omega
    exact fin_ret (.tmp rfl .nil) rfl
  · repeat (refine go rfl ?_)
    refine Fin.ent (big_add (A := vec (.slice none 0 0) 0 3 76 []) vec_nil) ?_
    exact fin_ret (.tmp rfl .nil) rfl
end Go.Proofs.Ytlgphhknfocfaaa
