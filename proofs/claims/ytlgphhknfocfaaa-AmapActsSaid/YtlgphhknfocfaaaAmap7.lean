import Derived.Test.YtlgphhknfocfaaaAmap6
namespace Go.Proofs.Ytlgphhknfocfaaa
open Go.Sl

def idxN (bs : List (Option Nat)) : Int := match bs.findIdx? Option.isNone with
  | some k => k
  | none => -1
theorem idxN_none {bs : List (Option Nat)} (h : ∀ (i : Nat) (r : Option Nat), bs[i]? = some r → r.isNone = false) : idxN bs = -1 := by
  have : bs.findIdx? Option.isNone = none := by
    rw [List.findIdx?_eq_none_iff]
    intro x hx
    obtain ⟨i, hi⟩ := List.getElem?_of_mem hx
    exact h i x hi
  simp [idxN, this]
theorem idxN_some {bs : List (Option Nat)} {k : Nat} {r : Option Nat} (h : ∀ i : Nat, i < k → ∀ r : Option Nat, bs[i]? = some r → r.isNone = false) (hk : bs[k]? = some r) (hf : r.isNone = true) : idxN bs = k := by
  have : bs.findIdx? Option.isNone = some k := by
    rw [List.findIdx?_eq_some_iff_getElem]
    obtain ⟨h1, h2⟩ := List.getElem?_eq_some_iff.1 hk
    exact ⟨h1, by rw [h2]; exact hf, fun j hj => by
      have := h j hj _ (List.getElem?_eq_getElem (by omega)); simp [this]⟩
  simp [idxN, this]
theorem pindex_spec (v : Value) (bs : List (Option Nat)) (hlen : bs.length ≤ 1000000) : Tri Try.prog 32 [v, .pointer none] [vec v bs.length 1 64 (bs.map pv)] (fun u l => u = .int .i64 (idxN bs) ∧ l = [vec v bs.length 1 64 (bs.map pv)]) := by
  refine tri_intro Try.func32 rfl Try.results32 Try.ntmps32 rfl (by kernel_rfl) fun R => ?_
  repeat (refine go rfl ?_)
  refine SXR.lenRd (n := bs.length) (cs := bs.map pv) rfl (fun w hw => RdS.of_vec (sz := 1) (T := 64) hw) ?_
  repeat (refine go rfl ?_)
  refine SXC.loop (fun i : Nat => i ≤ bs.length ∧ ∀ j, j < i → ∀ r, bs[j]? = some r → r.isNone = false) (fun i => [(0, v), (1, .pointer none), (7, .int .i64 bs.length), (8, .int .i64 i)])
    (fun _ => [vec v bs.length 1 64 (bs.map pv)]) (fun i => bs.length - i) 0 ⟨Nat.zero_le _, fun j h => absurd h (Nat.not_lt_zero _)⟩ ⟨rfl, rfl, rfl, rfl, trivial⟩ ?_
  rintro i ⟨hi', hno⟩
  repeat (refine go rfl ?_)
  refine SXB.split (fun hlt => ?_) (fun hge => ?_)
  · have hil : i < bs.length := by omega
    obtain ⟨r, hr⟩ : ∃ r, bs[i]? = some r := ⟨bs[i], List.getElem?_eq_getElem hil⟩
    refine SXC.vec (v := v) (n := bs.length) (sz := 1) (T := 64) (cs := bs.map pv) (fun _ h _ => absurd h (by omega)) ?_
    rintro b cap sp rfl hcap hsp hl
    repeat (refine go rfl ?_)
    refine SXR.index i rfl (by omega) (by omega) (by omega) ?_
    repeat (refine go rfl ?_)
    refine SXL.row (v := pv r) (by rw [List.getElem?_append_left (by simp; omega), List.getElem?_map, hr]; rfl) ?_
    cases r with
    | none =>
      repeat (refine go rfl ?_)
      refine Fin.shutB _ b (vec_shut (T := 64) hl hcap hsp) ?_
      exact fin_ret (.tmp rfl .nil) ⟨by rw [idxN_some hno hr rfl], rfl⟩
    | some q =>
      repeat (refine go rfl ?_)
      refine Fin.shutB _ b (vec_shut (T := 64) hl hcap hsp) ?_
      refine fin_round (i + 1) ⟨by omega, fun j hj r' hr' => ?_⟩ (by omega) ⟨rfl, rfl, rfl, by rw [wrap_succ (by omega)], trivial⟩
      by_cases e : j = i
      · subst e; rw [hr] at hr'; cases hr'; rfl
      · exact hno j (by omega) r' hr'
  · repeat (refine go rfl ?_)
    refine fin_ret (.tmp rfl .nil) ⟨?_, rfl⟩
    rw [idxN_none fun j r hr => hno j (by have := (List.getElem?_eq_some_iff.1 hr).1; omega) r hr]
theorem ints_spec (v1 v2 : Value) (l1 l2 : List Int) (h1 : l1.length ≤ 1000000) : Tri Try.prog 11 [v1, v2] [vec v1 l1.length 1 3 (l1.map intC), vec v2 l2.length 1 3 (l2.map intC)] (fun u l => u = .bool (decide (l1 = l2)) ∧ l = [vec v1 l1.length 1 3 (l1.map intC), vec v2 l2.length 1 3 (l2.map intC)]) := by
  refine tri_intro Try.func11 rfl Try.results11 Try.ntmps11 rfl (by kernel_rfl) fun R => ?_
  repeat (refine go rfl ?_)
  refine SXR.lenRd (n := l1.length) (cs := l1.map intC) rfl (fun w hw => RdS.of_vec (sz := 1) (T := 3) hw) ?_
  repeat (refine go rfl ?_)
  refine SXR.lenRd (n := l2.length) (cs := l2.map intC) rfl (fun w hw => RdS.of_vec (sz := 1) (T := 3) hw) ?_
  repeat (refine go rfl ?_)
  refine SXB.split (fun hne => ?_) (fun he => ?_)
  · repeat (refine go rfl ?_)
    refine fin_ret (.tmp rfl .nil) ⟨?_, rfl⟩
    rw [decide_eq_false (fun e => hne (by rw [e]))]
  have he : l1.length = l2.length := by omega
  repeat (refine go rfl ?_)
  refine SXR.lenRd (n := l1.length) (cs := l1.map intC) rfl (fun w hw => RdS.of_vec (sz := 1) (T := 3) hw) ?_
  repeat (refine go rfl ?_)
  refine SXC.loop (fun i : Nat => i ≤ l1.length ∧ ∀ j : Nat, j < i → gf l1 j = gf l2 j) (fun i => [(0, v1), (1, v2), (12, .int .i64 l1.length), (13, .int .i64 i)])
    (fun _ => [vec v1 l1.length 1 3 (l1.map intC), vec v2 l2.length 1 3 (l2.map intC)]) (fun i => l1.length - i) 0 ⟨Nat.zero_le _, fun j h => absurd h (Nat.not_lt_zero _)⟩ ⟨rfl, rfl, rfl, rfl, trivial⟩ ?_
  rintro i ⟨hi', hno⟩
  repeat (refine go rfl ?_)
  refine SXB.split (fun hlt => ?_) (fun hge => ?_)
  · have hil : i < l1.length := by omega
    refine SXC.vec (v := v1) (n := l1.length) (sz := 1) (T := 3) (cs := l1.map intC) (fun _ h _ => absurd h (by omega)) ?_
    rintro b cap sp rfl hcap hsp hl
    refine SXC.vec (v := v2) (n := l2.length) (sz := 1) (T := 3) (cs := l2.map intC) (fun _ h _ => absurd h (by omega)) ?_
    rintro b2 cap2 sp2 rfl hcap2 hsp2 hl2
    repeat (refine go rfl ?_)
    refine SXC.draw [pts b (.cells (l1.map intC ++ sp).toArray 3 (0, 0)), pts b2 (.cells (l2.map intC ++ sp2).toArray 3 (0, 0))] (by kernel_rfl) ?_
    refine SXE.quiet 0 rfl rfl rfl (fun X => by (repeat (refine go rfl ?_)); exact fin_qs rfl) ?_
    refine SXE.quiet 1 rfl rfl rfl (fun X => by (repeat (refine go rfl ?_)); exact fin_qs rfl) ?_
    refine SXE.phase 2 rfl rfl rfl (by (repeat (refine go rfl ?_)); refine SXR.index (i) rfl (by omega) (by omega) (by omega) ?_; (repeat (refine go rfl ?_)); exact fin_qs rfl) ?_
    refine SXE.phase 3 rfl rfl rfl (by (repeat (refine go rfl ?_)); refine SXL.row (ints_get sp hil) ?_; (repeat (refine go rfl ?_)); exact fin_qs rfl) ?_
    refine SXE.quiet 4 rfl rfl rfl (fun X => by (repeat (refine go rfl ?_)); exact fin_qs rfl) ?_
    refine SXE.quiet 5 rfl rfl rfl (fun X => by (repeat (refine go rfl ?_)); exact fin_qs rfl) ?_
    refine SXE.phase 6 rfl rfl rfl (by (repeat (refine go rfl ?_)); refine SXR.index (i) rfl (by omega) (by omega) (by omega) ?_; (repeat (refine go rfl ?_)); exact fin_qs rfl) ?_
    refine SXE.phase 7 rfl rfl rfl (by (repeat (refine go rfl ?_)); refine SXL.row (ints_get sp2 (l := l2) (i := i) (by omega)) ?_; (repeat (refine go rfl ?_)); exact fin_qs rfl) ?_
    refine SXE.phase 8 rfl rfl rfl (by (repeat (refine go rfl ?_)); exact fin_qs rfl) ?_
    refine SXE.done rfl ?_
    refine Fin.shutB _ b (vec_shut (T := 3) hl hcap hsp) ?_
    refine Fin.shutB _ b2 (vec_shut (T := 3) hl2 hcap2 hsp2) ?_
    repeat (refine go rfl ?_)
    refine SXB.split (fun hc => ?_) (fun hc => ?_)
    · repeat (refine go rfl ?_)
      refine fin_ret (.tmp rfl .nil) ⟨?_, rfl⟩
      rw [decide_eq_false (fun e => hc (by rw [e]))]
    · repeat (refine go rfl ?_)
      refine fin_round (i + 1) ⟨by omega, fun j hj => ?_⟩ (by omega) ⟨rfl, rfl, rfl, by rw [wrap_succ (by omega)], trivial⟩
      by_cases e : j = i
      · subst e; exact hc
      · exact hno j (by omega)
  · repeat (refine go rfl ?_)
    refine fin_ret (.tmp rfl .nil) ⟨?_, rfl⟩
    have : l1 = l2 := List.ext_getElem he fun j hj1 hj2 => by rw [← gf_get hj1, ← gf_get hj2]; exact hno j (by omega)
    rw [decide_eq_true this]
end Go.Proofs.Ytlgphhknfocfaaa
