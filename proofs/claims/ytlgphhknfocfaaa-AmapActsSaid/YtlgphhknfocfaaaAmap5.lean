import Derived.Test.YtlgphhknfocfaaaAmap4
namespace Go.Proofs.Ytlgphhknfocfaaa
open Go.Sl

def zeroIn (c : List Int) (lo hi : Int) : Prop := ∃ i, lo ≤ i ∧ i < hi ∧ gf c i = 0
theorem RepL.zero {rs : List Rn} {c : List Int} (h : RepL rs c) {lo hi : Int} (h0 : 0 ≤ lo) (hh : hi ≤ c.length) (hl : lo < hi) : zeroIn c lo hi ↔ ∃ r ∈ rs, r.n = 0 ∧ r.lo < hi ∧ lo < r.hi := by
  obtain ⟨h1, h2, h3, h4⟩ := h
  constructor
  · rintro ⟨i, hi1, hi2, hz⟩
    obtain ⟨r, hr, h5, h6⟩ := chain_cover h1 i (by omega) (by omega)
    exact ⟨r, hr, by rw [← h2 r hr i h5 h6, hz], by omega, by omega⟩
  · rintro ⟨r, hr, hz, h5, h6⟩
    have hm := chain_mem h1 r hr
    by_cases hc : lo ≤ r.lo
    · exact ⟨r.lo, hc, h5, by rw [h2 r hr r.lo (Int.le_refl _) hm.2.1, hz]⟩
    · exact ⟨lo, Int.le_refl _, hl, by rw [h2 r hr lo (by omega) h6, hz]⟩
instance (c : List Int) (lo hi : Int) : Decidable (zeroIn c lo hi) := decidable_of_iff ((irange lo hi).any (fun i => decide (gf c i = 0)) = true) (by
  simp only [List.any_eq_true, mem_irange, decide_eq_true_eq, zeroIn]
  exact ⟨fun ⟨i, ⟨h1, h2⟩, h3⟩ => ⟨i, h1, h2, h3⟩, fun ⟨i, h1, h2, h3⟩ => ⟨i, ⟨h1, h2⟩, h3⟩⟩)
instance (c : List Int) (lo hi d : Int) : Decidable (badC c lo hi d) := decidable_of_iff (lo < 0 ∨ (c.length : Int) < hi ∨ hi < lo ∨ (irange lo hi).any (fun i => decide (d < -gf c i ∨ 1000000 - gf c i < d)) = true) (by
  simp only [List.any_eq_true, mem_irange, decide_eq_true_eq, badC]
  exact or_congr Iff.rfl (or_congr Iff.rfl (or_congr Iff.rfl ⟨fun ⟨i, ⟨h1, h2⟩, h3⟩ => ⟨i, h1, h2, h3⟩, fun ⟨i, h1, h2, h3⟩ => ⟨i, ⟨h1, h2⟩, h3⟩⟩)))
def Pl.hold (p : Pl) (id lo hi : Int) : Int × Pl := match p.get id with
  | none => (7, p)
  | some a => if a.within lo hi = false then (2, p) else if zeroIn a.c lo hi then (2, p) else if badC a.c lo hi 1 then (2, p) else (0, p.upd id ⟨addC a.c lo hi 1, a.a⟩)
set_option maxRecDepth 4000 in
theorem hold_spec (bp : Nat) (p : Pl) (bs : List (Option Nat)) (id lo hi : Int) : Tri Try.prog 9 [.pointer (some ⟨bp, 0, none⟩), .int .i64 id, .int .i64 lo, .int .i64 hi] [poolB bp p bs]
    (fun u l => u = .int .i64 (p.hold id lo hi).1 ∧ l = [poolB bp (p.hold id lo hi).2 bs]) := by
  refine tri_intro Try.func9 rfl Try.results9 Try.ntmps9 rfl (by kernel_rfl) fun R => ?_
  repeat (refine go rfl ?_)
  refine SXR.callF (known_spec bp p bs id) rfl ?_
  cases h : p.get id with
  | none =>
    have he : p.er id = 7 := by simp [Pl.er, h]
    have hs : p.hold id lo hi = (7, p) := by simp [Pl.hold, h]
    rw [he, hs]
    repeat (refine go rfl ?_)
    refine SXB.split (fun _ => ?_) (fun hc => by exact absurd hc (by decide))
    repeat (refine go rfl ?_)
    exact fin_ret (.tmp rfl .nil) ⟨rfl, rfl⟩
  | some a =>
    have he : p.er id = 0 := by simp [Pl.er, h]
    rw [he]
    repeat (refine go rfl ?_)
    refine SXB.split (fun hc => by exact absurd rfl hc) (fun _ => ?_)
    refine SXC.open (poolB bp p bs) (pool_open bp p bs id a h) ?_
    intro b hb
    rw [hb.2]
    repeat (refine go rfl ?_)
    cases hw : a.within lo hi with
    | false =>
      refine SXR.callF (within_spec b a lo hi) rfl ?_
      rw [hw]
      have hs : p.hold id lo hi = (2, p) := by simp [Pl.hold, h, hw]
      rw [hs]
      repeat (refine go rfl ?_)
      refine Fin.shut _ (pool_same bp p bs id b a h hb) ?_
      exact fin_ret (.tmp rfl .nil) ⟨rfl, rfl⟩
    | true =>
      refine SXR.callF (within_spec b a lo hi) rfl ?_
      rw [hw]
      have hwi : 0 ≤ lo ∧ lo < hi ∧ hi ≤ a.a.length := of_decide_eq_true hw
      refine SXR.open (oneH b a) (oneH_open b a) ?_
      rintro ⟨bc, v⟩ hok
      have hal := hok.1
      have hal2 := hok.2.2.1
      dsimp only
      repeat (refine go rfl ?_)
      refine SXR.call (runsC_spec bc a.c) rfl ?_
      rintro u L' ⟨rs, hrs, rfl⟩
      dsimp only [List.cons_append, List.nil_append]
      have hz := hrs.zero (lo := lo) (hi := hi) hwi.1 (by omega) hwi.2.1
      have hrl := hrs.bnd.1
      refine SXR.vec (v := u) (n := rs.length) (sz := 3) (T := 76) (cs := rc rs) (fun _ h _ => absurd h (by have := hrs.pos (by omega); omega)) ?_
      rintro br cap sp rfl hcap hsp hl
      repeat (refine go rfl ?_)
      refine SXC.loop (fun i : Nat => i ≤ rs.length ∧ ∀ j, j < i → ∀ r, rs[j]? = some r → ¬ (r.n = 0 ∧ r.lo < hi ∧ lo < r.hi)) (fun i => [(9, .pointer (some ⟨b, 0, none⟩)), (2, .int .i64 lo), (3, .int .i64 hi), (31, .slice (some ⟨br, 0, none⟩) rs.length cap), (32, .int .i64 rs.length), (33, .int .i64 i)])
        (fun i => [pts br (.cells (rc rs ++ sp).toArray 76 (0, 0))]) (fun i => rs.length - i) 0 ⟨Nat.zero_le _, fun j h => absurd h (Nat.not_lt_zero _)⟩ ⟨rfl, rfl, rfl, rfl, rfl, rfl, trivial⟩ ?_
      rintro i ⟨hi', hno⟩
      repeat (refine go rfl ?_)
      refine SXB.split (fun hlt => ?_) (fun hge => ?_)
      · have hil : i < rs.length := by omega
        obtain ⟨r, hr⟩ : ∃ r, rs[i]? = some r := ⟨rs[i], List.getElem?_eq_getElem hil⟩
        repeat (refine go rfl ?_)
        refine SXR.index (i * 3) rfl (by omega) (by omega) (by omega) ?_
        repeat (refine go rfl ?_)
        refine SXL.aggAt (rc_take3 _ sp i r hr) (rc_fits _ sp i hil) ?_
        repeat (first | refine go rfl ?_ | intro b12)
        have nxt : ¬ (r.n = 0 ∧ r.lo < hi ∧ lo < r.hi) → i + 1 ≤ rs.length ∧ ∀ j, j < i + 1 → ∀ r, rs[j]? = some r → ¬ (r.n = 0 ∧ r.lo < hi ∧ lo < r.hi) := fun hn => ⟨by omega, fun j hj r' hr' => by
          by_cases e : j = i
          · subst e; rw [hr] at hr'; cases hr'; exact hn
          · exact hno j (by omega) r' hr'⟩
        refine SXG.split rfl (fun h1 => ?_) (fun h1 => ?_)
        · repeat (refine go rfl ?_)
          refine SXG.split rfl (fun h2 => ?_) (fun h2 => ?_)
          · repeat (refine go rfl ?_)
            refine SXB.split (fun h3 => ?_) (fun h3 => ?_)
            · have hs : p.hold id lo hi = (2, p) := by
                simp only [Pl.hold, h]; rw [if_neg (by simp [hw]), if_pos (hz.2 ⟨r, List.mem_of_getElem? hr, h1, h2, h3⟩)]
              rw [hs]
              repeat (refine go rfl ?_)
              refine Fin.shut _ (oneH_shut b a bc v hok) ?_
              refine Fin.shut _ (pool_same bp p bs id b a h hb) ?_
              exact fin_ret (.tmp rfl .nil) ⟨rfl, rfl⟩
            · repeat (refine go rfl ?_)
              exact fin_round (i + 1) (nxt fun hh => h3 hh.2.2) (by omega) ⟨rfl, rfl, rfl, rfl, rfl, by rw [wrap_succ (by omega)], trivial⟩
          · repeat (refine go rfl ?_)
            exact fin_round (i + 1) (nxt fun hh => h2 hh.2.1) (by omega) ⟨rfl, rfl, rfl, rfl, rfl, by rw [wrap_succ (by omega)], trivial⟩
        · repeat (refine go rfl ?_)
          exact fin_round (i + 1) (nxt fun hh => h1 hh.1) (by omega) ⟨rfl, rfl, rfl, rfl, rfl, by rw [wrap_succ (by omega)], trivial⟩
      · have hnz : ¬ zeroIn a.c lo hi := fun hh => by
          obtain ⟨r, hr, h5⟩ := hz.1 hh
          obtain ⟨j, hj⟩ := List.getElem?_of_mem hr
          exact hno j (by have := (List.getElem?_eq_some_iff.1 hj).1; omega) r hj h5
        repeat (refine go rfl ?_)
        refine SXR.call (addC_spec bc a.c lo hi 1 (by omega) (by decide)) rfl ?_
        rintro u L' (⟨hbad, rfl, rfl⟩ | ⟨hbad, v', rfl, rfl⟩)
        · have hs : p.hold id lo hi = (2, p) := by
            simp only [Pl.hold, h]; rw [if_neg (by simp [hw]), if_neg hnz, if_pos hbad]
          rw [hs]
          dsimp only [List.cons_append, List.nil_append]
          repeat (refine go rfl ?_)
          refine Fin.shut _ (oneH_shut b a bc v hok) ?_
          refine Fin.shut _ (pool_same bp p bs id b a h hb) ?_
          exact fin_ret (.tmp rfl .nil) ⟨rfl, rfl⟩
        · have hs : p.hold id lo hi = (0, p.upd id ⟨addC a.c lo hi 1, a.a⟩) := by
            simp only [Pl.hold, h]; rw [if_neg (by simp [hw]), if_neg hnz, if_neg hbad]
          rw [hs]
          dsimp only [List.cons_append, List.nil_append]
          repeat (refine go rfl ?_)
          refine Fin.shut (cs := [pts b (.cells [.pointer (some ⟨bc, 0, none⟩), v].toArray 68 (0, 0)), cntC bc (addC a.c lo hi 1), vec v a.a.length 1 3 (a.a.map intC)]) _ (oneH_shut b ⟨addC a.c lo hi 1, a.a⟩ bc v ⟨by rw [addC_len]; exact hok.1, by rw [addC_len]; exact hok.2.1, by rw [addC_len]; exact hok.2.2.1, hok.2.2.2⟩) ?_
          refine Fin.shut _ (pool_close bp p bs id b a ⟨addC a.c lo hi 1, a.a⟩ h hb) ?_
          exact fin_ret (.tmp rfl .nil) ⟨rfl, rfl⟩
end Go.Proofs.Ytlgphhknfocfaaa
