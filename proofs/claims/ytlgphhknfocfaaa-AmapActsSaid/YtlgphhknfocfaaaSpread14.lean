import Derived.Test.YtlgphhknfocfaaaSpread13
namespace Go.Proofs.Ytlgphhknfocfaaa
open Go.Sl

def cntC (b : Nat) (c : List Int) : HP := fun m => ∃ rs, RepL rs c ∧ cnt b rs c.length m
theorem Says.congr {l : List Rn} {f g : Int → Int} {n : Int} (h : Says l f) (hc : Chain 0 l n) (e : ∀ i, 0 ≤ i → i < n → f i = g i) : Says l g := fun r hr i h1 h2 => by
  have := chain_mem hc r hr
  rw [← e i (by omega) (by omega)]; exact h r hr i h1 h2
def addC (c : List Int) (lo hi d : Int) : List Int := c.mapIdx fun k x => if lo ≤ (k : Int) ∧ (k : Int) < hi then x + d else x
theorem addC_len (c : List Int) (lo hi d : Int) : (addC c lo hi d).length = c.length := by simp [addC]
theorem gf_get {c : List Int} {k : Nat} (h : k < c.length) : gf c k = c[k] := by
  unfold gf; rw [Int.toNat_natCast, List.getD_eq_getElem?_getD, List.getElem?_eq_getElem h]; rfl
theorem gf_addC {c : List Int} {lo hi d i : Int} (h0 : 0 ≤ i) (h1 : i < c.length) : gf (addC c lo hi d) i = addF (gf c) lo hi d i := by
  obtain ⟨k, rfl⟩ : ∃ k : Nat, i = k := ⟨i.toNat, by omega⟩
  rw [gf_get (by rw [addC_len]; omega)]
  unfold addF
  rw [gf_get (show k < c.length by omega)]
  simp [addC]
theorem RepL.add {rs : List Rn} {c : List Int} {lo hi d : Int} (h : RepL rs c) (hok : ∀ i, lo ≤ i → i < hi → ¬ (d < -gf c i ∨ 1000000 - gf c i < d)) : RepL (addL rs lo hi d) (addC c lo hi d) := by
  obtain ⟨h1, h2, h3, h4⟩ := h
  obtain ⟨h5, h6⟩ := addL_ok (lo := lo) (hi := hi) (d := d) h1 h2
  refine ⟨by rw [addC_len]; exact h5, h6.congr h5 fun i hi0 hi1 => (gf_addC hi0 hi1).symm, by rw [addC_len]; exact h3, fun x hx => ?_⟩
  obtain ⟨k, hk, rfl⟩ := List.mem_iff_getElem.1 hx
  rw [addC_len] at hk
  have e := gf_addC (lo := lo) (hi := hi) (d := d) (i := k) (by omega) (by omega : (k : Int) < c.length)
  rw [gf_get (by rw [addC_len]; exact hk)] at e
  rw [e]
  have hb := gf_bnd h4 k
  unfold addF
  split
  · rename_i hc
    have := hok k hc.1 hc.2
    omega
  · exact hb
theorem RepL.sum {rs : List Rn} {c : List Int} (h : RepL rs c) : sumR (partsL rs 0 c.length) = c.sum := by
  obtain ⟨h1, h2, h3, h4⟩ := h
  have hp := parts_chain (lo := 0) (hi := c.length) h1 (by omega)
  rw [show max (0 : Int) 0 = 0 by omega, show min (c.length : Int) c.length = c.length by omega] at hp
  rw [sum_chain hp (says_parts h2)]
  congr 1
  apply List.ext_getElem
  · simp [irange]
  · intro k hk1 hk2
    simp only [irange, List.getElem_map, List.getElem_range]
    rw [show (0 : Int) + (k : Int) = k by omega, gf_get hk2]
theorem RepL.at {rs : List Rn} {c : List Int} (h : RepL rs c) (i : Int) : atF rs c.length i = if 0 ≤ i ∧ i < c.length then gf c i else -1 := by
  obtain ⟨h1, h2, h3, h4⟩ := h
  unfold atF
  by_cases hc : 0 ≤ i ∧ i < c.length
  · rw [if_pos hc, if_neg (by omega)]
    have hp := parts_chain (lo := i) (hi := i + 1) h1 (by omega)
    rw [show max (0 : Int) i = i by omega, show min (c.length : Int) (i + 1) = i + 1 by omega] at hp
    have hs := says_parts (lo := i) (hi := i + 1) h2
    cases hq : partsL rs i (i + 1) with
    | nil => rw [hq] at hp; simp only [Chain] at hp; omega
    | cons r l =>
      rw [hq] at hp hs
      have := hp.1; have := hp.2.1
      exact (hs r List.mem_cons_self i (by omega) (by omega)).symm
  · rw [if_neg hc, if_pos (by omega)]
theorem RepL.addOk {rs : List Rn} {c : List Int} {lo hi d : Int} (h : RepL rs c) (h0 : 0 ≤ lo) (hh : hi ≤ c.length) (hl : lo ≤ hi) : addOk rs lo hi d = true ↔ ∀ i, lo ≤ i → i < hi → ¬ (d < -gf c i ∨ 1000000 - gf c i < d) := by
  obtain ⟨h1, h2, h3, h4⟩ := h
  have hp := parts_chain (lo := lo) (hi := hi) h1 (by omega)
  rw [show max (0 : Int) lo = lo by omega, show min (c.length : Int) hi = hi by omega] at hp
  have hs := says_parts (lo := lo) (hi := hi) h2
  unfold Go.Proofs.Ytlgphhknfocfaaa.addOk
  rw [List.all_eq_true]
  constructor
  · intro ha i hi1 hi2
    obtain ⟨r, hr, h5, h6⟩ := chain_cover hp i hi1 hi2
    have := ha r hr
    rw [hs r hr i h5 h6]
    simpa [badR] using this
  · intro ha r hr
    have hm := chain_mem hp r hr
    have := ha r.lo hm.1 (by omega)
    rw [hs r hr r.lo (Int.le_refl _) hm.2.1] at this
    simpa [badR] using this
theorem RepL.gone {rs : List Rn} {c : List Int} {lo hi d : Int} (h : RepL rs c) (h0 : 0 ≤ lo) (hh : hi ≤ c.length) (hl : lo ≤ hi) : goneL rs lo hi d = (irange lo hi).filter fun i => decide (d ≠ 0 ∧ d = -gf c i) := by
  obtain ⟨h1, h2, h3, h4⟩ := h
  have hp := parts_chain (lo := lo) (hi := hi) h1 (by omega)
  rw [show max (0 : Int) lo = lo by omega, show min (c.length : Int) hi = hi by omega] at hp
  exact gone_chain hp (says_parts (lo := lo) (hi := hi) h2)
theorem cntC_facts {b : Nat} {c : List Int} : ∀ m, cntC b c m → c.length ≤ 4096 ∧ ∀ x ∈ c, 0 ≤ x ∧ x ≤ 1000000 := fun _ ⟨_, h, _⟩ => ⟨h.2.2.1, h.2.2.2⟩

theorem lift1 {P : Program} {f : FuncId} {args : List Value} {b : Nat} {c : List Int} {Post : Value → List HP → Prop}
    (h : ∀ rs, RepL rs c → Tri P f args [cnt b rs c.length] Post) : Tri P f args [cntC b c] Post := by
  refine ⟨fun R w hw => ?_⟩
  obtain ⟨m1, m2, s1, s2, hd, ⟨rs, hr, hc⟩, hR⟩ := hw
  exact (h rs hr).h R w ⟨m1, m2, s1, s2, hd, hc, hR⟩
theorem cntC_shut {b : Nat} {c : List Int} {rs : List Rn} (h : RepL rs c) {R : List HP} : ∀ m, big (cnt b rs c.length :: R) m → big (cntC b c :: R) m := fun m hm => big_head (fun m h' => ⟨rs, h, h'⟩) m hm

theorem at_spec (b : Nat) (c : List Int) (i : Int) : Tri Try.prog 38 [.pointer (some ⟨b, 0, none⟩), .int .i64 i] [cntC b c] (fun u l => u = .int .i64 (if 0 ≤ i ∧ i < c.length then gf c i else -1) ∧ l = [cntC b c]) :=
  lift1 fun rs hr => (cnt_at b rs c.length i (by have := hr.bnd.1; omega) (by have := hr.bnd.2.2.1; omega)).mono (fun _ h => h) (by
    rintro v L' m ⟨rfl, rfl⟩ hm
    exact ⟨_, ⟨by rw [hr.at i], rfl⟩, cntC_shut hr m hm⟩)
theorem sumC_spec (b : Nat) (c : List Int) : Tri Try.prog 36 [.pointer (some ⟨b, 0, none⟩)] [cntC b c] (fun u l => u = .int .i64 c.sum ∧ l = [cntC b c]) :=
  lift1 fun rs hr => (sum_spec b rs c.length hr.bnd).mono (fun _ h => h) (by
    rintro v L' m ⟨rfl, rfl⟩ hm
    exact ⟨_, ⟨by rw [hr.sum], rfl⟩, cntC_shut hr m hm⟩)
theorem runsC_spec (b : Nat) (c : List Int) : Tri Try.prog 35 [.pointer (some ⟨b, 0, none⟩)] [cntC b c] (fun u l => ∃ rs, RepL rs c ∧ l = [cntC b c, vec u rs.length 3 76 (rc rs)]) :=
  lift1 fun rs hr => (runs_spec b rs c.length hr.bnd.1).mono (fun _ h => h) (by
    rintro v L' m rfl hm
    exact ⟨_, ⟨rs, hr, rfl⟩, cntC_shut hr m hm⟩)
def badC (c : List Int) (lo hi d : Int) : Prop := lo < 0 ∨ (c.length : Int) < hi ∨ hi < lo ∨ ∃ i, lo ≤ i ∧ i < hi ∧ (d < -gf c i ∨ 1000000 - gf c i < d)
def goneC (c : List Int) (lo hi d : Int) : List Int := (irange lo hi).filter fun i => decide (d ≠ 0 ∧ d = -gf c i)
theorem addC_spec (b : Nat) (c : List Int) (lo hi d : Int) (hc : 0 < c.length) (hd : -1000000000 ≤ d ∧ d ≤ 1000000000) : Tri Try.prog 31 [.pointer (some ⟨b, 0, none⟩), .int .i64 lo, .int .i64 hi, .int .i64 d] [cntC b c]
    (fun u L' => (badC c lo hi d ∧ u = .tuple #[.slice none 0 0, .int .i64 2] ∧ L' = [cntC b c]) ∨
      (¬ badC c lo hi d ∧ ∃ v, u = .tuple #[v, .int .i64 0] ∧ L' = [cntC b (addC c lo hi d), vec v (goneC c lo hi d).length 1 3 ((goneC c lo hi d).map intC)])) :=
  lift1 fun rs hr => (add_spec b rs c.length lo hi d hr.bnd (hr.pos hc) hd).mono (fun _ h => h) (by
    rintro v L' m (⟨h, rfl, rfl⟩ | ⟨h1, h2, h3, h4, v', rfl, rfl⟩) hm
    · refine ⟨_, .inl ⟨?_, rfl, rfl⟩, cntC_shut hr m hm⟩
      rcases h with h | h | h | h
      · exact .inl h
      · exact .inr (.inl h)
      · exact .inr (.inr (.inl h))
      · by_cases hx : lo < 0 ∨ (c.length : Int) < hi ∨ hi < lo
        · rcases hx with h | h | h
          · exact .inl h
          · exact .inr (.inl h)
          · exact .inr (.inr (.inl h))
        · have := mt (hr.addOk (lo := lo) (hi := hi) (d := d) (by omega) (by omega) (by omega)).2 (by rw [h]; decide)
          refine .inr (.inr (.inr ?_))
          apply Classical.byContradiction
          intro hn
          exact this fun i hi1 hi2 hb => hn ⟨i, hi1, hi2, hb⟩
    · have hok := (hr.addOk h1 h2 h3).1 h4
      rw [show goneL rs lo hi d = goneC c lo hi d from hr.gone h1 h2 h3] at hm
      refine ⟨_, .inr ⟨?_, v', rfl, rfl⟩, ?_⟩
      · rintro (h | h | h | ⟨i, hi1, hi2, h⟩)
        · omega
        · omega
        · omega
        · exact hok i hi1 hi2 h
      · refine cntC_shut (hr.add hok) m ?_
        rw [addC_len]; exact hm)
theorem newC_spec (n : Int) (h0 : 1 ≤ n) (hn : n ≤ 4096) : Tri Try.prog 30 [.int .i64 n] [] (fun u L' => ∃ b, u = .pointer (some ⟨b, 0, none⟩) ∧ L' = [cntC b (List.replicate n.toNat 0)]) :=
  (new_spec n h0 hn).mono (fun _ h => h) (by
    rintro v L' m ⟨b, rfl, rfl⟩ hm
    have hl : ((List.replicate n.toNat (0 : Int)).length : Int) = n := by rw [List.length_replicate]; omega
    refine ⟨_, ⟨b, rfl, rfl⟩, cntC_shut (rs := [⟨0, n, 0⟩]) ⟨?_, ?_, ?_, ?_⟩ m (by rw [hl]; exact hm)⟩
    · rw [hl]; exact ⟨rfl, by simp only; omega, rfl⟩
    · intro r hr i h1 h2
      rw [List.mem_singleton] at hr; subst hr
      simp only at h1 h2 ⊢
      unfold gf
      rw [List.getD_eq_getElem?_getD, List.getElem?_replicate]; split <;> rfl
    · rw [List.length_replicate]; omega
    · intro x hx; rw [List.eq_of_mem_replicate hx]; omega)
end Go.Proofs.Ytlgphhknfocfaaa
