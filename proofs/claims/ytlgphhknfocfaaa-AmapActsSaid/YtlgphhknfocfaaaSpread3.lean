import Derived.Test.YtlgphhknfocfaaaSpread2
namespace Go.Proofs.Ytlgphhknfocfaaa
open Go.Sl

@[reducible] def loopAt (l : Nat) (r : Loop) (st : LoopState) (pd : Option Code) : HP := pts l (.loop { r with state := st, pending := pd })
/-- What a range over 'parts' comes to. -/
theorem parts_iter {N : Nat} {env : Env} {ps : List Tmp} {asg body : Code} {l : Nat} {r : Loop} (hl : IsLoop N env ps asg body r) (b b1 b2 b3 : Nat) (rs : List Rn) (n lo hi : Int) (hlen : rs.length ≤ 1000000) (K : Nat → List HP) (X : Code → List HP → Prop)
    (hy : ∀ k r', (partsL rs lo hi)[k]? = some r' → YTri Try.prog l [.agg (Rn.cells r').toArray] (pts l (.loop r) :: K k)
      (fun v L' => (v = .bool true ∧ L' = loopAt l r .ready none :: K (k + 1)) ∨ (v = .bool false ∧ ∃ c L, X c L ∧ L' = loopAt l r .done (some c) :: L))) :
    Tri Try.prog 53 [.func (.yield l) #[] #[], .pointer (some ⟨b1, 0, none⟩), .pointer (some ⟨b2, 0, none⟩), .pointer (some ⟨b3, 0, none⟩)]
      (pts l (.loop r) :: (K 0 ++ [pts b1 (.cells [.pointer (some ⟨b, 0, none⟩)].toArray 65 (0, 0)), pts b2 (.cells [.int .i64 lo].toArray 3 (0, 0)), pts b3 (.cells [.int .i64 hi].toArray 3 (0, 0)), cnt b rs n]))
      (fun _ L' => ∃ st pd L'', st ≠ .busy ∧ L' = pts l (.loop { r with state := st, pending := pd }) :: L'' ∧ ((pd = none ∧ L'' = K (partsL rs lo hi).length ++ [cnt b rs n]) ∨ (∃ c L, pd = some c ∧ X c L ∧ L'' = L ++ [cnt b rs n]))) := by
  have hrr : loopAt l r .ready none = pts l (.loop r) := by
    unfold loopAt
    rw [show ({ r with state := .ready, pending := none } : Loop) = r by cases r; simp_all [hl.state, hl.pending]; exact ⟨hl.state.symm, hl.pending.symm⟩]
  refine (parts1_spec l b b1 b2 b3 rs n lo hi hlen (fun k => big (pts l (.loop r) :: K k)) (fun m => ∃ c L, X c L ∧ big (loopAt l r .done (some c) :: L) m) ?_).mono ?_ ?_
  · intro k r' hk
    refine (hy k r' hk).mono (fun m h => by simpa using big_flat h) ?_
    rintro v L' m (⟨rfl, rfl⟩ | ⟨rfl, c, L, hX, rfl⟩) hm
    · exact ⟨_, .inl ⟨rfl, rfl⟩, big_pack (L2 := []) (by rw [List.append_nil, ← hrr]; exact hm)⟩
    · exact ⟨_, .inr ⟨rfl, rfl⟩, big_head (A := big (loopAt l r .done (some c) :: L)) (fun m h => ⟨c, L, hX, h⟩) _ (big_pack (L2 := []) (by rw [List.append_nil]; exact hm))⟩
  · intro m h
    exact big_pack (L1 := pts l (.loop r) :: K 0) (by simpa using h)
  · rintro v L' m ⟨rfl, rfl | rfl⟩ hm
    · refine ⟨_, ⟨.ready, none, _, by decide, rfl, .inl ⟨rfl, rfl⟩⟩, ?_⟩
      have h2 := big_flat hm
      rw [← hrr] at h2
      exact h2
    · obtain ⟨m1, m2, s1, s2, hd, ⟨c, L, hX, hA⟩, hR⟩ := hm
      exact ⟨_, ⟨.done, some c, _, by decide, rfl, .inr ⟨c, L, rfl, hX, rfl⟩⟩, big_flat (L1 := loopAt l r .done (some c) :: L) ⟨m1, m2, s1, s2, hd, hA, hR⟩⟩

def atF (rs : List Rn) (n i : Int) : Int := if i < 0 ∨ n ≤ i then -1 else match partsL rs i (i + 1) with
  | [] => -1
  | r :: _ => r.n
theorem cnt_at (b : Nat) (rs : List Rn) (n i : Int) (hlen : rs.length ≤ 1000000) (hn : n ≤ 1000000) : Tri Try.prog 38 [.pointer (some ⟨b, 0, none⟩), .int .i64 i] [cnt b rs n] (fun u l => u = .int .i64 (atF rs n i) ∧ l = [cnt b rs n]) := by
  refine tri_intro Try.func38 rfl Try.results38 Try.ntmps38 rfl (by kernel_rfl) fun R => ?_
  repeat (first | refine go rfl ?_ | intro _)
  refine SXG.split rfl (fun hc => ?_) (fun hc => ?_)
  · repeat (refine go rfl ?_)
    have : atF rs n i = -1 := if_pos (.inl hc)
    rw [this]
    exact fin_ret (.cell (resC rfl rfl) .nil) ⟨rfl, rfl⟩
  · repeat (refine go rfl ?_)
    refine SXR.callF (cnt_len b rs n) rfl ?_
    repeat (refine go rfl ?_)
    refine SXB.split (fun hc2 => ?_) (fun hc2 => ?_)
    · repeat (refine go rfl ?_)
      have : atF rs n i = -1 := if_pos (.inr (by omega))
      rw [this]
      exact fin_ret (.cell (resC rfl rfl) .nil) ⟨rfl, rfl⟩
    · repeat (refine go rfl ?_)
      rw [IntWalk.i64_in (i + 1) ⟨by omega, by omega⟩]
      refine SXR.call (parts_spec b i (i + 1)) rfl ?_
      rintro v L' ⟨b1, b2, b3, rfl, rfl⟩
      dsimp only [List.cons_append, List.nil_append]
      repeat (refine go rfl ?_)
      rename_i bR
      have hat : atF rs n i = match partsL rs i (i + 1) with | [] => -1 | r :: _ => r.n := if_neg (by omega)
      refine SXC.rangeFunc (pre := [pts bR (.cells [.int .i64 0].toArray 3 (0, 0)), pts b1 (.cells [.pointer (some ⟨b, 0, none⟩)].toArray 65 (0, 0)), pts b2 (.cells [.int .i64 i].toArray 3 (0, 0)), pts b3 (.cells [.int .i64 (i + 1)].toArray 3 (0, 0)), cnt b rs n]) rfl
        (fun l r hl => parts_iter hl b b1 b2 b3 rs n i (i + 1) hlen (fun k => match k with | 0 => [pts bR (.cells [.int .i64 0].toArray 3 (0, 0))] | _ => [fun _ => False])
          (fun c L => c = .ret ∧ ∃ r0 rest, partsL rs i (i + 1) = r0 :: rest ∧ L = [pts bR (.cells [.int .i64 r0.n].toArray 3 (0, 0))]) ?_) ?_ ?_
      · intro k r' hk
        cases k with
        | succ k => exact YTri.absurd fun m ⟨_, _, _, _, _, _, _, _, _, _, _, hf, _⟩ => hf
        | zero =>
          show YTri Try.prog l _ (pts l (.loop r) :: [pts bR (.cells [.int .i64 0].toArray 3 (0, 0))]) _
          refine ytri_of hl rfl (by kernel_rfl) (by kernel_rfl) (by kernel_rfl) fun R => ?_
          repeat (first | refine go rfl ?_ | intro _)
          refine fin_asg hl.state ?_
          repeat (refine go rfl ?_)
          obtain ⟨rest, hp⟩ : ∃ rest, partsL rs i (i + 1) = r' :: rest := by
            cases hq : partsL rs i (i + 1) with
            | nil => rw [hq] at hk; cases hk
            | cons x y => rw [hq] at hk; cases hk; exact ⟨y, rfl⟩
          exact fin_rnd_out (.inl ⟨rfl, rfl⟩) (.inr ⟨rfl, _, _, ⟨rfl, r', rest, hp, rfl⟩, rfl⟩)
      · rintro D L'' (⟨_, rfl⟩ | ⟨c, L, h, _⟩)
        · cases hq : partsL rs i (i + 1) with
          | cons x y =>
            show Fin _ _ _ _ _ (_ :: ([fun _ => False, cnt b rs n] ++ R))
            dsimp only [List.cons_append, List.nil_append]
            exact Fin.false
          | nil =>
            rw [hq] at hat
            show Fin _ _ _ _ _ (_ :: ([pts bR (.cells [.int .i64 0].toArray 3 (0, 0)), cnt b rs n] ++ R))
            dsimp only [List.cons_append, List.nil_append]
            repeat (refine go rfl ?_)
            refine fin_mark ?_
            exact fin_ret (.cell (resC rfl rfl) .nil) ⟨by rw [hat], rfl⟩
        · cases h
      · rintro D L'' c (⟨h, _⟩ | ⟨c', L, h, ⟨rfl, r0, rest, hq, rfl⟩, rfl⟩)
        · cases h
        · cases h
          rw [hq] at hat
          refine ⟨by kernel_rfl, ?_⟩
          dsimp only [List.cons_append, List.nil_append]
          repeat (refine go rfl ?_)
          refine fin_mark ?_
          exact fin_ret (.cell (resC rfl rfl) .nil) ⟨by rw [hat], rfl⟩
end Go.Proofs.Ytlgphhknfocfaaa
