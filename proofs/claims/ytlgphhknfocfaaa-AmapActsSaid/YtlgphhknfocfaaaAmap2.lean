import Derived.Test.YtlgphhknfocfaaaAmap1
namespace Go.Proofs.Ytlgphhknfocfaaa
open Go.Sl

theorem big_focus {L : List HP} {i : Nat} {A : HP} (h : L[i]? = some A) {m : PH} (hm : big L m) : big [A, big (L.take i ++ L.drop (i + 1))] m := by
  have hi := List.getElem?_eq_some_iff.1 h
  have e : L = L.take i ++ A :: L.drop (i + 1) := by
    rw [← hi.2, ← List.drop_eq_getElem_cons hi.1, List.take_append_drop]
  have p : L.Perm (A :: (L.take i ++ L.drop (i + 1))) := by
    conv => lhs; rw [e]
    exact List.perm_middle
  refine big_map (L := L.take i ++ L.drop (i + 1)) (fun m h => big_pack (L2 := []) (by rw [List.append_nil]; exact h)) m (big_perm p hm)
theorem big_back {L : List HP} {i : Nat} {A : HP} (hi : i < L.length) {m : PH} (hm : big [A, big (L.take i ++ L.drop (i + 1))] m) : big (L.set i A) m := by
  have e : L.set i A = L.take i ++ A :: L.drop (i + 1) := by rw [List.set_eq_take_append_cons_drop, if_pos hi]
  have p : (L.set i A).Perm (A :: (L.take i ++ L.drop (i + 1))) := by
    rw [e]; exact List.perm_middle
  refine big_perm p.symm (big_map (L := [big (L.take i ++ L.drop (i + 1))]) (fun m h => ?_) m hm)
  have := big_flat h; rwa [List.append_nil] at this
theorem zip_get {bs : List (Option Nat)} {l : List (Option Am)} {i : Nat} {o : Option Nat} {x : Option Am} (h1 : bs[i]? = some o) (h2 : l[i]? = some x) : (List.zipWith oneO bs l)[i]? = some (oneO o x) := by
  simp [List.getElem?_zipWith, h1, h2]
theorem zip_set : ∀ {bs : List (Option Nat)} {l : List (Option Am)} {i : Nat} {o : Option Nat} {x : Option Am}, List.zipWith oneO (bs.set i o) (l.set i x) = (List.zipWith oneO bs l).set i (oneO o x)
  | [], l, i, o, x => by simp
  | b :: bs, [], i, o, x => by simp
  | b :: bs, y :: l, 0, o, x => by simp
  | b :: bs, y :: l, i + 1, o, x => by simp [zip_set]
theorem set_same {α : Type} {l : List α} {i : Nat} {x : α} (h : l[i]? = some x) : l.set i x = l := by
  obtain ⟨h1, h2⟩ := List.getElem?_eq_some_iff.1 h
  rw [← h2, List.set_getElem_self]
theorem knL_some : ∀ {l : List (Option Am)} {i : Nat} {a x : Am}, l[i]? = some (some a) → knL (l.set i (some x)) = knL l
  | [], i, a, x, h => by simp at h
  | y :: l, 0, a, x, h => by simp at h; subst h; rfl
  | none :: l, i + 1, a, x, h => knL_some (l := l) (by simpa using h)
  | some y :: l, i + 1, a, x, h => congrArg (· + 1) (knL_some (l := l) (by simpa using h))
theorem knL_fill : ∀ {l : List (Option Am)} {i : Nat} {x : Am}, l[i]? = some none → knL (l.set i (some x)) = knL l + 1
  | [], i, x, h => by simp at h
  | y :: l, 0, x, h => by simp at h; subst h; rfl
  | none :: l, i + 1, x, h => knL_fill (l := l) (by simpa using h)
  | some y :: l, i + 1, x, h => congrArg (· + 1) (knL_fill (l := l) (by simpa using h))
theorem knL_gone : ∀ {l : List (Option Am)} {i : Nat} {a : Am}, l[i]? = some (some a) → knL (l.set i none) + 1 = knL l
  | [], i, a, h => by simp at h
  | y :: l, 0, a, h => by simp at h; subst h; rfl
  | none :: l, i + 1, a, h => knL_gone (l := l) (by simpa using h)
  | some y :: l, i + 1, a, h => congrArg (· + 1) (knL_gone (l := l) (by simpa using h))
theorem knL_append (l m : List (Option Am)) : knL (l ++ m) = knL l + knL m := by
  induction l with
  | nil => simp [knL]
  | cons x l ih => cases x <;> simp only [List.cons_append, knL, ih] <;> omega
theorem knL_le : ∀ l : List (Option Am), knL l ≤ l.length
  | [] => Nat.le_refl _
  | none :: l => by have := knL_le l; simp only [knL, List.length_cons]; omega
  | some _ :: l => by have := knL_le l; simp only [knL, List.length_cons]; omega
theorem knL_full : ∀ {l : List (Option Am)}, (∀ x ∈ l, x ≠ none) → knL l = l.length
  | [], _ => rfl
  | none :: l, h => absurd rfl (h none List.mem_cons_self)
  | some _ :: l, h => by simp only [knL, List.length_cons, knL_full (l := l) fun x hx => h x (List.mem_cons_of_mem _ hx)]

def poolX (bp : Nat) (p : Pl) (bs : List (Option Nat)) (i : Nat) : HP := fun m => ∃ v : Value, (bs.length = p.l.length ∧ p.ok) ∧
  big [pts bp (.cells [.int .i64 p.most, .bool true, v, .int .i64 p.kn].toArray 63 (0, 0)), vec v bs.length 1 64 (bs.map pv), big ((List.zipWith oneO bs p.l).take i ++ (List.zipWith oneO bs p.l).drop (i + 1))] m
def Pl.upd (p : Pl) (id : Int) (a : Am) : Pl := ⟨p.most, p.l.set (id - 1).toNat (some a)⟩
theorem Pl.get_some {p : Pl} {id : Int} {a : Am} (h : p.get id = some a) : 1 ≤ id ∧ id ≤ p.l.length ∧ p.l[(id - 1).toNat]? = some (some a) := by
  unfold Pl.get at h
  split at h
  · rename_i hc
    refine ⟨hc.1, hc.2, ?_⟩
    cases hq : p.l[(id - 1).toNat]? with
    | none => rw [hq] at h; cases h
    | some x => rw [hq] at h; simp at h; rw [h]
  · cases h
theorem Pl.upd_same {p : Pl} {id : Int} {a : Am} (h : p.get id = some a) : p.upd id a = p := by
  unfold Pl.upd; rw [set_same (Pl.get_some h).2.2]
def At (bs : List (Option Nat)) (id : Int) (b : Nat) : Prop := bs[(id - 1).toNat]? = some (some b) ∧ pvAt bs id = .pointer (some ⟨b, 0, none⟩)
theorem big_lift {A B C : HP} {D : HP} {m : PH} {L : List HP} (h : ∀ m, C m → big L m) (hm : big [A, B, C] m) : big (A :: B :: L) m := by
  have h1 : big (C :: [A, B]) m := big_perm (List.Perm.trans (List.Perm.cons A (List.Perm.swap C B [])) (List.Perm.swap C A [B])) hm
  have h2 := big_flat (big_head h _ h1)
  exact big_perm (List.perm_append_comm.trans (by simp)) h2
theorem pool_open (bp : Nat) (p : Pl) (bs : List (Option Nat)) (id : Int) (a : Am) (h : p.get id = some a) : ∀ m, poolB bp p bs m → ∃ b : Nat, At bs id b ∧ big [oneH b a, poolX bp p bs (id - 1).toNat] m := by
  rintro m ⟨v, ⟨h1, h2⟩, hm⟩
  obtain ⟨g1, g2, g3⟩ := Pl.get_some h
  obtain ⟨o, ho⟩ : ∃ o, bs[(id - 1).toNat]? = some o := ⟨bs[(id - 1).toNat]'(by omega), List.getElem?_eq_getElem (by omega)⟩
  have hm2 := big_lift (D := fun _ => True) (fun m h => big_focus (zip_get ho g3) h) hm
  cases o with
  | none =>
    exact (big_fact (A := oneO none (some a)) (p := False) (fun _ h => h) (big_perm (List.Perm.trans (List.Perm.cons _ (List.Perm.swap _ _ _)) (List.Perm.swap _ _ _)) hm2)).elim
  | some b =>
    refine ⟨b, ⟨ho, by unfold pvAt; rw [if_pos (by omega), ho]; rfl⟩, ?_⟩
    have h3 : big (oneH b a :: [pts bp (.cells [.int .i64 p.most, .bool true, v, .int .i64 p.kn].toArray 63 (0, 0)), vec v bs.length 1 64 (bs.map pv), big ((List.zipWith oneO bs p.l).take (id - 1).toNat ++ (List.zipWith oneO bs p.l).drop ((id - 1).toNat + 1))]) m :=
      big_perm (List.Perm.trans (List.Perm.cons _ (List.Perm.swap _ _ _)) (List.Perm.swap _ _ _)) hm2
    refine big_map (fun m h => ?_) m h3
    exact big_head (fun m h => ⟨v, ⟨h1, h2⟩, h⟩) _ (big_pack (L2 := []) (by rw [List.append_nil]; exact h))
theorem pool_close (bp : Nat) (p : Pl) (bs : List (Option Nat)) (id : Int) (b : Nat) (a a' : Am) (h : p.get id = some a) (hb : At bs id b) : ∀ m, big [oneH b a', poolX bp p bs (id - 1).toNat] m → poolB bp (p.upd id a') bs m := by
  intro m hm
  obtain ⟨m1, m2, s1, s2, hd, hA, hX⟩ := hm
  obtain ⟨m3, m4, s3, s4, hd2, ⟨v, ⟨h1, h2⟩, hm⟩, _⟩ := hX
  obtain ⟨g1, g2, g3⟩ := Pl.get_some h
  have hk : (p.upd id a').kn = p.kn := by unfold Pl.kn Pl.upd; rw [knL_some g3]
  have hm' : big [oneH b a', pts bp (.cells [.int .i64 p.most, .bool true, v, .int .i64 p.kn].toArray 63 (0, 0)), vec v bs.length 1 64 (bs.map pv), big ((List.zipWith oneO bs p.l).take (id - 1).toNat ++ (List.zipWith oneO bs p.l).drop ((id - 1).toNat + 1))] m := ⟨m1, m2, s1, s2, hd, hA, big_mono s3 hm⟩
  refine ⟨v, ⟨by rw [h1]; simp [Pl.upd], by simpa [Pl.ok, Pl.upd] using h2⟩, ?_⟩
  rw [hk]
  have hz : List.zipWith oneO bs (p.upd id a').l = (List.zipWith oneO bs p.l).set (id - 1).toNat (oneH b a') := by
    conv => lhs; rw [← set_same hb.1]
    exact zip_set
  rw [hz]
  have hm2 := big_perm (List.Perm.trans (List.Perm.swap _ _ _) (List.Perm.cons _ (List.Perm.swap _ _ _))) hm'
  refine big_map (fun m h => big_map (fun m h => ?_) m h) m hm2
  exact big_pack (L2 := []) (by rw [List.append_nil]; exact big_back (by simp; omega) h)
theorem pool_none {bp : Nat} {p : Pl} {bs : List (Option Nat)} {id : Int} (h : p.get id = none) : ∀ m, poolB bp p bs m → pvAt bs id = .pointer none := by
  rintro m ⟨v, ⟨h1, h2⟩, hm⟩
  unfold pvAt
  split
  · rename_i hc
    obtain ⟨x, hx⟩ : ∃ x, p.l[(id - 1).toNat]? = some x := ⟨p.l[(id - 1).toNat]'(by omega), List.getElem?_eq_getElem (by omega)⟩
    obtain ⟨o, ho⟩ : ∃ o, bs[(id - 1).toNat]? = some o := ⟨bs[(id - 1).toNat]'(by omega), List.getElem?_eq_getElem (by omega)⟩
    unfold Pl.get at h
    rw [if_pos (by omega), hx] at h
    simp at h; subst h
    rw [ho]
    cases o with
    | none => rfl
    | some b =>
      have hm2 := big_lift (D := fun _ => True) (fun m h => big_focus (zip_get ho hx) h) hm
      exact (big_fact (A := oneO (some b) none) (p := False) (fun _ h => h) (big_perm (List.Perm.trans (List.Perm.cons _ (List.Perm.swap _ _ _)) (List.Perm.swap _ _ _)) hm2)).elim
  · rfl
end Go.Proofs.Ytlgphhknfocfaaa
