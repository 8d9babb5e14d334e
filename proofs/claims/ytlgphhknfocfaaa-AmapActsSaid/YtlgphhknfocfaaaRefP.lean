import Derived.Test.YtlgphhknfocfaaaRef1
namespace Go.Proofs.Ytlgphhknfocfaaa.Ref
open Go.Sl

def oneH (b : Nat) (a : Am) : HP := fun m => ∃ q : Nat × Value, a.ok ∧ big [pts b (.cells [.pointer (some ⟨q.1, 0, none⟩), q.2].toArray 58 (0, 0)), rcB q.1 a.c, vec q.2 a.a.length 1 3 (a.a.map intC)] m
def oneO : Option Nat → Option Am → HP
  | none, none => fun _ => True
  | some b, some a => oneH b a
  | _, _ => fun _ => False
def poolB (bp : Nat) (p : Pl) (bs : List (Option Nat)) : HP := fun m => ∃ v : Value, (bs.length = p.l.length ∧ p.ok) ∧
  big [pts bp (.cells [.int .i64 p.most, v].toArray 81 (0, 0)), vec v bs.length 1 54 (bs.map pv), big (List.zipWith oneO bs p.l)] m
theorem poolB_open (bp : Nat) (p : Pl) (bs : List (Option Nat)) : ∀ m, poolB bp p bs m → ∃ v : Value, (bs.length = p.l.length ∧ p.ok) ∧
  big [pts bp (.cells [.int .i64 p.most, v].toArray 81 (0, 0)), vec v bs.length 1 54 (bs.map pv), big (List.zipWith oneO bs p.l)] m := fun _ h => h
theorem poolB_shut (bp : Nat) (p : Pl) (bs : List (Option Nat)) (v : Value) (h : bs.length = p.l.length ∧ p.ok) : ∀ m, big [pts bp (.cells [.int .i64 p.most, v].toArray 81 (0, 0)), vec v bs.length 1 54 (bs.map pv), big (List.zipWith oneO bs p.l)] m → poolB bp p bs m := fun _ h' => ⟨v, h, h'⟩
/-- The pointer that a number stands for. -/
theorem zip_get {bs : List (Option Nat)} {l : List (Option Am)} {i : Nat} {o : Option Nat} {x : Option Am} (h1 : bs[i]? = some o) (h2 : l[i]? = some x) : (List.zipWith oneO bs l)[i]? = some (oneO o x) := by
  simp [List.getElem?_zipWith, h1, h2]
theorem zip_set : ∀ {bs : List (Option Nat)} {l : List (Option Am)} {i : Nat} {o : Option Nat} {x : Option Am}, List.zipWith oneO (bs.set i o) (l.set i x) = (List.zipWith oneO bs l).set i (oneO o x)
  | [], l, i, o, x => by simp
  | b :: bs, [], i, o, x => by simp
  | b :: bs, y :: l, 0, o, x => by simp
  | b :: bs, y :: l, i + 1, o, x => by simp [zip_set]
def poolX (bp : Nat) (p : Pl) (bs : List (Option Nat)) (i : Nat) : HP := fun m => ∃ v : Value, (bs.length = p.l.length ∧ p.ok) ∧
  big [pts bp (.cells [.int .i64 p.most, v].toArray 81 (0, 0)), vec v bs.length 1 54 (bs.map pv), big ((List.zipWith oneO bs p.l).take i ++ (List.zipWith oneO bs p.l).drop (i + 1))] m
theorem pool_open (bp : Nat) (p : Pl) (bs : List (Option Nat)) (id : Int) (a : Am) (h : p.get id = some a) : ∀ m, poolB bp p bs m → ∃ b : Nat, At bs id b ∧ big [oneH b a, poolX bp p bs (id - 1).toNat] m := by
  rintro m ⟨v, ⟨h1, h2⟩, hm⟩
  obtain ⟨g1, g2, g3⟩ := Pl.get_some h
  obtain ⟨o, ho⟩ : ∃ o, bs[(id - 1).toNat]? = some o := ⟨bs[(id - 1).toNat]'(by omega), List.getElem?_eq_getElem (by omega)⟩
  have hm2 := big_lift (D := fun _ => True) (fun m h => big_focus (zip_get ho g3) h) hm
  cases o with
  | none =>
    exact (big_fact (A := oneO none (some a)) (p := False) (fun _ h => h) (big_perm (List.Perm.trans (List.Perm.cons _ (List.Perm.swap _ _ _)) (List.Perm.swap _ _ _)) hm2)).elim
  | some b =>
    refine ⟨b, ⟨ho, by unfold pvAt; rw [if_pos (by omega), ho]; rfl⟩, ?_⟩
    have h3 : big (oneH b a :: [pts bp (.cells [.int .i64 p.most, v].toArray 81 (0, 0)), vec v bs.length 1 54 (bs.map pv), big ((List.zipWith oneO bs p.l).take (id - 1).toNat ++ (List.zipWith oneO bs p.l).drop ((id - 1).toNat + 1))]) m :=
      big_perm (List.Perm.trans (List.Perm.cons _ (List.Perm.swap _ _ _)) (List.Perm.swap _ _ _)) hm2
    refine big_map (fun m h => ?_) m h3
    exact big_head (fun m h => ⟨v, ⟨h1, h2⟩, h⟩) _ (big_pack (L2 := []) (by rw [List.append_nil]; exact h))
theorem pool_close (bp : Nat) (p : Pl) (bs : List (Option Nat)) (id : Int) (b : Nat) (a a' : Am) (h : p.get id = some a) (hb : At bs id b) : ∀ m, big [oneH b a', poolX bp p bs (id - 1).toNat] m → poolB bp (p.upd id a') bs m := by
  intro m hm
  obtain ⟨m1, m2, s1, s2, hd, hA, hX⟩ := hm
  obtain ⟨m3, m4, s3, s4, hd2, ⟨v, ⟨h1, h2⟩, hm⟩, _⟩ := hX
  obtain ⟨g1, g2, g3⟩ := Pl.get_some h
  have hm' : big [oneH b a', pts bp (.cells [.int .i64 p.most, v].toArray 81 (0, 0)), vec v bs.length 1 54 (bs.map pv), big ((List.zipWith oneO bs p.l).take (id - 1).toNat ++ (List.zipWith oneO bs p.l).drop ((id - 1).toNat + 1))] m := ⟨m1, m2, s1, s2, hd, hA, big_mono s3 hm⟩
  refine ⟨v, ⟨by rw [h1]; simp [Pl.upd], by simpa [Pl.ok, Pl.upd] using h2⟩, ?_⟩
  have hz : List.zipWith oneO bs (p.upd id a').l = (List.zipWith oneO bs p.l).set (id - 1).toNat (oneH b a') := by
    conv => lhs; rw [← set_same hb.1]
    exact zip_set
  rw [hz]
  have hm2 := big_perm (List.Perm.trans (List.Perm.swap _ _ _) (List.Perm.cons _ (List.Perm.swap _ _ _))) hm'
  refine big_map (fun m h => big_map (fun m h => ?_) m h) m hm2
  exact big_pack (L2 := []) (by rw [List.append_nil]; exact big_back (by simp; omega) h)
theorem pool_none {bp : Nat} {p : Pl} {bs : List (Option Nat)} {id : Int} (h : p.get id = none) : ∀ m, poolB bp p bs m → pvAt bs id = .pointer none := by
  rintro m ⟨v, ⟨h1, h2⟩, hm⟩
  unfold pvAt
  split
  · rename_i hc
    obtain ⟨x, hx⟩ : ∃ x, p.l[(id - 1).toNat]? = some x := ⟨p.l[(id - 1).toNat]'(by omega), List.getElem?_eq_getElem (by omega)⟩
    obtain ⟨o, ho⟩ : ∃ o, bs[(id - 1).toNat]? = some o := ⟨bs[(id - 1).toNat]'(by omega), List.getElem?_eq_getElem (by omega)⟩
    unfold Pl.get at h
    rw [if_pos (by omega), hx] at h
    simp at h; subst h
    rw [ho]
    cases o with
    | none => rfl
    | some b =>
      have hm2 := big_lift (D := fun _ => True) (fun m h => big_focus (zip_get ho hx) h) hm
      exact (big_fact (A := oneO (some b) none) (p := False) (fun _ h => h) (big_perm (List.Perm.trans (List.Perm.cons _ (List.Perm.swap _ _ _)) (List.Perm.swap _ _ _)) hm2)).elim
  · rfl
theorem pool_same (bp : Nat) (p : Pl) (bs : List (Option Nat)) (id : Int) (b : Nat) (a : Am) (h : p.get id = some a) (hb : At bs id b) : ∀ m, big [oneH b a, poolX bp p bs (id - 1).toNat] m → poolB bp p bs m := fun m hm => by
  have := pool_close bp p bs id b a a h hb m hm
  rwa [Pl.upd_same h] at this
theorem oneH_open (b : Nat) (a : Am) : ∀ m, oneH b a m → ∃ q : Nat × Value, a.ok ∧ big [pts b (.cells [.pointer (some ⟨q.1, 0, none⟩), q.2].toArray 58 (0, 0)), rcB q.1 a.c, vec q.2 a.a.length 1 3 (a.a.map intC)] m := fun _ h => h
theorem oneH_shut (b : Nat) (a : Am) (bc : Nat) (v : Value) (h : a.ok) : ∀ m, big [pts b (.cells [.pointer (some ⟨bc, 0, none⟩), v].toArray 58 (0, 0)), rcB bc a.c, vec v a.a.length 1 3 (a.a.map intC)] m → oneH b a m := fun _ h' => ⟨(bc, v), h, h'⟩
theorem hole_none {p : Pl} {bs : List (Option Nat)} {i : Nat} {a : Am} (h : p.l[i]? = some (some a)) (hl : bs.length = p.l.length) : ∀ m, big ((List.zipWith oneO bs p.l).take i ++ (List.zipWith oneO bs p.l).drop (i + 1)) m → big (List.zipWith oneO (bs.set i none) (p.l.set i none)) m := fun m hm => by
  rw [zip_set]
  have hi := (List.getElem?_eq_some_iff.1 h).1
  refine big_back (by simp; omega) ?_
  exact big_add (A := oneO none none) (fun _ => trivial) m (big_pack (L2 := []) (by rw [List.append_nil]; exact hm))
theorem poolX_open (bp : Nat) (p : Pl) (bs : List (Option Nat)) (i : Nat) : ∀ m, poolX bp p bs i m → ∃ v : Value, (bs.length = p.l.length ∧ p.ok) ∧
  big [pts bp (.cells [.int .i64 p.most, v].toArray 81 (0, 0)), vec v bs.length 1 54 (bs.map pv), big ((List.zipWith oneO bs p.l).take i ++ (List.zipWith oneO bs p.l).drop (i + 1))] m := fun _ h => h
theorem pool_gone (bp : Nat) (p : Pl) (bs : List (Option Nat)) (id : Int) (a : Am) (v : Value) (h : p.get id = some a) (hl : bs.length = p.l.length) (hp : p.ok) : ∀ m, big [pts bp (.cells [.int .i64 p.most, v].toArray 81 (0, 0)), vec v bs.length 1 54 ((bs.set (id - 1).toNat none).map pv), big ((List.zipWith oneO bs p.l).take (id - 1).toNat ++ (List.zipWith oneO bs p.l).drop ((id - 1).toNat + 1))] m →
    poolB bp ⟨p.most, p.l.set (id - 1).toNat none⟩ (bs.set (id - 1).toNat none) m := fun m hm => by
  obtain ⟨g1, g2, g3⟩ := Pl.get_some h
  refine ⟨v, ⟨by simp [hl], by simpa [Pl.ok] using hp⟩, ?_⟩
  rw [List.length_set]
  exact big_map (fun m h => big_map (fun m h => big_head (hole_none g3 hl) m h) m h) m hm
theorem zip_shape : ∀ {bs : List (Option Nat)} {l : List (Option Am)} {m : PH}, bs.length = l.length → big (List.zipWith oneO bs l) m → bs.map Option.isNone = l.map Option.isNone
  | [], [], _, _, _ => rfl
  | [], x :: l, _, h, _ => by cases h
  | b :: bs, [], _, h, _ => by cases h
  | b :: bs, x :: l, m, h, hm => by
    have ih := zip_shape (by simpa using h) (big_tail hm)
    have h0 : b.isNone = x.isNone := big_fact (A := oneO b x) (fun m hh => by cases b <;> cases x <;> first | rfl | exact hh.elim) hm
    rw [List.map_cons, List.map_cons, ih, h0]
theorem zip_append {bs : List (Option Nat)} {l : List (Option Am)} {o : Option Nat} {x : Option Am} (h : bs.length = l.length) : List.zipWith oneO (bs ++ [o]) (l ++ [x]) = List.zipWith oneO bs l ++ [oneO o x] := by
  rw [List.zipWith_append h]; rfl
theorem pool_fill (bp : Nat) (p : Pl) (bs : List (Option Nat)) (k b : Nat) (a : Am) (v : Value) (h : p.l[k]? = some none) (hb : bs[k]? = some none) (hl : bs.length = p.l.length) (hp : p.ok) : ∀ m, big [pts bp (.cells [.int .i64 p.most, v].toArray 81 (0, 0)), vec v bs.length 1 54 ((bs.set k (some b)).map pv), oneH b a, big (List.zipWith oneO bs p.l)] m →
    poolB bp ⟨p.most, p.l.set k (some a)⟩ (bs.set k (some b)) m := fun m hm => by
  refine ⟨v, ⟨by simp [hl], by simpa [Pl.ok] using hp⟩, ?_⟩
  rw [List.length_set, zip_set]
  have hi := (List.getElem?_eq_some_iff.1 hb).1
  refine big_map (fun m h' => big_map (fun m hh => ?_) m h') m hm
  have h3 : big [oneO (some b) (some a), big ((List.zipWith oneO bs p.l).take k ++ (List.zipWith oneO bs p.l).drop (k + 1))] m := by
    refine big_map (fun m hm => ?_) m hh
    have h2 := big_focus (zip_get hb h) (by have := big_flat hm; rwa [List.append_nil] at this)
    exact big_tail h2
  have h4 := big_back (by simp; omega) h3
  exact big_pack (L2 := []) (by rw [List.append_nil]; exact h4)
theorem pool_push (bp : Nat) (p : Pl) (bs : List (Option Nat)) (b : Nat) (a : Am) (v : Value) (hl : bs.length = p.l.length) (hp : p.ok) (hm : p.l.length + 1 ≤ p.most) : ∀ m, big [pts bp (.cells [.int .i64 p.most, v].toArray 81 (0, 0)), vec v (bs.length + 1) 1 54 (bs.map pv ++ [pv (some b)]), oneH b a, big (List.zipWith oneO bs p.l)] m →
    poolB bp ⟨p.most, p.l ++ [some a]⟩ (bs ++ [some b]) m := fun m h => by
  refine ⟨v, ⟨by simp [hl], ⟨by simp only [List.length_append, List.length_cons, List.length_nil]; omega, hp.2⟩⟩, ?_⟩
  rw [zip_append hl]
  rw [show (bs ++ [some b]).length = bs.length + 1 by simp, show (bs ++ [some b]).map pv = bs.map pv ++ [pv (some b)] by simp]
  refine big_map (fun m h => big_map (fun m hh => ?_) m h) m h
  refine big_pack (L2 := []) (by
    rw [List.append_nil]
    refine big_perm List.perm_append_comm (?_ : big ([oneO (some b) (some a)] ++ List.zipWith oneO bs p.l) m)
    exact big_map (fun m hm => by have := big_flat hm; rwa [List.append_nil] at this) m hh)
@[reducible] def poolY (p : Pl) (bs : List (Option Nat)) (i j : Nat) : HP := big (((List.zipWith oneO bs p.l).set i emp).set j emp)
theorem pool_open2 (bp : Nat) (p : Pl) (bs : List (Option Nat)) (id n : Int) (a c : Am) (h : p.get id = some a) (hc : p.get n = some c) (hne : id ≠ n) : ∀ m, poolB bp p bs m → ∃ x : Nat × Nat × Value, (At bs id x.1 ∧ At bs n x.2.1 ∧ bs.length = p.l.length ∧ p.ok) ∧
    big [pts bp (.cells [.int .i64 p.most, x.2.2].toArray 81 (0, 0)), vec x.2.2 bs.length 1 54 (bs.map pv), oneH x.1 a, oneH x.2.1 c, poolY p bs (id - 1).toNat (n - 1).toNat] m := by
  intro m hm
  obtain ⟨b, hb, _⟩ := pool_open bp p bs id a h m hm
  obtain ⟨bn, hbn, _⟩ := pool_open bp p bs n c hc m hm
  obtain ⟨v, ⟨h1, h2⟩, hm⟩ := hm
  obtain ⟨g1, g2, g3⟩ := Pl.get_some h
  obtain ⟨k1, k2, k3⟩ := Pl.get_some hc
  refine ⟨(b, bn, v), ⟨hb, hbn, h1, h2⟩, ?_⟩
  refine big_map (fun m h => big_map (fun m h => ?_) m h) m hm
  have hz := big_flat h
  rw [List.append_nil] at hz
  have hij : (id - 1).toNat ≠ (n - 1).toNat := by omega
  refine big_map (fun m h => ?_) m (big_focusS (zip_get hb.1 g3) hz)
  have hz2 := big_flat h
  rw [List.append_nil] at hz2
  exact big_focusS (by rw [List.getElem?_set_ne hij]; exact zip_get hbn.1 k3) hz2
theorem pool_close2 (bp : Nat) (p : Pl) (bs : List (Option Nat)) (id n : Int) (b bn : Nat) (v : Value) (a c c' : Am) (h : p.get id = some a) (hc : p.get n = some c) (hne : id ≠ n) (hb : At bs id b) (hbn : At bs n bn) (hl : bs.length = p.l.length) (hp : p.ok) : ∀ m,
    big [pts bp (.cells [.int .i64 p.most, v].toArray 81 (0, 0)), vec v bs.length 1 54 (bs.map pv), oneH b a, oneH bn c', poolY p bs (id - 1).toNat (n - 1).toNat] m → poolB bp (p.upd n c') bs m := by
  intro m hm
  obtain ⟨g1, g2, g3⟩ := Pl.get_some h
  obtain ⟨k1, k2, k3⟩ := Pl.get_some hc
  have hij : (id - 1).toNat ≠ (n - 1).toNat := by omega
  refine ⟨v, ⟨by rw [hl]; simp [Pl.upd], by simpa [Pl.ok, Pl.upd] using hp⟩, ?_⟩
  have hz : List.zipWith oneO bs (p.upd n c').l = (List.zipWith oneO bs p.l).set (n - 1).toNat (oneH bn c') := by
    conv => lhs; rw [← set_same hbn.1]
    exact zip_set
  rw [hz]
  refine big_map (fun m h => big_map (fun m h => ?_) m h) m hm
  have h3 : big [oneH bn c', oneH b a, poolY p bs (id - 1).toNat (n - 1).toNat] m := big_swap h
  have hlen : (List.zipWith oneO bs p.l).length = p.l.length := by simp; omega
  have h4 : big [oneH bn c', big ((List.zipWith oneO bs p.l).set (n - 1).toNat emp)] m := by
    refine big_map (fun m h => ?_) m h3
    unfold poolY at h
    rw [List.set_comm _ _ hij] at h
    have h5 := big_backS (A := oneH b a) (by rw [List.length_set, hlen]; omega) h
    rw [set_same (by rw [List.getElem?_set_ne (Ne.symm hij)]; exact zip_get hb.1 g3)] at h5
    exact big_pack (L2 := []) (by rw [List.append_nil]; exact h5)
  exact big_pack (L2 := []) (by rw [List.append_nil]; exact big_backS (by rw [hlen]; omega) h4)
end Go.Proofs.Ytlgphhknfocfaaa.Ref
