import Derived.Test.YtlgphhknfocfaaaSpread8
namespace Go.Proofs.Ytlgphhknfocfaaa
open Go.Sl

def badR (d : Int) (r : Rn) : Bool := decide (d < -r.n) || decide (1000000 - r.n < d)
def addOk (rs : List Rn) (lo hi d : Int) : Bool := (partsL rs lo hi).all fun r => !badR d r
def goneR (d : Int) (r : Rn) : List Int := if d ≠ 0 ∧ d = -r.n then (List.range (r.hi - r.lo).toNat).map (fun k : Nat => r.lo + (k : Int)) else []
@[reducible] def goneL (rs : List Rn) (lo hi d : Int) : List Int := (partsL rs lo hi).flatMap (goneR d)
def addR (lo hi d : Int) (r : Rn) : Rn := if lo ≤ r.lo ∧ r.hi ≤ hi then ⟨r.lo, r.hi, r.n + d⟩ else r
@[reducible] def addL (rs : List Rn) (lo hi d : Int) : List Rn := joinL ((splitL (splitL rs lo) hi).map (addR lo hi d))
@[reducible] def intC (x : Int) : Value := .int .i64 x
/-- A cell that holds a slice of ints, and the ints. -/
def gcell (b : Nat) (l : List Int) : HP := fun m => ∃ v : Value, True ∧ big [pts b (.cells [v].toArray 30 (0, 0)), vec v l.length 1 3 (l.map intC)] m
theorem gcell_open (b : Nat) (l : List Int) : ∀ m, gcell b l m → ∃ v : Value, (∃ a c, v = .slice a l.length c) ∧ big [pts b (.cells [v].toArray 30 (0, 0)), vec v l.length 1 3 (l.map intC)] m := fun _ ⟨v, _, h⟩ => ⟨v, big_fact vec_is (big_tail h), h⟩
theorem gcell_shut {b : Nat} {l : List Int} {v : Value} : ∀ m, big [pts b (.cells [v].toArray 30 (0, 0)), vec v l.length 1 3 (l.map intC)] m → gcell b l m := fun _ h => ⟨v, trivial, h⟩

theorem gcell_push {b : Nat} {l : List Int} {x : Int} {v : Value} : ∀ m, big [pts b (.cells [v].toArray 30 (0, 0)), vec v (l.length + 1) 1 3 (l.map intC ++ [intC x])] m → gcell b (l ++ [x]) m := fun m h => by
  refine gcell_shut m (v := v) ?_
  rw [List.length_append, List.map_append]
  exact h

def okK (rs : List Rn) (lo hi d : Int) (k : Nat) : HP := fun _ => ((partsL rs lo hi).take k).all (fun r => !badR d r) = true
def Bnd (rs : List Rn) (n : Int) : Prop := rs.length ≤ 4096 ∧ 0 ≤ n ∧ n ≤ 4096 ∧ ∀ r ∈ rs, 0 ≤ r.lo ∧ r.lo ≤ r.hi ∧ r.hi ≤ n ∧ 0 ≤ r.n ∧ r.n ≤ 1000000
theorem partsL_mem {rs : List Rn} {lo hi : Int} {r : Rn} (h : r ∈ partsL rs lo hi) : ∃ q ∈ rs, r = clip lo hi q ∧ r.lo < r.hi := by
  simp only [partsL, List.mem_filter, List.mem_map, decide_eq_true_eq] at h
  obtain ⟨⟨q, hq, rfl⟩, h2⟩ := h
  exact ⟨q, hq, rfl, h2⟩
theorem goneL_len (rs : List Rn) (n lo hi d : Int) (hB : Bnd rs n) : ∀ k, ((partsL rs lo hi).take k |>.flatMap (goneR d)).length ≤ 4096 * k := by
  intro k
  have h : ∀ l : List Rn, (∀ r ∈ l, r.hi - r.lo ≤ 4096) → (l.flatMap (goneR d)).length ≤ 4096 * l.length := by
    intro l
    induction l with
    | nil => simp
    | cons r l ih =>
      intro h
      have h1 := ih fun r hr => h r (List.mem_cons_of_mem _ hr)
      have h2 := h r List.mem_cons_self
      have h3 : (goneR d r).length ≤ 4096 := by unfold goneR; split <;> simp; omega
      simp only [List.flatMap_cons, List.length_append, List.length_cons]; omega
  have := h ((partsL rs lo hi).take k) (fun r hr => by
    obtain ⟨q, hq, rfl, _⟩ := partsL_mem (List.mem_of_mem_take hr)
    have := hB.2.2.2 q hq
    have := hB.2.2.1
    simp only [clip]; omega)
  have : ((partsL rs lo hi).take k).length ≤ k := by simp; omega
  omega
theorem rc_n {l : List Rn} {i : Nat} {r : Rn} (sp : List Value) (h : l[i]? = some r) : (rc l ++ sp)[i * 3 + 2]? = some (.int .i64 r.n) := by
  rw [← List.getElem?_drop, rc_drop l sp i r h]; rfl
theorem rc_setn {l : List Rn} (sp : List Value) (x : Int) : ∀ {i : Nat} {r : Rn}, l[i]? = some r → (rc l ++ sp).set (i * 3 + 2) (.int .i64 x) = rc (l.set i ⟨r.lo, r.hi, x⟩) ++ sp := by
  induction l with
  | nil => intro i r h; simp at h
  | cons q l ih =>
    intro i r h
    cases i with
    | zero => simp at h; subst h; simp [rc, Rn.cells]
    | succ i =>
      have := ih (i := i) (r := r) (by simpa using h)
      rw [show (i + 1) * 3 + 2 = i * 3 + 2 + 1 + 1 + 1 by omega]
      simp only [rc, List.flatMap_cons, List.append_assoc, List.set_cons_succ] at this ⊢
      simpa [Rn.cells] using this
theorem mid_get {f : Rn → Rn} {l : List Rn} {i : Nat} {r : Rn} (h : l[i]? = some r) : ((l.take i).map f ++ l.drop i)[i]? = some r := by
  have := (List.getElem?_eq_some_iff.1 h).1
  have e : ((l.take i).map f).length = i := by simp; omega
  rw [List.getElem?_append_right (by omega), e, Nat.sub_self, List.getElem?_drop, Nat.add_zero, h]
theorem mid_succ {f : Rn → Rn} {l : List Rn} {i : Nat} {r : Rn} (h : l[i]? = some r) : ((l.take i).map f ++ l.drop i).set i (f r) = (l.take (i + 1)).map f ++ l.drop (i + 1) := by
  have hi := (List.getElem?_eq_some_iff.1 h)
  have hi1 := hi.1
  have e : ((l.take i).map f).length = i := by simp; omega
  have hd : l.drop i = r :: l.drop (i + 1) := by rw [List.drop_eq_getElem_cons hi.1, hi.2]
  rw [List.set_append_right _ _ (by omega), e, Nat.sub_self, hd, List.take_add_one, h]
  simp
theorem mid_same {f : Rn → Rn} {l : List Rn} {i : Nat} {r : Rn} (h : l[i]? = some r) (hf : f r = r) : ((l.take i).map f ++ l.drop i) = (l.take (i + 1)).map f ++ l.drop (i + 1) := by
  have hi := (List.getElem?_eq_some_iff.1 h)
  have hd : l.drop i = r :: l.drop (i + 1) := by rw [List.drop_eq_getElem_cons hi.1, hi.2]
  rw [hd, List.take_add_one, h]
  simp [hf]
theorem mid_len {f : Rn → Rn} {l : List Rn} {i : Nat} (h : i ≤ l.length) : ((l.take i).map f ++ l.drop i).length = l.length := by simp; omega
theorem splitL_n {l : List Rn} {a : Int} {r : Rn} (h : r ∈ splitL l a) : ∃ q ∈ l, r.n = q.n := by
  unfold splitL at h
  split at h
  · exact ⟨r, h, rfl⟩
  · split at h
    · exact ⟨r, h, rfl⟩
    · rename_i q hq
      simp only [List.append_assoc, List.mem_append, List.mem_cons, List.not_mem_nil, or_false] at h
      rcases h with h | (h | h) | h
      · exact ⟨r, List.mem_of_mem_take h, rfl⟩
      · exact ⟨q, List.mem_of_getElem? hq, by rw [h]⟩
      · exact ⟨q, List.mem_of_getElem? hq, by rw [h]⟩
      · exact ⟨r, List.mem_of_mem_drop h, rfl⟩
theorem joinStep_pos (out : List Rn) (r : Rn) : 0 < (joinStep out r).length := by
  unfold joinStep
  split
  · split <;> simp
  · simp
theorem joinL_pos {l : List Rn} (h : 0 < l.length) : 0 < (joinL l).length := by
  obtain ⟨k, hk⟩ : ∃ k, l.length = k + 1 := ⟨l.length - 1, by omega⟩
  have := joinL_succ (l := l) (i := k) (List.getElem?_eq_getElem (by omega))
  rw [show k + 1 = l.length from hk.symm, List.take_length] at this
  rw [this]; exact joinStep_pos _ _
set_option maxRecDepth 4000 in
theorem add_spec (b : Nat) (rs : List Rn) (n lo hi d : Int) (hB : Bnd rs n) (h0 : 0 < rs.length) (hd : -1000000000 ≤ d ∧ d ≤ 1000000000) : Tri Try.prog 31 [.pointer (some ⟨b, 0, none⟩), .int .i64 lo, .int .i64 hi, .int .i64 d] [cnt b rs n]
    (fun u L' => ((lo < 0 ∨ n < hi ∨ hi < lo ∨ addOk rs lo hi d = false) ∧ u = .tuple #[.slice none 0 0, .int .i64 2] ∧ L' = [cnt b rs n]) ∨
      (0 ≤ lo ∧ hi ≤ n ∧ lo ≤ hi ∧ addOk rs lo hi d = true ∧ ∃ v, u = .tuple #[v, .int .i64 0] ∧ L' = [cnt b (addL rs lo hi d) n, vec v (goneL rs lo hi d).length 1 3 ((goneL rs lo hi d).map intC)])) := by
  obtain ⟨hlen, hn0, hn, hr⟩ := id hB
  refine tri_intro Try.func31 rfl Try.results31 Try.ntmps31 rfl (by kernel_rfl) fun R => ?_
  repeat (first | refine go rfl ?_ | intro _)
  rename_i b7 b8 b9
  refine SXR.callF (cnt_made b rs n) rfl ?_
  refine SXR.open (cnt b rs n) (cnt_open b rs n) ?_
  rintro ⟨bs, cap, sp⟩ ⟨hcap, hsp⟩
  dsimp only at hcap hsp ⊢
  repeat (refine go rfl ?_)
  refine SXG.split rfl (fun hc1 => ?_) (fun hc1 => ?_)
  · repeat (refine go rfl ?_)
    refine Fin.shut _ (cnt_shut (b := b) (n := n) (bs := bs) hcap hsp) ?_
    exact fin_ret (.cell (resC rfl rfl) (.cell (resC rfl rfl) .nil)) (.inl ⟨.inl hc1, rfl, rfl⟩)
  repeat (refine go rfl ?_)
  refine SXG.split rfl (fun hc2 => ?_) (fun hc2 => ?_)
  · repeat (refine go rfl ?_)
    refine Fin.shut _ (cnt_shut (b := b) (n := n) (bs := bs) hcap hsp) ?_
    exact fin_ret (.cell (resC rfl rfl) (.cell (resC rfl rfl) .nil)) (.inl ⟨.inr (.inl hc2), rfl, rfl⟩)
  repeat (refine go rfl ?_)
  refine SXB.split (fun hc3 => ?_) (fun hc3 => ?_)
  · repeat (refine go rfl ?_)
    refine Fin.shut _ (cnt_shut (b := b) (n := n) (bs := bs) hcap hsp) ?_
    exact fin_ret (.cell (resC rfl rfl) (.cell (resC rfl rfl) .nil)) (.inl ⟨.inr (.inr (.inl hc3)), rfl, rfl⟩)
  repeat (first | refine go rfl ?_ | intro _)
  rename_i b10
  refine SXR.shut _ (cnt_shut (b := b) (n := n) (bs := bs) hcap hsp) ?_
  refine SXR.call (parts_spec b lo hi) rfl ?_
  rintro v L' ⟨b1, b2, b3, rfl, rfl⟩
  dsimp only [List.cons_append, List.nil_append]
  repeat (refine go rfl ?_)
  refine SXC.ent (big_add (A := vec (.slice none 0 0) ([] : List Int).length 1 3 (([] : List Int).map intC)) vec_nil) ?_
  refine SXC.shut (gcell b10 []) (gcell_shut (b := b10) (l := []) (v := .slice none 0 0)) ?_
  have hK0 : gcell b10 [] = gcell b10 (((partsL rs lo hi).take 0).flatMap (goneR d)) := rfl
  rw [hK0]
  refine SXC.ent (big_add (A := okK rs lo hi d 0) fun _ => rfl) ?_
  refine SXC.rangeFunc (pre := [pts b7 (.cells [.int .i64 d].toArray 3 (0, 0)), pts b8 (.cells [.slice none 0 0].toArray 30 (0, 0)), pts b9 (.cells [.int .i64 0].toArray 26 (0, 0)), gcell b10 (((partsL rs lo hi).take 0).flatMap (goneR d)), okK rs lo hi d 0, pts b1 (.cells [.pointer (some ⟨b, 0, none⟩)].toArray 65 (0, 0)), pts b2 (.cells [.int .i64 lo].toArray 3 (0, 0)), pts b3 (.cells [.int .i64 hi].toArray 3 (0, 0)), cnt b rs n]) rfl
    (fun l r hl => parts_iter hl b b1 b2 b3 rs n lo hi (by omega) (fun k => [pts b7 (.cells [.int .i64 d].toArray 3 (0, 0)), pts b8 (.cells [.slice none 0 0].toArray 30 (0, 0)), pts b9 (.cells [.int .i64 0].toArray 26 (0, 0)), gcell b10 (((partsL rs lo hi).take k).flatMap (goneR d)), okK rs lo hi d k])
      (fun c L => c = .ret ∧ addOk rs lo hi d = false ∧ L = [pts b8 (.cells [.slice none 0 0].toArray 30 (0, 0)), pts b9 (.cells [.int .i64 2].toArray 26 (0, 0))]) ?_) ?_ ?_
  · intro k r' hk
    have hrm := partsL_mem (List.mem_of_getElem? hk)
    refine ytri_of hl rfl (by kernel_rfl) (by kernel_rfl) (by kernel_rfl) fun R => ?_
    repeat (first | refine go rfl ?_ | intro _)
    rename_i b11
    refine fin_asg hl.state ?_
    repeat (refine go rfl ?_)
    obtain ⟨q, hq, hr', hlt⟩ := hrm
    have hqb := hr q hq
    have hn' : r'.n = q.n := by rw [hr']; rfl
    have hlo' : 0 ≤ r'.lo := by rw [hr']; show 0 ≤ max q.lo lo; omega
    have hhi' : r'.hi ≤ 4096 := by rw [hr']; show min q.hi hi ≤ 4096; omega
    have hkl : k < (partsL rs lo hi).length := (List.getElem?_eq_some_iff.1 hk).1
    have hpl : (partsL rs lo hi).length ≤ 4096 := by
      have : (partsL rs lo hi).length ≤ rs.length := by unfold partsL; exact Nat.le_trans (List.length_filter_le _ _) (by simp)
      omega
    have hGl := goneL_len rs n lo hi d hB k
    rw [show IntKind.i64.wrap (0 - r'.n) = -r'.n by rw [IntWalk.i64_in _ ⟨by omega, by omega⟩]; omega]
    have hbad : badR d r' = true → addOk rs lo hi d = false := fun h => by
      unfold addOk
      rw [List.all_eq_false]
      exact ⟨r', List.mem_of_getElem? hk, by simp [h]⟩
    refine SXG.split rfl (fun hb1 => ?_) (fun hb1 => ?_)
    · repeat (refine go rfl ?_)
      exact fin_rnd_out (.inl ⟨rfl, rfl⟩) (.inr ⟨rfl, _, _, ⟨rfl, hbad (by simp [badR, hb1]), rfl⟩, rfl⟩)
    repeat (refine go rfl ?_)
    rw [show IntKind.i64.wrap (1000000 - r'.n) = 1000000 - r'.n from IntWalk.i64_in _ ⟨by omega, by omega⟩]
    refine SXB.split (fun hb2 => ?_) (fun hb2 => ?_)
    · repeat (refine go rfl ?_)
      exact fin_rnd_out (.inl ⟨rfl, rfl⟩) (.inr ⟨rfl, _, _, ⟨rfl, hbad (by simp [badR]; omega), rfl⟩, rfl⟩)
    repeat (refine go rfl ?_)
    have hs : ((partsL rs lo hi).take (k + 1)).flatMap (goneR d) = ((partsL rs lo hi).take k).flatMap (goneR d) ++ goneR d r' := by
      rw [List.take_add_one, hk]; simp
    have hok : ∀ m, okK rs lo hi d k m → okK rs lo hi d (k + 1) m := fun m h => by
      unfold okK at h ⊢
      rw [List.take_add_one, hk, List.all_append, h]
      simp [badR, hb1]; omega
    refine SXC.shut1 (okK rs lo hi d (k + 1)) (okK rs lo hi d k) hok ?_
    by_cases hg : d ≠ 0 ∧ d = -r'.n
    · have hgr : goneR d r' = (List.range (r'.hi - r'.lo).toNat).map (fun k : Nat => r'.lo + (k : Int)) := if_pos hg
      rw [show gcell b10 (((partsL rs lo hi).take k).flatMap (goneR d)) = gcell b10 (((partsL rs lo hi).take k).flatMap (goneR d) ++ (List.range 0).map (fun k : Nat => r'.lo + (k : Int))) by simp]
      refine SXC.loop (fun j : Nat => r'.lo + j ≤ r'.hi) (fun j => [(7, .pointer (some ⟨b7, 0, none⟩)), (10, .pointer (some ⟨b10, 0, none⟩)), (11, .pointer (some ⟨b11, 0, none⟩)), (12, .int .i64 (r'.lo + j))])
        (fun j => [pts b7 (.cells [.int .i64 d].toArray 3 (0, 0)), pts b11 (.cells [.int .i64 r'.lo, .int .i64 r'.hi, .int .i64 r'.n].toArray 76 (0, 0)), gcell b10 (((partsL rs lo hi).take k).flatMap (goneR d) ++ (List.range j).map (fun k : Nat => r'.lo + (k : Int)))])
        (fun j => (r'.hi - r'.lo - j).toNat) 0 (by omega) ⟨rfl, rfl, rfl, by rw [Int.natCast_zero, Int.add_zero], trivial⟩ ?_
      intro j hj
      repeat (refine go rfl ?_)
      refine SXG.split rfl (fun _ => ?_) (fun hd => ?_)
      rotate_left
      · exact absurd hd hg.1
      repeat (refine go rfl ?_)
      rw [show IntKind.i64.wrap (0 - r'.n) = -r'.n by rw [IntWalk.i64_in _ ⟨by omega, by omega⟩]; omega]
      refine SXG.split rfl (fun _ => ?_) (fun hd => ?_)
      rotate_left
      · exact absurd hg.2 hd
      repeat (refine go rfl ?_)
      refine SXB.split (fun hjl => ?_) (fun hjl => ?_)
      · have hGs : ((partsL rs lo hi).take k).flatMap (goneR d) ++ (List.range j).map (fun k : Nat => r'.lo + (k : Int)) ++ [r'.lo + j] = ((partsL rs lo hi).take k).flatMap (goneR d) ++ (List.range (j + 1)).map (fun k : Nat => r'.lo + (k : Int)) := by rw [List.range_succ, List.map_append, List.append_assoc]; rfl
        have hlen2 : (((partsL rs lo hi).take k).flatMap (goneR d) ++ (List.range j).map (fun k : Nat => r'.lo + (k : Int))).length ≤ 100000000 := by rw [List.length_append, List.length_map, List.length_range]; omega
        refine SXC.open (gcell b10 (((partsL rs lo hi).take k).flatMap (goneR d) ++ (List.range j).map (fun k : Nat => r'.lo + (k : Int)))) (gcell_open _ _) ?_
        rintro v ⟨a0, c0, rfl⟩
        repeat (first | refine go rfl ?_ | intro bx)
        refine SXR.append (n := (((partsL rs lo hi).take k).flatMap (goneR d) ++ (List.range j).map (fun k : Nat => r'.lo + (k : Int))).length) (m := 1) (sz := 1) (e := 3) (ys := [intC (r'.lo + j)]) rfl (pk (vec (.slice a0 _ c0) (((partsL rs lo hi).take k).flatMap (goneR d) ++ (List.range j).map (fun k : Nat => r'.lo + (k : Int))).length 1 3 ((((partsL rs lo hi).take k).flatMap (goneR d) ++ (List.range j).map (fun k : Nat => r'.lo + (k : Int))).map intC))) rfl (fun w hw => RdS.of_pts (b := bx) (off := 0) (vs := [intC (r'.lo + j)]) (T := 3) (fr := (0, 0)) (Nat.le_refl 1) rfl hw) rfl (by simp [Value.oneCell']) (by omega) (by omega) fun v' => ?_
        refine SXR.facts vec_is ?_
        rintro ⟨a', c', rfl⟩
        repeat (refine go rfl ?_)
        refine Fin.shut _ (gcell_push (b := b10) (l := ((partsL rs lo hi).take k).flatMap (goneR d) ++ (List.range j).map (fun k : Nat => r'.lo + (k : Int))) (x := r'.lo + j) (v := .slice a' ((((partsL rs lo hi).take k).flatMap (goneR d) ++ (List.range j).map (fun k : Nat => r'.lo + (k : Int))).length + 1) c')) ?_
        rw [hGs]
        exact fin_round (j + 1) (by omega) (by omega) ⟨rfl, rfl, rfl, by rw [IntWalk.i64_in _ ⟨by omega, by omega⟩, Int.natCast_succ, Int.add_assoc], trivial⟩
      · have hjj : j = (r'.hi - r'.lo).toNat := by omega
        rw [hjj, ← hgr, ← hs]
        repeat (refine go rfl ?_)
        exact fin_rnd (.inl ⟨rfl, rfl⟩)
    · have hgr : goneR d r' = [] := if_neg hg
      rw [hgr, List.append_nil] at hs
      rw [← hs]
      refine SXC.once ?_
      repeat (refine go rfl ?_)
      refine SXG.split rfl (fun hd => ?_) (fun hd => ?_)
      · repeat (refine go rfl ?_)
        rw [show IntKind.i64.wrap (0 - r'.n) = -r'.n by rw [IntWalk.i64_in _ ⟨by omega, by omega⟩]; omega]
        refine SXG.split rfl (fun hd2 => absurd ⟨hd, hd2⟩ hg) (fun hd2 => ?_)
        repeat (refine go rfl ?_)
        exact fin_rnd (.inl ⟨rfl, rfl⟩)
      · repeat (refine go rfl ?_)
        exact fin_rnd (.inl ⟨rfl, rfl⟩)
  · rintro D L'' (⟨_, rfl⟩ | ⟨c, L, h, _⟩)
    · dsimp only [List.cons_append, List.nil_append]
      rw [List.take_length]
      refine Fin.open (okK rs lo hi d (partsL rs lo hi).length) (cs := fun _ : Unit => []) (p := fun _ => addOk rs lo hi d = true) (fun m h => ⟨(), by unfold okK at h; rw [List.take_length] at h; exact h, trivial⟩) ?_
      intro _ hok
      have hl1 := splitL_le (l := rs) (a := lo)
      have hl2 := splitL_le (l := splitL rs lo) (a := hi)
      have hp2 : 0 < (splitL (splitL rs lo) hi).length := splitL_pos (splitL_pos h0)
      have hl2n : ∀ r ∈ splitL (splitL rs lo) hi, 0 ≤ r.n ∧ r.n ≤ 1000000 := fun r h => by
        obtain ⟨q, hq, e⟩ := splitL_n h
        obtain ⟨p, hp, e2⟩ := splitL_n hq
        have := hr p hp
        omega
      refine Fin.open (cnt b rs n) (cnt_open b rs n) ?_
      rintro ⟨bs', cap', sp'⟩ ⟨hcap', hsp'⟩
      dsimp only at hcap' hsp' ⊢
      repeat (refine go rfl ?_)
      refine SXR.shutB _ bs' (vec_shut (n := rs.length) (sz := 3) (T := 76) (by rw [rc_length]) hcap' hsp') ?_
      repeat (refine go rfl ?_)
      refine SXR.call (split_spec (.slice (some ⟨bs', 0, none⟩) rs.length cap') rs lo h0 (by omega)) rfl ?_
      rintro u1 L' rfl
      dsimp only [List.cons_append, List.nil_append]
      repeat (refine go rfl ?_)
      refine SXR.call (split_spec u1 (splitL rs lo) hi (splitL_pos h0) (by omega)) rfl ?_
      rintro u2 L' rfl
      dsimp only [List.cons_append, List.nil_append]
      repeat (refine go rfl ?_)
      generalize hgl : splitL (splitL rs lo) hi = l2 at hl2 hp2 hl2n ⊢
      refine SXR.call (runClone_spec u2 l2 (by omega)) rfl ?_
      rintro u3 L' rfl
      dsimp only [List.cons_append, List.nil_append]
      repeat (refine go rfl ?_)
      refine SXR.vec (v := u3) (n := l2.length) (sz := 3) (T := 76) (cs := rc l2) (fun _ h _ => absurd h (by omega)) ?_
      rintro bl capl spl rfl hcapl hspl hll
      repeat (refine go rfl ?_)
      rw [show rc l2 = rc ((l2.take 0).map (addR lo hi d) ++ l2.drop 0) from rfl]
      refine SXC.loop (fun i : Nat => i ≤ l2.length) (fun i => [(0, .pointer (some ⟨b, 0, none⟩)), (1, .int .i64 lo), (2, .int .i64 hi), (7, .pointer (some ⟨b7, 0, none⟩)), (8, .pointer (some ⟨b8, 0, none⟩)), (9, .pointer (some ⟨b9, 0, none⟩)), (10, .pointer (some ⟨b10, 0, none⟩)), (13, .slice (some ⟨bl, 0, none⟩) l2.length capl), (84, .slice (some ⟨bl, 0, none⟩) l2.length capl), (85, .int .i64 l2.length), (86, .int .i64 i)])
        (fun i => [pts bl (.cells (rc ((l2.take i).map (addR lo hi d) ++ l2.drop i) ++ spl).toArray 76 (0, 0)), pts b7 (.cells [.int .i64 d].toArray 3 (0, 0))]) (fun i => l2.length - i) 0 (Nat.zero_le _) ⟨rfl, rfl, rfl, rfl, rfl, rfl, rfl, rfl, rfl, rfl, rfl, trivial⟩ ?_
      intro i hi'
      repeat (refine go rfl ?_)
      refine SXB.split (fun hlt => ?_) (fun hge => ?_)
      · have hil : i < l2.length := by omega
        obtain ⟨r, hr2⟩ : ∃ r, l2[i]? = some r := ⟨l2[i], List.getElem?_eq_getElem hil⟩
        have hml := mid_len (f := addR lo hi d) hi'
        have hmg := mid_get (f := addR lo hi d) hr2
        have hrn := hl2n r (List.mem_of_getElem? hr2)
        repeat (refine go rfl ?_)
        refine SXR.index (i * 3) rfl (by omega) (by omega) (by omega) ?_
        repeat (refine go rfl ?_)
        refine SXL.aggAt (rc_take3 _ spl i r hmg) (rc_fits _ spl i (by omega)) ?_
        repeat (first | refine go rfl ?_ | intro b15)
        refine SXG.split rfl (fun hc5 => ?_) (fun hc5 => ?_)
        · repeat (refine go rfl ?_)
          refine SXB.split (fun hc6 => ?_) (fun hc6 => ?_)
          · have hf : addR lo hi d r = ⟨r.lo, r.hi, r.n + d⟩ := if_pos ⟨hc5, hc6⟩
            repeat (refine go rfl ?_)
            refine SXC.draw [pts b7 (.cells [.int .i64 d].toArray 3 (0, 0))] (by kernel_rfl) ?_
            refine SXE.quiet 0 rfl rfl rfl (fun X => by (repeat (refine go rfl ?_)); exact fin_qs rfl) ?_
            refine SXE.quiet 1 rfl rfl rfl (fun X => by (repeat (refine go rfl ?_)); exact fin_qs rfl) ?_
            refine SXE.quiet 2 rfl rfl rfl (fun X => by (repeat (refine go rfl ?_)); refine SXR.index (i * 3) rfl (by omega) (by omega) (by omega) ?_; (repeat (refine go rfl ?_)); exact fin_qs rfl) ?_
            refine SXE.quiet 3 rfl rfl rfl (fun X => by (repeat (refine go rfl ?_)); exact fin_qs rfl) ?_
            refine SXE.phase 4 rfl rfl rfl (by (repeat (refine go rfl ?_)); refine SXL.row (rc_n spl hmg) ?_; (repeat (refine go rfl ?_)); exact fin_qs rfl) ?_
            refine SXE.quiet 5 rfl rfl rfl (fun X => by (repeat (refine go rfl ?_)); exact fin_qs rfl) ?_
            refine SXE.quiet 6 rfl rfl rfl (fun X => by (repeat (refine go rfl ?_)); exact fin_qs rfl) ?_
            rw [show IntKind.i64.wrap (r.n + d) = r.n + d from IntWalk.i64_in _ ⟨by omega, by omega⟩]
            refine SXE.quiet 7 rfl rfl rfl (fun X => by (repeat (refine go rfl ?_)); refine SXR.index (i * 3) rfl (by omega) (by omega) (by omega) ?_; (repeat (refine go rfl ?_)); exact fin_qs rfl) ?_
            refine SXE.quiet 8 rfl rfl rfl (fun X => by (repeat (refine go rfl ?_)); exact fin_qs rfl) ?_
            refine SXE.one 9 rfl rfl rfl ?_
            repeat (refine go rfl ?_)
            refine SXS.row rfl (by rw [List.length_append, rc_length]; omega) ?_
            rw [rc_setn spl (r.n + d) hmg, ← hf, mid_succ hr2]
            repeat (refine go rfl ?_)
            refine fin_qe0P ?_
            refine SXE.done rfl ?_
            repeat (refine go rfl ?_)
            exact fin_round (i + 1) (by omega) (by omega) ⟨rfl, rfl, rfl, rfl, rfl, rfl, rfl, rfl, rfl, rfl, by rw [wrap_succ (by omega)], trivial⟩
          · have hf : addR lo hi d r = r := if_neg fun h => hc6 h.2
            rw [mid_same hr2 hf]
            repeat (refine go rfl ?_)
            exact fin_round (i + 1) (by omega) (by omega) ⟨rfl, rfl, rfl, rfl, rfl, rfl, rfl, rfl, rfl, rfl, by rw [wrap_succ (by omega)], trivial⟩
        · have hf : addR lo hi d r = r := if_neg fun h => hc5 h.1
          rw [mid_same hr2 hf]
          repeat (refine go rfl ?_)
          exact fin_round (i + 1) (by omega) (by omega) ⟨rfl, rfl, rfl, rfl, rfl, rfl, rfl, rfl, rfl, rfl, by rw [wrap_succ (by omega)], trivial⟩
      · obtain rfl : i = l2.length := by omega
        rw [List.take_length, List.drop_length, List.append_nil]
        have hml : (l2.map (addR lo hi d)).length = l2.length := List.length_map ..
        refine SXC.shutB _ bl (vec_shut (n := l2.length) (sz := 3) (T := 76) (by rw [rc_length, hml]) hcapl hspl) ?_
        rw [show vec (.slice (some ⟨bl, 0, none⟩) l2.length capl) l2.length 3 76 (rc (l2.map (addR lo hi d))) = vec (.slice (some ⟨bl, 0, none⟩) l2.length capl) (l2.map (addR lo hi d)).length 3 76 (rc (l2.map (addR lo hi d))) by rw [hml]]
        repeat (refine go rfl ?_)
        refine SXR.call (join_spec (.slice (some ⟨bl, 0, none⟩) l2.length capl) (l2.map (addR lo hi d)) (by omega)) rfl ?_
        rintro u4 L' rfl
        dsimp only [List.cons_append, List.nil_append]
        have hjp : 0 < (joinL (l2.map (addR lo hi d))).length := joinL_pos (by omega)
        refine SXR.vec (v := u4) (n := (joinL (l2.map (addR lo hi d))).length) (sz := 3) (T := 76) (cs := rc (joinL (l2.map (addR lo hi d)))) (fun _ h _ => absurd h (by omega)) ?_
        rintro bj capj spj rfl hcapj hspj hlj
        refine SXR.open (gcell b10 ((partsL rs lo hi).flatMap (goneR d))) (gcell_open _ _) ?_
        rintro v ⟨a0, c0, rfl⟩
        repeat (refine go rfl ?_)
        refine fin_mark ?_
        refine Fin.shut _ (cnt_shut (b := b) (n := n) (bs := bj) hcapj hspj) ?_
        rw [← hgl]
        exact fin_ret (.cell (resC rfl rfl) (.cell (resC rfl rfl) .nil)) (.inr ⟨by omega, by omega, by omega, hok, _, rfl, rfl⟩)
    · cases h
  · rintro D L'' c (⟨h, _⟩ | ⟨c', L, h, ⟨rfl, hf, rfl⟩, rfl⟩)
    · cases h
    · cases h
      refine ⟨by kernel_rfl, ?_⟩
      dsimp only [List.cons_append, List.nil_append]
      repeat (refine go rfl ?_)
      refine fin_mark ?_
      exact fin_ret (.cell (resC rfl rfl) (.cell (resC rfl rfl) .nil)) (.inl ⟨.inr (.inr (.inr hf)), rfl, rfl⟩)
end Go.Proofs.Ytlgphhknfocfaaa
