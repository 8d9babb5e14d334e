import Derived.Test.YtlgphhknfocfaaaAmap11
import Derived.Test.YtlgphhknfocfaaaSlBits
namespace Go.Proofs.Ytlgphhknfocfaaa
open Go.Sl

def emp : HP := fun _ => True
theorem set_emp {L : List HP} {i : Nat} (h : i < L.length) : (L.set i emp).Perm (emp :: (L.take i ++ L.drop (i + 1))) := by
  have e : L.set i emp = L.take i ++ emp :: L.drop (i + 1) := by rw [List.set_eq_take_append_cons_drop, if_pos h]
  rw [e]; exact List.perm_middle
theorem big_focusS {L : List HP} {i : Nat} {A : HP} (h : L[i]? = some A) {m : PH} (hm : big L m) : big [A, big (L.set i emp)] m := by
  refine big_map (fun m h' => ?_) m (big_focus h hm)
  have h2 := big_flat h'
  rw [List.append_nil] at h2
  exact big_pack (L2 := []) (by rw [List.append_nil]; exact big_perm (set_emp (List.getElem?_eq_some_iff.1 h).1).symm (big_add (A := emp) (fun _ => trivial) _ h2))
theorem big_backS {L : List HP} {i : Nat} {A : HP} (hi : i < L.length) {m : PH} (hm : big [A, big (L.set i emp)] m) : big (L.set i A) m := by
  refine big_back hi (big_map (fun m h' => ?_) m hm)
  have h2 := big_flat h'
  rw [List.append_nil] at h2
  exact big_pack (L2 := []) (by rw [List.append_nil]; exact big_tail (big_perm (set_emp hi) h2))
@[reducible] def poolY (p : Pl) (bs : List (Option Nat)) (i j : Nat) : HP := big (((List.zipWith oneO bs p.l).set i emp).set j emp)
theorem pool_open2 (bp : Nat) (p : Pl) (bs : List (Option Nat)) (id n : Int) (a c : Am) (h : p.get id = some a) (hc : p.get n = some c) (hne : id ≠ n) : ∀ m, poolB bp p bs m → ∃ x : Nat × Nat × Value, (At bs id x.1 ∧ At bs n x.2.1 ∧ bs.length = p.l.length ∧ p.ok) ∧
    big [pts bp (.cells [.int .i64 p.most, .bool true, x.2.2, .int .i64 p.kn].toArray 63 (0, 0)), vec x.2.2 bs.length 1 64 (bs.map pv), oneH x.1 a, oneH x.2.1 c, poolY p bs (id - 1).toNat (n - 1).toNat] m := by
  intro m hm
  obtain ⟨b, hb, _⟩ := pool_open bp p bs id a h m hm
  obtain ⟨bn, hbn, _⟩ := pool_open bp p bs n c hc m hm
  obtain ⟨v, ⟨h1, h2⟩, hm⟩ := hm
  obtain ⟨g1, g2, g3⟩ := Pl.get_some h
  obtain ⟨k1, k2, k3⟩ := Pl.get_some hc
  refine ⟨(b, bn, v), ⟨hb, hbn, h1, h2⟩, ?_⟩
  refine big_map (fun m h => big_map (fun m h => ?_) m h) m hm
  have hz := big_flat h
  rw [List.append_nil] at hz
  have hij : (id - 1).toNat ≠ (n - 1).toNat := by omega
  refine big_map (fun m h => ?_) m (big_focusS (zip_get hb.1 g3) hz)
  have hz2 := big_flat h
  rw [List.append_nil] at hz2
  exact big_focusS (by rw [List.getElem?_set_ne hij]; exact zip_get hbn.1 k3) hz2
theorem pool_close2 (bp : Nat) (p : Pl) (bs : List (Option Nat)) (id n : Int) (b bn : Nat) (v : Value) (a c c' : Am) (h : p.get id = some a) (hc : p.get n = some c) (hne : id ≠ n) (hb : At bs id b) (hbn : At bs n bn) (hl : bs.length = p.l.length) (hp : p.ok) : ∀ m,
    big [pts bp (.cells [.int .i64 p.most, .bool true, v, .int .i64 p.kn].toArray 63 (0, 0)), vec v bs.length 1 64 (bs.map pv), oneH b a, oneH bn c', poolY p bs (id - 1).toNat (n - 1).toNat] m → poolB bp (p.upd n c') bs m := by
  intro m hm
  obtain ⟨g1, g2, g3⟩ := Pl.get_some h
  obtain ⟨k1, k2, k3⟩ := Pl.get_some hc
  have hk : (p.upd n c').kn = p.kn := by unfold Pl.kn Pl.upd; rw [knL_some k3]
  have hij : (id - 1).toNat ≠ (n - 1).toNat := by omega
  refine ⟨v, ⟨by rw [hl]; simp [Pl.upd], by simpa [Pl.ok, Pl.upd] using hp⟩, ?_⟩
  rw [hk]
  have hz : List.zipWith oneO bs (p.upd n c').l = (List.zipWith oneO bs p.l).set (n - 1).toNat (oneH bn c') := by
    conv => lhs; rw [← set_same hbn.1]
    exact zip_set
  rw [hz]
  refine big_map (fun m h => big_map (fun m h => ?_) m h) m hm
  have h3 : big [oneH bn c', oneH b a, poolY p bs (id - 1).toNat (n - 1).toNat] m := big_swap h
  have hlen : (List.zipWith oneO bs p.l).length = p.l.length := by simp; omega
  have h4 : big [oneH bn c', big ((List.zipWith oneO bs p.l).set (n - 1).toNat emp)] m := by
    refine big_map (fun m h => ?_) m h3
    unfold poolY at h
    rw [List.set_comm _ _ hij] at h
    have h5 := big_backS (A := oneH b a) (by rw [List.length_set, hlen]; omega) h
    rw [set_same (by rw [List.getElem?_set_ne (Ne.symm hij)]; exact zip_get hb.1 g3)] at h5
    exact big_pack (L2 := []) (by rw [List.append_nil]; exact h5)
  exact big_pack (L2 := []) (by rw [List.append_nil]; exact big_backS (by rw [hlen]; omega) h4)
theorem Pl.make_get {p : Pl} {m : Int} (h : (p.make m).2.1 = 0) : (p.make m).2.2.get (p.make m).1 = some (fresh m) ∧ ∀ id a, p.get id = some a → (p.make m).2.2.get id = some a ∧ id ≠ (p.make m).1 := by
  unfold Pl.make at h ⊢
  split at h
  · cases h
  · rename_i h1
    rw [if_neg h1]
    split at h
    · cases h
    · rename_i h2
      rw [if_neg h2]
      cases hf : p.l.findIdx? Option.isNone with
      | none =>
        simp only
        constructor
        · unfold Pl.get
          rw [if_pos (by simp; omega)]
          rw [show ((p.l.length : Int) + 1 - 1).toNat = p.l.length by omega]
          simp
        · intro id a ha
          obtain ⟨g1, g2, g3⟩ := Pl.get_some ha
          refine ⟨?_, by omega⟩
          unfold Pl.get
          rw [if_pos (by simp; omega)]
          rw [List.getElem?_append_left (by omega), g3]; rfl
      | some k =>
        obtain ⟨q1, q2, _⟩ := List.findIdx?_eq_some_iff_getElem.1 hf
        simp only
        constructor
        · unfold Pl.get
          rw [if_pos (by simp; omega)]
          rw [show ((k : Int) + 1 - 1).toNat = k by omega]
          simp [q1]
        · intro id a ha
          obtain ⟨g1, g2, g3⟩ := Pl.get_some ha
          have hk : (id - 1).toNat ≠ k := by
            rintro rfl
            rw [List.getElem?_eq_getElem q1] at g3
            rw [Option.some.inj g3] at q2; cases q2
          refine ⟨?_, by omega⟩
          unfold Pl.get
          rw [if_pos (by simp; omega)]
          rw [List.getElem?_set_ne (Ne.symm hk), g3]; rfl
theorem Pl.make_bad {p : Pl} {m : Int} (h : (p.make m).2.1 ≠ 0) : (p.make m).2.2 = p ∧ (p.make m).1 = 0 := by
  unfold Pl.make at h ⊢
  split
  · exact ⟨rfl, rfl⟩
  · rename_i h1
    rw [if_neg h1] at h
    split
    · exact ⟨rfl, rfl⟩
    · rename_i h2
      rw [if_neg h2] at h
      cases hf : p.l.findIdx? Option.isNone with
      | none => rw [hf] at h; exact absurd rfl h
      | some k => rw [hf] at h; exact absurd rfl h
def Pl.copyA (a : Am) (lo hi : Int) : Am := ⟨List.replicate (hi - lo).toNat 1, (a.a.drop lo.toNat).take (hi - lo).toNat⟩
def Pl.copy (p : Pl) (id lo hi : Int) : Int × List Int × Int × Pl := match p.get id with
  | none => (0, [], 7, p)
  | some a => if a.within lo hi = false then (0, [], 2, p) else
    if (p.make (hi - lo)).2.1 ≠ 0 then (0, [], (p.make (hi - lo)).2.1, p) else
    ((p.make (hi - lo)).1, (usedN (Pl.copyA a lo hi).a (Pl.copyA a lo hi).a.length).map (·.2), 0, (p.make (hi - lo)).2.2.upd (p.make (hi - lo)).1 (Pl.copyA a lo hi))
theorem madeL_spec (bp : Nat) (most kn : Int) (v : Value) : Tri Try.prog 29 [.pointer (some ⟨bp, 0, none⟩)] [pts bp (.cells [.int .i64 most, .bool true, v, .int .i64 kn].toArray 63 (0, 0))] (fun u l => u = .bool true ∧ l = [pts bp (.cells [.int .i64 most, .bool true, v, .int .i64 kn].toArray 63 (0, 0))]) := by
  refine tri_intro Try.func29 rfl Try.results29 Try.ntmps29 rfl (by kernel_rfl) fun R => ?_
  repeat (refine go rfl ?_)
  exact fin_ret (.tmp rfl .nil) ⟨rfl, rfl⟩
theorem pofL_spec (bp : Nat) (most kn : Int) (v : Value) (bs : List (Option Nat)) (hlen : bs.length ≤ 4096) (id : Int) : Tri Try.prog 37 [.pointer (some ⟨bp, 0, none⟩), .int .i64 id] [pts bp (.cells [.int .i64 most, .bool true, v, .int .i64 kn].toArray 63 (0, 0)), vec v bs.length 1 64 (bs.map pv)]
    (fun u l => u = pvAt bs id ∧ l = [pts bp (.cells [.int .i64 most, .bool true, v, .int .i64 kn].toArray 63 (0, 0)), vec v bs.length 1 64 (bs.map pv)]) := by
  refine tri_intro Try.func37 rfl Try.results37 Try.ntmps37 rfl (by kernel_rfl) fun R => ?_
  repeat (refine go rfl ?_)
  refine SXR.callF (madeL_spec bp most kn v) rfl ?_
  repeat (refine go rfl ?_)
  refine SXG.split rfl (fun hc => ?_) (fun hc => ?_)
  · repeat (refine go rfl ?_)
    exact fin_ret (.tmp rfl .nil) ⟨(if_neg (by omega)).symm, rfl⟩
  repeat (refine go rfl ?_)
  refine SXR.lenRd (n := bs.length) (cs := bs.map pv) rfl (fun w hw => RdS.of_vec (sz := 1) (T := 64) hw) ?_
  repeat (refine go rfl ?_)
  refine SXB.split (fun hc2 => ?_) (fun hc2 => ?_)
  · repeat (refine go rfl ?_)
    exact fin_ret (.tmp rfl .nil) ⟨(if_neg (by omega)).symm, rfl⟩
  refine SXC.vec (v := v) (n := bs.length) (sz := 1) (T := 64) (cs := bs.map pv) (fun _ h _ => absurd h (by omega)) ?_
  rintro b cap sp rfl hcap hsp hl
  obtain ⟨o, ho⟩ : ∃ o, bs[(id - 1).toNat]? = some o := ⟨bs[(id - 1).toNat]'(by omega), List.getElem?_eq_getElem (by omega)⟩
  repeat (refine go rfl ?_)
  rw [show IntKind.i64.wrap (id - 1) = id - 1 from IntWalk.i64_in _ ⟨by omega, by omega⟩]
  refine SXR.index ((id - 1).toNat) rfl (by omega) (by omega) (by omega) ?_
  repeat (refine go rfl ?_)
  refine SXL.row (v := pv o) (by rw [List.getElem?_append_left (by simp; omega), List.getElem?_map, ho]; rfl) ?_
  repeat (refine go rfl ?_)
  refine Fin.shutB _ b (vec_shut (T := 64) hl hcap hsp) ?_
  refine fin_ret (.tmp rfl .nil) ⟨?_, rfl⟩
  unfold pvAt
  rw [if_pos (by omega), ho]; rfl
theorem copyA_ok {a : Am} {lo hi : Int} (h : a.ok) (h0 : 0 ≤ lo) (h1 : lo < hi) (h2 : hi ≤ a.a.length) : (Pl.copyA a lo hi).ok := by
  obtain ⟨g1, g2, g3, g4⟩ := h
  refine ⟨?_, ?_, ?_, fun x hx => g4 x (List.mem_of_mem_drop (List.mem_of_mem_take hx))⟩
  · simp [Pl.copyA]; omega
  · simp [Pl.copyA]; omega
  · simp [Pl.copyA]; omega
set_option maxRecDepth 4000 in
set_option maxHeartbeats 4000000 in
theorem copy_spec (bp : Nat) (p : Pl) (bs : List (Option Nat)) (id lo hi : Int) : Tri Try.prog 21 [.pointer (some ⟨bp, 0, none⟩), .int .i64 id, .int .i64 lo, .int .i64 hi] [poolB bp p bs]
    (fun u l => ∃ v bs', u = .tuple #[.int .i64 (p.copy id lo hi).1, v, .int .i64 (p.copy id lo hi).2.2.1] ∧ l = [poolB bp (p.copy id lo hi).2.2.2 bs', vec v (p.copy id lo hi).2.1.length 1 3 ((p.copy id lo hi).2.1.map intC)]) := by
  refine tri_intro Try.func21 rfl Try.results21 Try.ntmps21 rfl (by kernel_rfl) fun R => ?_
  repeat (refine go rfl ?_)
  refine SXR.callF (known_spec bp p bs id) rfl ?_
  cases h : p.get id with
  | none =>
    have he : p.er id = 7 := by simp [Pl.er, h]
    have hs : p.copy id lo hi = (0, [], 7, p) := by simp [Pl.copy, h]
    rw [he, hs]
    repeat (refine go rfl ?_)
    refine SXB.split (fun _ => ?_) (fun hc => by exact absurd hc (by decide))
    repeat (refine go rfl ?_)
    refine Fin.ent (big_add (A := vec (.slice none 0 0) ([] : List Int).length 1 3 (([] : List Int).map intC)) vec_nil) ?_
    exact fin_ret (.tmp rfl (.tmp rfl (.tmp rfl .nil))) ⟨_, bs, rfl, rfl⟩
  | some a =>
    have he : p.er id = 0 := by simp [Pl.er, h]
    rw [he]
    repeat (refine go rfl ?_)
    refine SXB.split (fun hc => by exact absurd rfl hc) (fun _ => ?_)
    refine SXC.open (poolB bp p bs) (pool_open bp p bs id a h) ?_
    intro b hb
    rw [hb.2]
    repeat (refine go rfl ?_)
    refine SXR.callF (within_spec b a lo hi) rfl ?_
    cases hw : a.within lo hi with
    | false =>
      have hs : p.copy id lo hi = (0, [], 2, p) := by simp [Pl.copy, h, hw]
      rw [hs]
      repeat (refine go rfl ?_)
      refine Fin.ent (big_add (A := vec (.slice none 0 0) ([] : List Int).length 1 3 (([] : List Int).map intC)) vec_nil) ?_
      refine Fin.shut _ (pool_same bp p bs id b a h hb) ?_
      exact fin_ret (.tmp rfl (.tmp rfl (.tmp rfl .nil))) ⟨_, bs, rfl, rfl⟩
    | true =>
      have hwi : 0 ≤ lo ∧ lo < hi ∧ hi ≤ a.a.length := of_decide_eq_true hw
      refine SXR.facts (A := oneH b a) (p := a.ok) (fun _ ⟨_, h, _⟩ => h) ?_
      intro hok
      have hal := hok.1
      have hal2 := hok.2.2.1
      refine SXR.shut _ (pool_same bp p bs id b a h hb) ?_
      repeat (refine go rfl ?_)
      rw [show IntKind.i64.wrap (hi - lo) = hi - lo from IntWalk.i64_in _ ⟨by omega, by omega⟩]
      refine SXR.call (make_spec bp p bs (hi - lo)) rfl ?_
      rintro u L' ⟨bs', rfl, rfl, hat⟩
      dsimp only [List.cons_append, List.nil_append]
      by_cases hm : (p.make (hi - lo)).2.1 = 0
      · obtain ⟨hm1, hm2⟩ := Pl.make_get hm
        obtain ⟨hm3, hm4⟩ := hm2 id a h
        have hs : p.copy id lo hi = ((p.make (hi - lo)).1, (usedN (Pl.copyA a lo hi).a (Pl.copyA a lo hi).a.length).map (·.2), 0, (p.make (hi - lo)).2.2.upd (p.make (hi - lo)).1 (Pl.copyA a lo hi)) := by
          simp only [Pl.copy, h]; rw [if_neg (by simp [hw]), if_neg (fun hh => hh hm)]
        have hb' := hat id b hb
        rw [hs, hm]
        generalize (p.make (hi - lo)).2.2 = q at hm1 hm3 ⊢
        generalize (p.make (hi - lo)).1 = n at hm1 hm4 ⊢
        clear hat hm hm2
        repeat (refine go rfl ?_)
        refine SXB.split (fun hc => by exact absurd rfl hc) (fun _ => ?_)
        refine SXC.open (poolB bp q bs') (pool_open2 bp q bs' id n a (fresh (hi - lo)) hm3 hm1 hm4) ?_
        rintro ⟨b0, bn, v0⟩ ⟨hb0, hbn, hql, hqo⟩
        dsimp only at hb0 hbn ⊢
        obtain rfl : b0 = b := by have := hb0.1; rw [hb'.1] at this; cases this; rfl
        have hqlen : bs'.length ≤ 4096 := by have := hqo.1; have := hqo.2; omega
        refine SXC.open (oneH b0 a) (oneH_open b0 a) ?_
        rintro ⟨bc, v⟩ _
        refine SXC.open (oneH bn (fresh (hi - lo))) (oneH_open bn (fresh (hi - lo))) ?_
        rintro ⟨bc2, v2⟩ hok2
        dsimp only
        have hfl : (fresh (hi - lo)).a.length = (hi - lo).toNat := by simp [fresh]
        have hfa : (fresh (hi - lo)).a = List.replicate (hi - lo).toNat 0 := rfl
        have hfc : (fresh (hi - lo)).c = List.replicate (hi - lo).toNat 1 := rfl
        rw [hfl, hfa, hfc]
        obtain ⟨k, hk⟩ : ∃ k : Nat, (hi - lo).toNat = k := ⟨_, rfl⟩
        rw [hk]
        refine SXC.vec (v := v) (n := a.a.length) (sz := 1) (T := 3) (cs := a.a.map intC) (fun _ h _ => absurd h (by omega)) ?_
        rintro bv cap sp rfl hcap hsp hl
        refine SXC.vec (v := v2) (n := k) (sz := 1) (T := 3) (cs := (List.replicate k (0 : Int)).map intC) (fun _ h _ => absurd h (by omega)) ?_
        rintro bw capw spw rfl hcapw hspw hlw
        repeat (refine go rfl ?_)
        refine SXC.draw [pts bp (.cells [.int .i64 q.most, .bool true, v0, .int .i64 q.kn].toArray 63 (0, 0)), vec v0 bs'.length 1 64 (bs'.map pv), pts b0 (.cells [.pointer (some ⟨bc, 0, none⟩), .slice (some ⟨bv, 0, none⟩) a.a.length cap].toArray 68 (0, 0))] (by kernel_rfl) ?_
        refine SXE.quiet 0 rfl rfl rfl (fun X => by (repeat (refine go rfl ?_)); exact fin_qs rfl) ?_
        refine SXE.quiet 1 rfl rfl rfl (fun X => by (repeat (refine go rfl ?_)); exact fin_qs rfl) ?_
        refine SXE.phase 2 rfl rfl rfl (by (repeat (refine go rfl ?_)); refine SXR.callF (pofL_spec bp q.most q.kn v0 bs' hqlen n) rfl ?_; (repeat (refine go rfl ?_)); exact fin_qsP rfl) ?_
        rw [hbn.2]
        refine SXE.quiet 3 rfl rfl rfl (fun X => by (repeat (refine go rfl ?_)); exact fin_qs rfl) ?_
        refine SXE.quiet 4 rfl rfl rfl (fun X => by (repeat (refine go rfl ?_)); exact fin_qs rfl) ?_
        refine SXE.phase 5 rfl rfl rfl (by (repeat (refine go rfl ?_)); exact fin_qs rfl) ?_
        refine SXE.quiet 6 rfl rfl rfl (fun X => by (repeat (refine go rfl ?_)); exact fin_qs rfl) ?_
        refine SXE.quiet 7 rfl rfl rfl (fun X => by (repeat (refine go rfl ?_)); exact fin_qs rfl) ?_
        refine SXE.quiet 8 rfl rfl rfl (fun X => by (repeat (refine go rfl ?_)); exact fin_qs rfl) ?_
        refine SXE.quiet 9 rfl rfl rfl (fun X => by (repeat (refine go rfl ?_)); exact fin_qs rfl) ?_
        refine SXE.quiet 10 rfl rfl rfl (fun X => by (repeat (refine go rfl ?_)); exact fin_qs rfl) ?_
        refine SXE.quiet 11 rfl rfl rfl (fun X => by (repeat (refine go rfl ?_)); exact fin_qs rfl) ?_
        have hle : ((a.a.drop lo.toNat).take k).length = k := by simp; omega
        refine SXE.phase 12 rfl rfl rfl (by
          repeat (refine go rfl ?_)
          refine SXR.sliceLoHi lo.toNat hi.toNat lo.toNat rfl rfl (by omega) (by omega) (by omega) (by omega) (by rw [if_neg (by omega)]; omega) ?_
          repeat (refine go rfl ?_)
          exact fin_qs rfl) ?_
        refine SXE.one 13 rfl rfl rfl ?_
        repeat (refine go rfl ?_)
        refine SXR.copy (b := bw) (off := 0) (n := k) (m := k) (sz := 1) (ys := ((a.a.drop lo.toNat).take k).map intC) (vs := (List.replicate k (0 : Int)).map intC ++ spw) rfl (fun w hw => ?_) (by simpa using hle) (Nat.le_refl k) one_ints (by simp; omega) ?_
        · rw [show hi.toNat - lo.toNat = k by omega]
          refine RdS.of_pts (b := bv) (off := lo.toNat) (vs := a.a.map intC ++ sp) (by simp; omega) ?_ hw
          rw [List.length_map, hle, List.drop_append_of_le_length (by simp; omega), List.take_append_of_le_length (by simp; omega), ← List.map_drop, ← List.map_take]
        rw [show ((List.replicate k (0 : Int)).map intC ++ spw).take 0 ++ ((a.a.drop lo.toNat).take k).map intC ++ ((List.replicate k (0 : Int)).map intC ++ spw).drop (0 + (((a.a.drop lo.toNat).take k).map intC).length) = ((a.a.drop lo.toNat).take k).map intC ++ spw by
          rw [List.length_map, hle, List.take_zero, List.nil_append, Nat.zero_add, List.drop_append_of_le_length (by simp), List.drop_of_length_le (l := (List.replicate k (0 : Int)).map intC) (by simp), List.nil_append]]
        repeat (refine go rfl ?_)
        refine fin_qeP rfl ?_
        refine SXE.done rfl ?_
        have hca : (Pl.copyA a lo hi).a = (a.a.drop lo.toNat).take k := by unfold Pl.copyA; rw [hk]
        have hcc : (Pl.copyA a lo hi).c = List.replicate k 1 := by unfold Pl.copyA; rw [hk]
        have hcl : (Pl.copyA a lo hi).a.length = k := by rw [hca, hle]
        refine Fin.shutB _ bv (vec_shut (T := 3) hl hcap hsp) ?_
        refine Fin.shutB _ bw (vec_shut (n := k) (sz := 1) (T := 3) (by rw [List.length_map, hle]; omega) hcapw hspw) ?_
        refine Fin.shut (cs := [pts b0 (.cells [.pointer (some ⟨bc, 0, none⟩), .slice (some ⟨bv, 0, none⟩) a.a.length cap].toArray 68 (0, 0)), cntC bc a.c, vec (.slice (some ⟨bv, 0, none⟩) a.a.length cap) a.a.length 1 3 (a.a.map intC)]) _ (oneH_shut b0 a bc (.slice (some ⟨bv, 0, none⟩) a.a.length cap) hok) ?_
        refine Fin.shut (cs := [pts bn (.cells [.pointer (some ⟨bc2, 0, none⟩), .slice (some ⟨bw, 0, none⟩) k capw].toArray 68 (0, 0)), cntC bc2 (List.replicate k 1), vec (.slice (some ⟨bw, 0, none⟩) k capw) k 1 3 (((a.a.drop lo.toNat).take k).map intC)]) _ (fun m hm => oneH_shut bn (Pl.copyA a lo hi) bc2 (.slice (some ⟨bw, 0, none⟩) k capw) (copyA_ok hok hwi.1 hwi.2.1 hwi.2.2) m (by rw [hcl, hca, hcc]; exact hm)) ?_
        refine Fin.shut _ (pool_close2 bp q bs' id n b0 bn v0 a (fresh (hi - lo)) (Pl.copyA a lo hi) hm3 hm1 hm4 hb0 hbn hql hqo) ?_
        generalize hce : Pl.copyA a lo hi = cA at hcl ⊢
        have hqg : (q.upd n cA).get n = some cA := by
          obtain ⟨g1, g2, g3⟩ := Pl.get_some hm1
          unfold Pl.get Pl.upd
          rw [if_pos (by simp only [List.length_set]; omega), List.getElem?_set_self (by omega)]; rfl
        have huse : (q.upd n cA).used n = usedN cA.a cA.a.length := by simp [Pl.used, hqg]
        have hul := usedN_len cA.a cA.a.length
        rw [← huse] at hul ⊢
        generalize q.upd n cA = q' at hul ⊢
        repeat (first | refine go rfl ?_ | intro _)
        rename_i b14
        refine SXR.call (used_spec bp n) rfl ?_
        rintro u L' ⟨b1, b2, rfl, rfl⟩
        dsimp only [List.cons_append, List.nil_append]
        repeat (refine go rfl ?_)
        refine SXC.ent (big_add (A := vec (.slice none 0 0) ([] : List Int).length 1 3 (([] : List Int).map intC)) vec_nil) ?_
        refine SXC.shut (gcell b14 []) (gcell_shut (b := b14) (l := []) (v := .slice none 0 0)) ?_
        rw [show gcell b14 [] = gcell b14 (((q'.used n).take 0).map (·.2)) by rfl]
        refine SXC.rangeFunc (pre := [gcell b14 (((q'.used n).take 0).map (·.2)), pts b1 (.cells [.pointer (some ⟨bp, 0, none⟩)].toArray 24 (0, 0)), pts b2 (.cells [.int .i64 n].toArray 3 (0, 0)), poolB bp q' bs']) rfl
          (fun l r hl => used_iter hl bp b1 b2 q' bs' n (fun k => [gcell b14 (((q'.used n).take k).map (·.2))]) (fun _ _ => False) ?_) ?_ ?_
        · intro j x hx
          have hjl : j < (q'.used n).length := (List.getElem?_eq_some_iff.1 hx).1
          have hst : ((q'.used n).take (j + 1)).map (·.2) = ((q'.used n).take j).map (·.2) ++ [x.2] := by rw [List.take_add_one, hx]; simp
          have hlt : (((q'.used n).take j).map (·.2)).length ≤ 4096 := by rw [List.length_map, List.length_take]; omega
          rw [hst]
          generalize ((q'.used n).take j).map (·.2) = g at hlt ⊢
          refine ytri_of hl rfl (by kernel_rfl) (by kernel_rfl) (by kernel_rfl) fun R => ?_
          repeat (first | refine go rfl ?_ | intro _)
          refine fin_asg hl.state ?_
          refine SXC.open (gcell b14 g) (gcell_open _ _) ?_
          rintro v ⟨a0, c0, rfl⟩
          repeat (first | refine go rfl ?_ | intro bx)
          refine SXR.append (n := g.length) (m := 1) (sz := 1) (e := 3) (ys := [intC x.2]) rfl (pk (vec (.slice a0 g.length c0) g.length 1 3 (g.map intC))) rfl (fun w hw => RdS.of_pts (b := bx) (off := 0) (vs := [intC x.2]) (T := 3) (fr := (0, 0)) (Nat.le_refl 1) rfl hw) rfl (by simp [Value.oneCell']) (by omega) (by omega) fun v' => ?_
          refine SXR.facts vec_is ?_
          rintro ⟨a', c', rfl⟩
          repeat (refine go rfl ?_)
          refine Fin.shut _ (gcell_push (b := b14) (l := g) (x := x.2) (v := .slice a' (g.length + 1) c')) ?_
          exact fin_rnd (.inl ⟨rfl, rfl⟩)
        · rintro D L'' (⟨_, rfl⟩ | ⟨c, L, h, _⟩)
          · dsimp only [List.cons_append, List.nil_append]
            rw [List.take_length]
            refine Fin.open (gcell b14 ((q'.used n).map (·.2))) (gcell_open _ _) ?_
            rintro v ⟨a0, c0, rfl⟩
            repeat (refine go rfl ?_)
            refine SXC.draw [pts b14 (.cells [.slice a0 ((q'.used n).map (·.2)).length c0].toArray 30 (0, 0))] (by kernel_rfl) ?_
            refine SXE.quiet 0 rfl rfl rfl (fun X => by (repeat (refine go rfl ?_)); exact fin_qs rfl) ?_
            refine SXE.quiet 1 rfl rfl rfl (fun X => by (repeat (refine go rfl ?_)); exact fin_qs rfl) ?_
            refine SXE.quiet 2 rfl rfl rfl (fun X => by (repeat (refine go rfl ?_)); exact fin_qs rfl) ?_
            refine SXE.quiet 3 rfl rfl rfl (fun X => by (repeat (refine go rfl ?_)); exact fin_qs rfl) ?_
            refine SXE.quiet 4 rfl rfl rfl (fun X => by (repeat (refine go rfl ?_)); exact fin_qs rfl) ?_
            refine SXE.done rfl ?_
            repeat (refine go rfl ?_)
            refine fin_mark ?_
            exact fin_ret (.tmp rfl (.tmp rfl (.tmp rfl .nil))) ⟨_, bs', rfl, rfl⟩
          · cases h
        · rintro D L'' c (⟨h, _⟩ | ⟨c', L, h, hf, rfl⟩)
          · cases h
          · exact hf.elim
      · obtain ⟨hm1, hm2⟩ := Pl.make_bad hm
        have hs : p.copy id lo hi = (0, [], (p.make (hi - lo)).2.1, p) := by
          simp only [Pl.copy, h]; rw [if_neg (by simp [hw]), if_pos hm]
        rw [hs, hm1, hm2]
        repeat (refine go rfl ?_)
        refine SXB.split (fun _ => ?_) (fun hc => by exact absurd hc hm)
        repeat (refine go rfl ?_)
        refine Fin.ent (big_add (A := vec (.slice none 0 0) ([] : List Int).length 1 3 (([] : List Int).map intC)) vec_nil) ?_
        exact fin_ret (.tmp rfl (.tmp rfl (.tmp rfl .nil))) ⟨_, bs', rfl, rfl⟩
end Go.Proofs.Ytlgphhknfocfaaa
