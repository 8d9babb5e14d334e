import Derived.Test.YtlgphhknfocfaaaCovers0
import Derived.Test.YtlgphhknfocfaaaSlTop
namespace Go.Proofs.Ytlgphhknfocfaaa
open Go.Sl

structure Ac where
  kind : Int
  id : Int
  lo : Int
  hi : Int
def Ac.cells (a : Ac) : List Value := [.int .i64 a.kind, .int .i64 a.id, .int .i64 a.lo, .int .i64 a.hi]
def acC (l : List Ac) : List Value := l.flatMap Ac.cells
theorem acC_length (l : List Ac) : (acC l).length = l.length * 4 := by
  induction l with
  | nil => rfl
  | cons r l ih => simp only [acC, List.flatMap_cons, List.length_append, List.length_cons] at ih ⊢; rw [ih]; simp [Ac.cells]; omega
theorem acC_take (l : List Ac) (i : Nat) (r : Ac) (h : l[i]? = some r) : ((acC l).drop (i * 4)).take 4 = Ac.cells r := by
  induction l generalizing i with
  | nil => simp at h
  | cons x l ih =>
    cases i with
    | zero => simp at h; subst h; simp [acC, Ac.cells]
    | succ i =>
      have := ih i (by simpa using h)
      rw [show (i + 1) * 4 = i * 4 + 1 + 1 + 1 + 1 by omega]
      simpa [acC, Ac.cells] using this
/-- What is given as acts: the slice's value, and where its cells lie. -/
def ActsAt (W : World) (v : Value) (l : List Ac) : Prop := (∃ a c, v = .slice a l.length c) ∧ (0 < l.length → RdS W v l.length (acC l))
theorem make_first (n : Int) (h0 : 1 ≤ n) (h1 : n ≤ 4096) (most : Int) (hm : 1 ≤ most) : Pl.make ⟨most, []⟩ n = (1, 0, ⟨most, [some (fresh n)]⟩) := by
  unfold Pl.make
  rw [if_neg (by omega), if_neg (by simp [Pl.kn, knL]; omega)]
  rfl
theorem ones_set {m i : Nat} (h : i < m) : ((List.replicate i (1 : Int) ++ List.replicate (m - i) 0).map intC ++ ([] : List Value)).set i (Value.int .i64 1) = (List.replicate (i + 1) (1 : Int) ++ List.replicate (m - (i + 1)) 0).map intC ++ ([] : List Value) := by
  rw [ints_set [] (by simp; omega)]
  congr 2
  rw [List.set_append_right _ _ (by simp), List.length_replicate, Nat.sub_self, show m - i = (m - (i + 1)) + 1 by omega, List.replicate_succ, List.set_cons_zero, List.replicate_succ', List.append_assoc]
  rfl
structure Cst where
  i : Nat
  C : List Int
  I : List Int
  next : Int
  bs : List (Option Nat)
def cgone (C I : List Int) : Pl := if C.sum = 0 then ⟨1, [none]⟩ else cpool C I
def umod (x m : Int) : Int := (IntKind.u64.wrap x).tmod (IntKind.u64.wrap m)
theorem umod_in (x : Int) {m : Int} (h0 : 1 ≤ m) (h1 : m ≤ 4096) : 0 ≤ umod x m ∧ umod x m < m ∧ IntKind.u64.wrap m ≠ 0 ∧ IntKind.i64.wrap (umod x m) = umod x m := by
  have hx : 0 ≤ IntKind.u64.wrap x := by rw [IntKind.wrap_u64]; omega
  have hm : IntKind.u64.wrap m = m := IntWalk.u64_in _ ⟨by omega, by omega⟩
  have e : umod x m = IntKind.u64.wrap x % m := by unfold umod; rw [hm, Int.tmod_eq_emod_of_nonneg hx]
  have h2 := Int.emod_nonneg (IntKind.u64.wrap x) (show m ≠ 0 by omega)
  have h3 := Int.emod_lt_of_pos (IntKind.u64.wrap x) (show 0 < m by omega)
  rw [e, hm]
  exact ⟨h2, h3, by omega, IntWalk.i64_in _ ⟨by omega, by omega⟩⟩
def Cok (n : Int) (x : Cst) (m : Int) : Prop := (x.C.length : Int) = n ∧ (x.I.length : Int) = n ∧ 1 ≤ x.next ∧ x.next ≤ m ∧ (∀ y ∈ x.C, 0 ≤ y ∧ y ≤ m) ∧ (∀ y ∈ x.I, 0 ≤ y)
set_option maxRecDepth 4000 in
set_option maxHeartbeats 4000000 in
theorem covers_spec (W : World) (s : Int) (hs : 0 ≤ s ∧ s < 18446744073709551616) (v : Value) (acts : List Ac) (hv : ActsAt W v acts) :
    Tri Try.prog 3 [.int .u64 s, v] [old W] (fun u l => u = .bool true ∧ l = [old W]) := by
  refine tri_intro Try.func3 rfl Try.results3 Try.ntmps3 rfl (by kernel_rfl) fun R => ?_
  repeat (refine go rfl ?_)
  refine SXR.rem rfl (by decide) ?_
  repeat (refine go rfl ?_)
  obtain ⟨n, hn, hn1⟩ : ∃ n : Int, IntKind.i64.wrap (1 + IntKind.i64.wrap (s.tmod 12)) = n ∧ 1 ≤ n ∧ n ≤ 12 := by
    have h1 : s.tmod 12 = s % 12 := Int.tmod_eq_emod_of_nonneg hs.1
    refine ⟨_, rfl, ?_⟩
    rw [h1, show IntKind.i64.wrap (s % 12) = s % 12 from IntWalk.i64_in _ ⟨by omega, by omega⟩, show IntKind.i64.wrap (1 + s % 12) = 1 + s % 12 from IntWalk.i64_in _ ⟨by omega, by omega⟩]
    omega
  rw [hn]
  refine SXR.call (pnew_spec 1) rfl ?_
  rintro v0 L' (⟨_, _, bp, rfl, rfl⟩ | ⟨h, _⟩)
  rotate_left
  · exact absurd (by decide) h
  dsimp only [List.cons_append, List.nil_append]
  repeat (refine go rfl ?_)
  refine SXR.call (make_spec bp ⟨1, []⟩ [] n) rfl ?_
  rintro v0 L' ⟨bs0, rfl, rfl, _⟩
  rw [make_first n (by omega) (by omega) 1 (by decide)]
  dsimp only [List.cons_append, List.nil_append]
  repeat (refine go rfl ?_)
  refine SXG.split rfl (fun h => by exact absurd rfl h) (fun _ => ?_)
  repeat (refine go rfl ?_)
  refine SXR.lenSl (n := acts.length) rfl hv.1 ?_
  repeat (refine go rfl ?_)
  refine SXB.split (fun hc => ?_) (fun hc => ?_)
  · repeat (first | refine go rfl ?_ | refine SXG.split rfl (fun _ => ?_) (fun h => by exact absurd rfl h))
    refine SXR.callF lives_spec rfl ?_
    repeat (refine go rfl ?_)
    exact fin_ret (.tmp rfl .nil) ⟨rfl, rfl⟩
  repeat (refine go rfl ?_)
  refine SXC.cut R (fun _ : Nat × Nat => True) (fun x => [(1, v), (5, .int .i64 n), (6, .pointer (some ⟨bp, 0, none⟩)), (7, .int .i64 1), (9, .slice (some ⟨x.1, 0, none⟩) n.toNat n.toNat), (10, .slice (some ⟨x.2, 0, none⟩) n.toNat n.toNat)])
    (fun x => [old W, poolB bp ⟨1, [some (fresh n)]⟩ bs0, pts x.1 (.cells (zerosL [.int .i64 0] n.toNat).toArray 3 (0, 0)), pts x.2 (.cells (zerosL [.int .i64 0] n.toNat).toArray 3 (0, 0))]) ?_ ?_
  · refine SXC.draw [] (by kernel_rfl) ?_
    refine SXE.quiet 0 rfl rfl rfl (fun X => by (repeat (refine go rfl ?_)); exact fin_qs rfl) ?_
    refine SXE.quiet 2 rfl rfl rfl (fun X => by (repeat (refine go rfl ?_)); exact fin_qs rfl) ?_
    refine SXE.two 1 3 rfl rfl rfl rfl rfl ?_ ?_
    all_goals
      first
      | repeat (refine go rfl ?_)
        refine SXR.make (n := n) (cap := n) rfl rfl (by decide) (by omega) (Int.le_refl _) (by omega) (by omega) fun bcov => ?_
        repeat (refine go rfl ?_)
        refine fin_qeP rfl ?_
        refine SXE.quiet 4 rfl rfl rfl (fun X => by (repeat (refine go rfl ?_)); exact fin_qs rfl) ?_
        refine SXE.one 3 rfl rfl rfl ?_
        repeat (refine go rfl ?_)
        refine SXR.make (n := n) (cap := n) rfl rfl (by decide) (by omega) (Int.le_refl _) (by omega) (by omega) fun bin => ?_
        repeat (refine go rfl ?_)
        refine fin_qeP rfl ?_
      | repeat (refine go rfl ?_)
        refine SXR.make (n := n) (cap := n) rfl rfl (by decide) (by omega) (Int.le_refl _) (by omega) (by omega) fun bin => ?_
        repeat (refine go rfl ?_)
        refine fin_qeP rfl ?_
        refine SXE.one 1 rfl rfl rfl ?_
        repeat (refine go rfl ?_)
        refine SXR.make (n := n) (cap := n) rfl rfl (by decide) (by omega) (Int.le_refl _) (by omega) (by omega) fun bcov => ?_
        repeat (refine go rfl ?_)
        refine fin_qeP rfl ?_
        refine SXE.quiet 4 rfl rfl rfl (fun X => by (repeat (refine go rfl ?_)); exact fin_qs rfl) ?_
      refine SXE.quiet 5 rfl rfl rfl (fun X => by (repeat (refine go rfl ?_)); exact fin_qs rfl) ?_
      refine SXE.done rfl ?_
      exact fin_cut (bcov, bin) trivial ⟨rfl, rfl, rfl, rfl, rfl, rfl, trivial⟩
  rintro ⟨bcov, bin⟩ -
  dsimp only
  have hz : (zerosL [.int .i64 0] n.toNat) = ((List.replicate 0 (1 : Int) ++ List.replicate (n.toNat - 0) 0).map intC ++ []) := by rw [zerosL_one]; simp
  have hz2 : (zerosL [.int .i64 0] n.toNat) = ((fresh n).a.map intC ++ []) := by rw [zerosL_one]; simp [fresh]
  rw [show pts bcov (.cells (zerosL [.int .i64 0] n.toNat).toArray 3 (0, 0)) = pts bcov (.cells ((List.replicate 0 (1 : Int) ++ List.replicate (n.toNat - 0) 0).map intC ++ []).toArray 3 (0, 0)) by rw [hz]]
  rw [show pts bin (.cells (zerosL [.int .i64 0] n.toNat).toArray 3 (0, 0)) = pts bin (.cells ((fresh n).a.map intC ++ []).toArray 3 (0, 0)) by rw [hz2]]
  repeat (refine go rfl ?_)
  refine SXC.loop (fun i : Nat => i ≤ n.toNat) (fun i => [(1, v), (5, .int .i64 n), (6, .pointer (some ⟨bp, 0, none⟩)), (7, .int .i64 1), (9, .slice (some ⟨bcov, 0, none⟩) n.toNat n.toNat), (10, .slice (some ⟨bin, 0, none⟩) n.toNat n.toNat), (60, .int .i64 n.toNat), (61, .int .i64 i)])
    (fun i => [pts bcov (.cells ((List.replicate i (1 : Int) ++ List.replicate (n.toNat - i) 0).map intC ++ []).toArray 3 (0, 0))]) (fun i => n.toNat - i) 0 (Nat.zero_le _) ⟨rfl, rfl, rfl, rfl, rfl, rfl, rfl, rfl, trivial⟩ ?_
  intro i hi'
  repeat (refine go rfl ?_)
  refine SXB.split (fun hlt => ?_) (fun hge => ?_)
  · repeat (refine go rfl ?_)
    refine SXR.index i rfl (by omega) (by omega) (by omega) ?_
    repeat (refine go rfl ?_)
    refine SXS.row rfl (by simp; omega) ?_
    rw [ones_set (by omega)]
    repeat (refine go rfl ?_)
    exact fin_round (i + 1) (by omega) (by omega) ⟨rfl, rfl, rfl, rfl, rfl, rfl, rfl, by rw [wrap_succ (by omega)], trivial⟩
  obtain rfl : i = n.toNat := by omega
  rw [Nat.sub_self, show (List.replicate n.toNat (1 : Int) ++ List.replicate 0 0) = (fresh n).c by simp [fresh]]
  repeat (refine go rfl ?_)
  refine SXR.lenSl (n := acts.length) rfl hv.1 ?_
  repeat (refine go rfl ?_)
  rw [show (⟨1, [some (fresh n)]⟩ : Pl) = cpool (fresh n).c (fresh n).a from rfl]
  refine SXC.loop (fun x : Cst => x.i ≤ acts.length ∧ Cok n x (x.i + 1) ∧ 0 < x.C.sum) (fun x => [(1, v), (5, .int .i64 n), (6, .pointer (some ⟨bp, 0, none⟩)), (7, .int .i64 1), (9, .slice (some ⟨bcov, 0, none⟩) n.toNat n.toNat), (10, .slice (some ⟨bin, 0, none⟩) n.toNat n.toNat), (12, .int .i64 x.next), (68, v), (69, .int .i64 acts.length), (70, .int .i64 x.i)])
    (fun x => [old W, poolB bp (cpool x.C x.I) x.bs, pts bcov (.cells (x.C.map intC ++ []).toArray 3 (0, 0)), pts bin (.cells (x.I.map intC ++ []).toArray 3 (0, 0))]) (fun x => acts.length - x.i) ⟨0, (fresh n).c, (fresh n).a, 1, bs0⟩
    ⟨Nat.zero_le _, ⟨by simp [fresh]; omega, by simp [fresh]; omega, by simp, by simp, fun y hy => by rw [List.eq_of_mem_replicate hy]; simp, fun y hy => by rw [List.eq_of_mem_replicate hy]; simp⟩, fresh_sum n hn1.1⟩ ⟨rfl, rfl, rfl, rfl, rfl, rfl, rfl, rfl, rfl, rfl, trivial⟩ ?_
  rintro ⟨i, C, I, next, bs⟩ ⟨hi', ⟨hCl, hIl, hn0, hn2, hCb, hIb⟩, hsum⟩
  dsimp only at hi' hCl hIl hn0 hn2 hCb hIb hsum ⊢
  repeat (refine go rfl ?_)
  refine SXB.split (fun hlt => ?_) (fun hge => ?_)
  rotate_left
  · repeat (refine go rfl ?_)
    refine SXR.call (ids_spec bp (cpool C I) bs) rfl ?_
    rintro u L' rfl
    rw [show (cpool C I).ids = [1] from rfl]
    dsimp only [List.cons_append, List.nil_append]
    rw [show vec u ([1] : List Int).length 1 3 (([1] : List Int).map intC) = vec u 1 1 3 [intC 1] from rfl]
    repeat (refine go rfl ?_)
    refine SXR.lenRd (n := 1) (cs := [intC 1]) rfl (fun w hw => RdS.of_vec (sz := 1) (T := 3) hw) ?_
    repeat (first | refine go rfl ?_ | refine SXG.split rfl (fun _ => ?_) (fun h => by exact absurd rfl h))
    refine SXR.callF lives_spec rfl ?_
    repeat (refine go rfl ?_)
    exact fin_ret (.tmp rfl .nil) ⟨rfl, rfl⟩
  have hil : i < acts.length := by omega
  obtain ⟨a, ha⟩ : ∃ a, acts[i]? = some a := ⟨acts[i], List.getElem?_eq_getElem hil⟩
  repeat (refine go rfl ?_)
  rcases hv.2 (by omega) with ⟨_, h0, _⟩ | ⟨ba, off, cap, vs, T, fr, rfl, hb, hle, hcs⟩
  · omega
  rw [acC_length] at hle hcs
  refine SXR.index (off + i * 4) rfl (by omega) (by omega) (by omega) ?_
  repeat (refine go rfl ?_)
  have hcell : (vs.drop (off + i * 4)).take 4 = Ac.cells a := by
    rw [← acC_take acts i a ha, ← hcs, List.drop_take, List.drop_drop, List.take_take, Nat.min_eq_left (by omega)]
  refine SXL.agg (vs := vs) (T := T) (fr := fr) (n := 4) (fun w hw => old_heap (W := W) hw hb) (by omega) ?_
  rw [hcell]
  repeat (first | refine go rfl ?_ | intro b14)
  obtain ⟨hu1, hu2, hu3, hu4⟩ := umod_in a.lo hn1.1 (by omega)
  refine SXR.rem rfl hu3 ?_
  repeat (refine go rfl ?_)
  obtain ⟨lo, hlo⟩ : ∃ lo, umod a.lo n = lo := ⟨_, rfl⟩
  rw [hlo] at hu1 hu2 hu4
  obtain ⟨hw1, hw2, hw3, hw4⟩ := umod_in a.hi (m := n - lo) (by omega) (by omega)
  rw [show IntKind.i64.wrap ((IntKind.u64.wrap a.lo).tmod (IntKind.u64.wrap n)) = lo by rw [← hu4, ← hlo]; rfl]
  rw [show IntKind.i64.wrap (lo + 1) = lo + 1 from IntWalk.i64_in _ ⟨by omega, by omega⟩, show IntKind.i64.wrap (n - lo) = n - lo from IntWalk.i64_in _ ⟨by omega, by omega⟩]
  refine SXR.rem rfl hw3 ?_
  refine go rfl ?_
  refine go rfl ?_
  refine go rfl ?_
  refine go rfl ?_
  refine go rfl ?_
  obtain ⟨hi, hhi⟩ : ∃ hi, lo + 1 + umod a.hi (n - lo) = hi := ⟨_, rfl⟩
  have hhi1 : lo < hi := by omega
  have hhi2 : hi ≤ n := by omega
  rw [show IntKind.i64.wrap (lo + 1 + IntKind.i64.wrap ((IntKind.u64.wrap a.hi).tmod (IntKind.u64.wrap (n - lo)))) = hi by
    rw [show IntKind.i64.wrap ((IntKind.u64.wrap a.hi).tmod (IntKind.u64.wrap (n - lo))) = umod a.hi (n - lo) from hw4, hhi]
    exact IntWalk.i64_in _ ⟨by omega, by omega⟩]
  have hcg : cpool C I = cgone C I := by unfold cgone; rw [if_neg (by omega)]
  have hCb2 : ∀ y ∈ C, 0 ≤ y ∧ y ≤ 1000 := fun y hy => by have := hCb y hy; omega
  have hCb3 : ∀ y ∈ C, 0 ≤ y := fun y hy => (hCb y hy).1
  refine go rfl ?_
  refine SXC.cut R (fun y : Cst => Cok n y (i + 2)) (fun y => [(1, .slice (some ⟨ba, off, none⟩) acts.length cap), (5, .int .i64 n), (6, .pointer (some ⟨bp, 0, none⟩)), (7, .int .i64 1), (9, .slice (some ⟨bcov, 0, none⟩) n.toNat n.toNat), (10, .slice (some ⟨bin, 0, none⟩) n.toNat n.toNat), (12, .int .i64 y.next), (68, .slice (some ⟨ba, off, none⟩) acts.length cap), (69, .int .i64 acts.length), (70, .int .i64 i)])
    (fun y => [old W, poolB bp (cgone y.C y.I) y.bs, pts bcov (.cells (y.C.map intC ++ []).toArray 3 (0, 0)), pts bin (.cells (y.I.map intC ++ []).toArray 3 (0, 0))]) ?_ ?_
  · repeat (refine go rfl ?_)
    refine SXB.split (fun hk1 => ?_) (fun hk1 => ?_)
    · repeat (refine go rfl ?_)
      refine SXR.callF (set_spec bp (cpool C I) bs 1 lo next) rfl ?_
      rw [cpool_set hu1 (by omega) hCb3 (by omega)]
      have hgl := hCb3 _ (gf_in hu1 (show lo < C.length by omega))
      by_cases hz0 : gf C lo = 0
      · rw [if_pos hz0]
        dsimp only
        repeat (refine go rfl ?_)
        refine SXR.index lo.toNat rfl (by omega) (by omega) (by omega) ?_
        repeat (refine go rfl ?_)
        refine SXL.row (ints_get [] (i := lo.toNat) (by omega)) ?_
        rw [show ((lo.toNat : Nat) : Int) = lo by omega, hz0]
        repeat (refine go rfl ?_)
        rw [show (!(((2 : Int) == 0) == decide ((0 : Int) > 0))) = false from rfl]
        repeat (first | refine go rfl ?_ | refine SXG.split rfl (fun _ => ?_) (fun h => by exact absurd rfl h) | refine SXG.split rfl (fun h => by exact absurd h (by decide)) (fun _ => ?_) | refine SXB.split (fun _ => ?_) (fun h => by exact absurd rfl h) | refine SXB.split (fun h => by exact absurd h (by decide)) (fun _ => ?_))
        rw [hcg]
        exact fin_cut ⟨i, C, I, next, bs⟩ ⟨hCl, hIl, hn0, by dsimp only; omega, fun y hy => by have := hCb y hy; omega, hIb⟩ ⟨rfl, rfl, rfl, rfl, rfl, rfl, rfl, rfl, rfl, rfl, trivial⟩
      · rw [if_neg hz0]
        dsimp only
        repeat (refine go rfl ?_)
        refine SXR.index lo.toNat rfl (by omega) (by omega) (by omega) ?_
        repeat (refine go rfl ?_)
        refine SXL.row (ints_get [] (i := lo.toNat) (by omega)) ?_
        rw [show ((lo.toNat : Nat) : Int) = lo by omega]
        repeat (refine go rfl ?_)
        rw [show (!(((0 : Int) == 0) == decide (gf C lo > 0))) = false by rw [decide_eq_true (by omega)]; rfl]
        repeat (first | refine go rfl ?_ | refine SXG.split rfl (fun _ => ?_) (fun h => by exact absurd rfl h) | refine SXG.split rfl (fun h => by exact absurd h (by decide)) (fun _ => ?_) | refine SXB.split (fun _ => ?_) (fun h => by exact absurd rfl h) | refine SXB.split (fun h => by exact absurd h (by decide)) (fun _ => ?_))
        refine SXR.index lo.toNat rfl (by omega) (by omega) (by omega) ?_
        repeat (refine go rfl ?_)
        refine SXL.row (ints_get [] (i := lo.toNat) (by omega)) ?_
        rw [show ((lo.toNat : Nat) : Int) = lo by omega]
        repeat (refine go rfl ?_)
        rw [show (!(gf I lo == gf I lo)) = false by simp]
        repeat (first | refine go rfl ?_ | refine SXG.split rfl (fun _ => ?_) (fun h => by exact absurd rfl h) | refine SXG.split rfl (fun h => by exact absurd h (by decide)) (fun _ => ?_) | refine SXB.split (fun _ => ?_) (fun h => by exact absurd rfl h) | refine SXB.split (fun h => by exact absurd h (by decide)) (fun _ => ?_))
        refine SXR.index lo.toNat rfl (by omega) (by omega) (by omega) ?_
        repeat (refine go rfl ?_)
        refine SXS.row rfl (by rw [List.length_append, List.length_map]; omega) ?_
        rw [ints_set [] (by omega)]
        repeat (refine go rfl ?_)
        rw [show IntKind.i64.wrap (next + 1) = next + 1 from IntWalk.i64_in _ ⟨by omega, by omega⟩]
        rw [show cpool C (I.set lo.toNat next) = cgone C (I.set lo.toNat next) by unfold cgone; rw [if_neg (by omega)]]
        refine fin_cut ⟨i, C, I.set lo.toNat next, next + 1, bs⟩ ⟨hCl, by simp [hIl], by dsimp only; omega, by dsimp only; omega, fun y hy => by have := hCb y hy; omega, fun y hy => ?_⟩ ⟨rfl, rfl, rfl, rfl, rfl, rfl, rfl, rfl, rfl, rfl, trivial⟩
        rcases List.mem_or_eq_of_mem_set hy with hy | hy
        · exact hIb y hy
        · omega
    · obtain ⟨l0, hl0⟩ : ∃ l0 : Nat, lo = l0 := ⟨lo.toNat, by omega⟩
      subst hl0
      repeat (refine go rfl ?_)
      refine SXB.split (fun hk2 => ?_) (fun hk2 => ?_)
      · repeat (refine go rfl ?_)
        refine SXC.loop (fun k : Nat => l0 ≤ k ∧ (k : Int) ≤ hi) (fun k => [(1, .slice (some ⟨ba, off, none⟩) acts.length cap), (5, .int .i64 n), (6, .pointer (some ⟨bp, 0, none⟩)), (7, .int .i64 1), (9, .slice (some ⟨bcov, 0, none⟩) n.toNat n.toNat), (10, .slice (some ⟨bin, 0, none⟩) n.toNat n.toNat), (12, .int .i64 next), (15, .int .i64 l0), (16, .int .i64 hi), (68, .slice (some ⟨ba, off, none⟩) acts.length cap), (69, .int .i64 acts.length), (70, .int .i64 i), (19, .bool (decide (¬ zeroIn C l0 k))), (20, .int .i64 k)])
          (fun k => [pts bcov (.cells (C.map intC ++ []).toArray 3 (0, 0))]) (fun k => (hi - k).toNat) l0 ⟨Nat.le_refl _, by omega⟩ ⟨rfl, rfl, rfl, rfl, rfl, rfl, rfl, rfl, rfl, rfl, rfl, rfl, by rw [decide_eq_true (zeroIn_self C l0)], rfl, trivial⟩ ?_
        rintro k ⟨hk0, hk1⟩
        repeat (refine go rfl ?_)
        refine SXB.split (fun hlt2 => ?_) (fun hge2 => ?_)
        · have hzs := zeroIn_step (c := C) (lo := l0) (k := k) (by omega)
          repeat (refine go rfl ?_)
          refine SXG.split rfl (fun hz1 => ?_) (fun hz1 => ?_)
          · repeat (refine go rfl ?_)
            refine SXR.index k rfl (by omega) (by omega) (by omega) ?_
            repeat (refine go rfl ?_)
            refine SXL.row (ints_get [] (i := k) (by omega)) ?_
            repeat (refine go rfl ?_)
            have hgk := hCb3 _ (gf_in (i := k) (C := C) (by omega) (by omega))
            have he : decide (gf C k > 0) = decide (¬ zeroIn C l0 ((k + 1 : Nat) : Int)) := by
              apply decide_eq_decide.2
              rw [Int.natCast_succ, hzs]
              constructor
              · rintro h (h2 | h2)
                · exact hz1 h2
                · omega
              · intro h
                have : gf C k ≠ 0 := fun e => h (.inr e)
                omega
            exact fin_round (k + 1) ⟨by omega, by omega⟩ (by omega) ⟨rfl, rfl, rfl, rfl, rfl, rfl, rfl, rfl, rfl, rfl, rfl, rfl, by rw [← he], by rw [wrap_succ (by omega)], trivial⟩
          · repeat (refine go rfl ?_)
            have he : decide (¬ zeroIn C l0 ((k + 1 : Nat) : Int)) = false := by
              apply decide_eq_false
              rw [Int.natCast_succ, hzs]
              exact fun h => h (.inl (Classical.byContradiction hz1))
            exact fin_round (k + 1) ⟨by omega, by omega⟩ (by omega) ⟨rfl, rfl, rfl, rfl, rfl, rfl, rfl, rfl, rfl, rfl, rfl, rfl, by rw [he], by rw [wrap_succ (by omega)], trivial⟩
        · obtain rfl : hi = k := by omega
          repeat (refine go rfl ?_)
          refine SXR.callF (hold_spec bp (cpool C I) bs 1 l0 k) rfl ?_
          rw [cpool_hold hu1 hhi1 (by omega) (by omega) hCb2]
          by_cases hz : zeroIn C l0 k
          · rw [if_pos hz, show decide (¬ zeroIn C l0 k) = false from decide_eq_false (fun h => h hz)]
            dsimp only
            repeat (refine go rfl ?_)
            rw [show (!(((2 : Int) == 0) == false)) = false from rfl]
            repeat (refine go rfl ?_)
            refine SXC.once ?_
            repeat (refine go rfl ?_)
            rw [hcg]
            exact fin_cut ⟨i, C, I, next, bs⟩ ⟨hCl, hIl, hn0, by dsimp only; omega, fun y hy => by have := hCb y hy; omega, hIb⟩ ⟨rfl, rfl, rfl, rfl, rfl, rfl, rfl, rfl, rfl, rfl, trivial⟩
          · rw [if_neg hz, show decide (¬ zeroIn C l0 k) = true from decide_eq_true hz]
            dsimp only
            repeat (refine go rfl ?_)
            rw [show (!(((0 : Int) == 0) == true)) = false from rfl]
            repeat (refine go rfl ?_)
            rw [show pts bcov (.cells (C.map intC ++ ([] : List Value)).toArray 3 (0, 0)) = pts bcov (.cells ((addC C l0 l0 1).map intC ++ ([] : List Value)).toArray 3 (0, 0)) by rw [addC_self]]
            generalize hkk : (k : Int) = hi
            rw [hkk] at hhi1 hhi2 hz
            refine SXC.loop (fun j : Nat => l0 ≤ j ∧ (j : Int) ≤ hi) (fun j => [(1, .slice (some ⟨ba, off, none⟩) acts.length cap), (5, .int .i64 n), (6, .pointer (some ⟨bp, 0, none⟩)), (7, .int .i64 1), (9, .slice (some ⟨bcov, 0, none⟩) n.toNat n.toNat), (10, .slice (some ⟨bin, 0, none⟩) n.toNat n.toNat), (12, .int .i64 next), (15, .int .i64 l0), (16, .int .i64 hi), (68, .slice (some ⟨ba, off, none⟩) acts.length cap), (69, .int .i64 acts.length), (70, .int .i64 i), (19, .bool true), (22, .int .i64 j)])
              (fun j => [pts bcov (.cells ((addC C l0 j 1).map intC ++ []).toArray 3 (0, 0))]) (fun j => (hi - j).toNat) l0 ⟨Nat.le_refl _, by omega⟩ ⟨rfl, rfl, rfl, rfl, rfl, rfl, rfl, rfl, rfl, rfl, rfl, rfl, rfl, rfl, trivial⟩ ?_
            rintro j ⟨hj0, hj1⟩
            repeat (refine go rfl ?_)
            refine SXB.split (fun hlt3 => ?_) (fun hge3 => ?_)
            · have hjC : j < C.length := by omega
              have hgj := hCb2 _ (gf_in (i := j) (C := C) (by omega) (by omega))
              repeat (refine go rfl ?_)
              refine SXR.index j rfl (by omega) (by omega) (by omega) ?_
              repeat (refine go rfl ?_)
              refine SXL.row (ints_get [] (i := j) (by rw [addC_len]; omega)) ?_
              rw [gf_addC_at hjC]
              repeat (refine go rfl ?_)
              rw [show IntKind.i64.wrap (gf C j + 1) = gf C j + 1 from IntWalk.i64_in _ ⟨by omega, by omega⟩]
              refine SXR.index j rfl (by omega) (by omega) (by omega) ?_
              repeat (refine go rfl ?_)
              refine SXS.row rfl (by rw [List.length_append, List.length_map, addC_len]; omega) ?_
              rw [ints_set [] (by rw [addC_len]; omega), addC_step (by omega) hjC, show addC C l0 ((j : Int) + 1) 1 = addC C l0 ((j + 1 : Nat) : Int) 1 from rfl]
              repeat (refine go rfl ?_)
              exact fin_round (j + 1) ⟨by omega, by omega⟩ (by omega) ⟨rfl, rfl, rfl, rfl, rfl, rfl, rfl, rfl, rfl, rfl, rfl, rfl, rfl, by rw [wrap_succ (by omega)], trivial⟩
            · obtain rfl : hi = j := by omega
              repeat (refine go rfl ?_)
              have hsum2 := addC_sum (C := C) (lo := l0) (hi := j)
              rw [show cpool (addC C l0 j 1) I = cgone (addC C l0 j 1) I by unfold cgone; rw [if_neg (by omega)]]
              exact fin_cut ⟨i, addC C l0 j 1, I, next, bs⟩ ⟨by rw [addC_len]; exact hCl, hIl, hn0, by dsimp only; omega, fun y hy => by have := addC_mem hCb (.inl rfl) hu1 (by omega) y hy; omega, hIb⟩ ⟨rfl, rfl, rfl, rfl, rfl, rfl, rfl, rfl, rfl, rfl, trivial⟩
      · repeat (refine go rfl ?_)
        refine SXB.split (fun hk3 => ?_) (fun hk3 => ?_)
        · repeat (refine go rfl ?_)
          refine SXC.loop (fun k : Nat => l0 ≤ k ∧ (k : Int) ≤ hi) (fun k => [(1, .slice (some ⟨ba, off, none⟩) acts.length cap), (5, .int .i64 n), (6, .pointer (some ⟨bp, 0, none⟩)), (7, .int .i64 1), (9, .slice (some ⟨bcov, 0, none⟩) n.toNat n.toNat), (10, .slice (some ⟨bin, 0, none⟩) n.toNat n.toNat), (12, .int .i64 next), (15, .int .i64 l0), (16, .int .i64 hi), (68, .slice (some ⟨ba, off, none⟩) acts.length cap), (69, .int .i64 acts.length), (70, .int .i64 i), (23, .bool (decide (¬ zeroIn C l0 k))), (24, .int .i64 k)])
            (fun k => [pts bcov (.cells (C.map intC ++ []).toArray 3 (0, 0))]) (fun k => (hi - k).toNat) l0 ⟨Nat.le_refl _, by omega⟩ ⟨rfl, rfl, rfl, rfl, rfl, rfl, rfl, rfl, rfl, rfl, rfl, rfl, by rw [decide_eq_true (zeroIn_self C l0)], rfl, trivial⟩ ?_
          rintro k ⟨hk0, hk1⟩
          repeat (refine go rfl ?_)
          refine SXB.split (fun hlt2 => ?_) (fun hge2 => ?_)
          · have hzs := zeroIn_step (c := C) (lo := l0) (k := k) (by omega)
            repeat (refine go rfl ?_)
            refine SXG.split rfl (fun hz1 => ?_) (fun hz1 => ?_)
            · repeat (refine go rfl ?_)
              refine SXR.index k rfl (by omega) (by omega) (by omega) ?_
              repeat (refine go rfl ?_)
              refine SXL.row (ints_get [] (i := k) (by omega)) ?_
              repeat (refine go rfl ?_)
              have hgk := hCb3 _ (gf_in (i := k) (C := C) (by omega) (by omega))
              have he : decide (gf C k > 0) = decide (¬ zeroIn C l0 ((k + 1 : Nat) : Int)) := by
                apply decide_eq_decide.2
                rw [Int.natCast_succ, hzs]
                constructor
                · rintro h (h2 | h2)
                  · exact hz1 h2
                  · omega
                · intro h
                  have : gf C k ≠ 0 := fun e => h (.inr e)
                  omega
              exact fin_round (k + 1) ⟨by omega, by omega⟩ (by omega) ⟨rfl, rfl, rfl, rfl, rfl, rfl, rfl, rfl, rfl, rfl, rfl, rfl, by rw [← he], by rw [wrap_succ (by omega)], trivial⟩
            · repeat (refine go rfl ?_)
              have he : decide (¬ zeroIn C l0 ((k + 1 : Nat) : Int)) = false := by
                apply decide_eq_false
                rw [Int.natCast_succ, hzs]
                exact fun h => h (.inl (Classical.byContradiction hz1))
              exact fin_round (k + 1) ⟨by omega, by omega⟩ (by omega) ⟨rfl, rfl, rfl, rfl, rfl, rfl, rfl, rfl, rfl, rfl, rfl, rfl, by rw [he], by rw [wrap_succ (by omega)], trivial⟩
          · obtain rfl : hi = k := by omega
            repeat (refine go rfl ?_)
            refine SXR.call (drop_spec bp (cpool C I) bs 1 l0 k) rfl ?_
            rintro u L' ⟨v', bs', rfl, rfl⟩
            rw [cpool_drop hu1 hhi1 (by omega) (by omega) hCb2]
            by_cases hz : zeroIn C l0 k
            · rw [if_pos hz, show decide (¬ zeroIn C l0 k) = false from decide_eq_false (fun h => h hz)]
              dsimp only [List.cons_append, List.nil_append]
              repeat (refine go rfl ?_)
              rw [show (!(((2 : Int) == 0) == false)) = false from rfl]
              repeat (refine go rfl ?_)
              refine SXC.once ?_
              repeat (refine go rfl ?_)
              refine SXR.ent (big_add (A := vec (.slice none 0 0) ([] : List Int).length 1 3 (([] : List Int).map intC)) vec_nil) ?_
              refine SXR.callF (ints_spec v' (.slice none 0 0) [] [] (by decide)) rfl ?_
              rw [show decide (([] : List Int) = []) = true from rfl]
              repeat (refine go rfl ?_)
              rw [hcg]
              exact fin_cut ⟨i, C, I, next, bs'⟩ ⟨hCl, hIl, hn0, by dsimp only; omega, fun y hy => by have := hCb y hy; omega, hIb⟩ ⟨rfl, rfl, rfl, rfl, rfl, rfl, rfl, rfl, rfl, rfl, trivial⟩
            · rw [if_neg hz, show decide (¬ zeroIn C l0 k) = true from decide_eq_true hz]
              dsimp only [List.cons_append, List.nil_append]
              repeat (refine go rfl ?_)
              rw [show (!(((0 : Int) == 0) == true)) = false from rfl]
              repeat (refine go rfl ?_)
              rw [show pts bcov (.cells (C.map intC ++ ([] : List Value)).toArray 3 (0, 0)) = pts bcov (.cells ((addC C l0 l0 (-1)).map intC ++ ([] : List Value)).toArray 3 (0, 0)) by rw [addC_self]]
              rw [show pts bin (.cells (I.map intC ++ ([] : List Value)).toArray 3 (0, 0)) = pts bin (.cells ((dropG I (goneC C l0 l0 (-1))).1.map intC ++ ([] : List Value)).toArray 3 (0, 0)) by rw [goneC_self]; rfl]
              refine SXC.ent (big_add (A := vec (.slice none 0 0) (dropG I (goneC C l0 l0 (-1))).2.length 1 3 ((dropG I (goneC C l0 l0 (-1))).2.map intC)) (by rw [goneC_self]; exact vec_nil)) ?_
              rw [show (if (addC C l0 k (-1)).sum = 0 then (⟨1, [none]⟩ : Pl) else cpool (addC C l0 k (-1)) (dropG I (goneC C l0 k (-1))).1) = cgone (addC C l0 k (-1)) (dropG I (goneC C l0 k (-1))).1 from rfl]
              generalize hkk : (k : Int) = hi
              rw [hkk] at hhi1 hhi2 hz
              refine SXC.loop (fun x : Nat × Value => l0 ≤ x.1 ∧ (x.1 : Int) ≤ hi) (fun x => [(1, .slice (some ⟨ba, off, none⟩) acts.length cap), (5, .int .i64 n), (6, .pointer (some ⟨bp, 0, none⟩)), (7, .int .i64 1), (9, .slice (some ⟨bcov, 0, none⟩) n.toNat n.toNat), (10, .slice (some ⟨bin, 0, none⟩) n.toNat n.toNat), (12, .int .i64 next), (15, .int .i64 l0), (16, .int .i64 hi), (68, .slice (some ⟨ba, off, none⟩) acts.length cap), (69, .int .i64 acts.length), (70, .int .i64 i), (23, .bool true), (25, v'), (27, x.2), (28, .int .i64 x.1)])
                (fun x => [pts bcov (.cells ((addC C l0 x.1 (-1)).map intC ++ []).toArray 3 (0, 0)), pts bin (.cells ((dropG I (goneC C l0 x.1 (-1))).1.map intC ++ []).toArray 3 (0, 0)), vec x.2 (dropG I (goneC C l0 x.1 (-1))).2.length 1 3 ((dropG I (goneC C l0 x.1 (-1))).2.map intC)]) (fun x => (hi - x.1).toNat) (l0, .slice none 0 0) ⟨Nat.le_refl _, by dsimp only; omega⟩ ⟨rfl, rfl, rfl, rfl, rfl, rfl, rfl, rfl, rfl, rfl, rfl, rfl, rfl, rfl, rfl, rfl, trivial⟩ ?_
              rintro ⟨j, o⟩ ⟨hj0, hj1⟩
              dsimp only at hj0 hj1 ⊢
              have hdf := dropG_full I (goneC C l0 j (-1))
              have hgl := goneC_len C l0 j (-1)
              repeat (refine go rfl ?_)
              refine SXB.split (fun hlt3 => ?_) (fun hge3 => ?_)
              · have hjC : j < C.length := by omega
                have hgj := hCb2 _ (gf_in (i := j) (C := C) (by omega) (by omega))
                repeat (refine go rfl ?_)
                refine SXR.index j rfl (by omega) (by omega) (by omega) ?_
                repeat (refine go rfl ?_)
                refine SXL.row (ints_get [] (i := j) (by rw [addC_len]; omega)) ?_
                rw [gf_addC_at hjC]
                repeat (refine go rfl ?_)
                rw [show IntKind.i64.wrap (gf C j - 1) = gf C j + -1 by rw [IntWalk.i64_in _ ⟨by omega, by omega⟩]; omega]
                refine SXR.index j rfl (by omega) (by omega) (by omega) ?_
                repeat (refine go rfl ?_)
                refine SXS.row rfl (by rw [List.length_append, List.length_map, addC_len]; omega) ?_
                rw [ints_set [] (by rw [addC_len]; omega), addC_step (by omega) hjC]
                repeat (refine go rfl ?_)
                refine SXR.index j rfl (by omega) (by omega) (by omega) ?_
                repeat (refine go rfl ?_)
                refine SXL.row (ints_get [] (i := j) (by rw [addC_len]; omega)) ?_
                rw [gf_addC_last (by omega) hjC]
                repeat (refine go rfl ?_)
                refine SXB.split (fun h0 => ?_) (fun h0 => ?_)
                · have hd1 := dropG_one (I := I) (lo := l0) (j := j) (C := C) (by omega) (by omega)
                  repeat (refine go rfl ?_)
                  refine SXR.index j rfl (by omega) (by omega) (by omega) ?_
                  repeat (refine go rfl ?_)
                  refine SXL.row (ints_get [] (i := j) (by omega)) ?_
                  repeat (refine go rfl ?_)
                  refine SXB.split (fun h1 => ?_) (fun h1 => ?_)
                  · repeat (refine go rfl ?_)
                    refine SXR.index j rfl (by omega) (by omega) (by omega) ?_
                    repeat (refine go rfl ?_)
                    refine SXL.row (ints_get [] (i := j) (by omega)) ?_
                    repeat (first | refine go rfl ?_ | intro bx)
                    refine SXR.append (n := (dropG I (goneC C l0 j (-1))).2.length) (m := 1) (sz := 1) (e := 3) (ys := [intC (gf (dropG I (goneC C l0 j (-1))).1 j)]) rfl (pk (vec o (dropG I (goneC C l0 j (-1))).2.length 1 3 ((dropG I (goneC C l0 j (-1))).2.map intC))) rfl (fun w hw => RdS.of_pts (b := bx) (off := 0) (vs := [intC (gf (dropG I (goneC C l0 j (-1))).1 j)]) (T := 3) (fr := (0, 0)) (Nat.le_refl 1) rfl hw) rfl (by simp [Value.oneCell']) (by omega) (by omega) fun o' => ?_
                    repeat (refine go rfl ?_)
                    refine SXR.index j rfl (by omega) (by omega) (by omega) ?_
                    repeat (refine go rfl ?_)
                    refine SXS.row rfl (by rw [List.length_append, List.length_map]; omega) ?_
                    rw [ints_set [] (by omega)]
                    rw [show (dropG I (goneC C l0 j (-1))).1.set j 0 = (dropG I (goneC C l0 ((j + 1 : Nat) : Int) (-1))).1 by rw [Int.natCast_succ, hd1]; rfl,
                      show (dropG I (goneC C l0 j (-1))).2.map intC ++ [intC (gf (dropG I (goneC C l0 j (-1))).1 j)] = (dropG I (goneC C l0 ((j + 1 : Nat) : Int) (-1))).2.map intC by rw [Int.natCast_succ, hd1]; simp [dropStep, h1],
                      show (dropG I (goneC C l0 j (-1))).2.length + 1 = (dropG I (goneC C l0 ((j + 1 : Nat) : Int) (-1))).2.length by rw [Int.natCast_succ, hd1]; simp [dropStep, h1],
                      show addC C l0 ((j : Int) + 1) (-1) = addC C l0 ((j + 1 : Nat) : Int) (-1) from rfl]
                    repeat (refine go rfl ?_)
                    exact fin_round (j + 1, o') ⟨by dsimp only; omega, by dsimp only; omega⟩ (by dsimp only; omega) ⟨rfl, rfl, rfl, rfl, rfl, rfl, rfl, rfl, rfl, rfl, rfl, rfl, rfl, rfl, rfl, by rw [wrap_succ (by omega)], trivial⟩
                  · repeat (refine go rfl ?_)
                    refine SXR.index j rfl (by omega) (by omega) (by omega) ?_
                    repeat (refine go rfl ?_)
                    refine SXS.row rfl (by rw [List.length_append, List.length_map]; omega) ?_
                    rw [ints_set [] (by omega)]
                    rw [show (dropG I (goneC C l0 j (-1))).1.set j 0 = (dropG I (goneC C l0 ((j + 1 : Nat) : Int) (-1))).1 by rw [Int.natCast_succ, hd1]; rfl,
                      show (dropG I (goneC C l0 j (-1))).2 = (dropG I (goneC C l0 ((j + 1 : Nat) : Int) (-1))).2 by rw [Int.natCast_succ, hd1]; simp [dropStep, h1],
                      show addC C l0 ((j : Int) + 1) (-1) = addC C l0 ((j + 1 : Nat) : Int) (-1) from rfl]
                    repeat (refine go rfl ?_)
                    exact fin_round (j + 1, o) ⟨by dsimp only; omega, by dsimp only; omega⟩ (by dsimp only; omega) ⟨rfl, rfl, rfl, rfl, rfl, rfl, rfl, rfl, rfl, rfl, rfl, rfl, rfl, rfl, rfl, by rw [wrap_succ (by omega)], trivial⟩
                · have hd1 := dropG_not (I := I) (lo := l0) (j := j) (C := C) (by omega) (by omega)
                  rw [show addC C l0 ((j : Int) + 1) (-1) = addC C l0 ((j + 1 : Nat) : Int) (-1) from rfl, ← hd1, show goneC C l0 ((j : Int) + 1) (-1) = goneC C l0 ((j + 1 : Nat) : Int) (-1) from rfl]
                  repeat (refine go rfl ?_)
                  exact fin_round (j + 1, o) ⟨by dsimp only; omega, by dsimp only; omega⟩ (by dsimp only; omega) ⟨rfl, rfl, rfl, rfl, rfl, rfl, rfl, rfl, rfl, rfl, rfl, rfl, rfl, rfl, rfl, by rw [wrap_succ (by omega)], trivial⟩
              · obtain rfl : hi = j := by omega
                repeat (refine go rfl ?_)
                refine SXR.callF (ints_spec v' o (dropG I (goneC C l0 j (-1))).2 (dropG I (goneC C l0 j (-1))).2 (by omega)) rfl ?_
                rw [decide_eq_true (rfl : (dropG I (goneC C l0 j (-1))).2 = (dropG I (goneC C l0 j (-1))).2)]
                repeat (refine go rfl ?_)
                exact fin_cut ⟨i, addC C l0 j (-1), (dropG I (goneC C l0 j (-1))).1, next, bs'⟩ ⟨by rw [addC_len]; exact hCl, by dsimp only; rw [hdf.1]; exact hIl, hn0, by dsimp only; omega, fun y hy => by have := addC_mem hCb (.inr ⟨rfl, hz⟩) hu1 (by omega) y hy; omega, hdf.2.2 hIb⟩ ⟨rfl, rfl, rfl, rfl, rfl, rfl, rfl, rfl, rfl, rfl, trivial⟩
        · repeat (refine go rfl ?_)
          rw [hcg]
          exact fin_cut ⟨i, C, I, next, bs⟩ ⟨hCl, hIl, hn0, by dsimp only; omega, fun y hy => by have := hCb y hy; omega, hIb⟩ ⟨rfl, rfl, rfl, rfl, rfl, rfl, rfl, rfl, rfl, rfl, trivial⟩
  · rintro ⟨i', C', I', next', bs'⟩ ⟨hCl', hIl', hn0', hn2', hCb', hIb'⟩
    dsimp only at hCl' hIl' hn0' hn2' hCb' hIb' ⊢
    have hCn' : ∀ y ∈ C', 0 ≤ y := fun y hy => (hCb' y hy).1
    repeat (refine go rfl ?_)
    refine SXC.loop (fun k : Nat => k ≤ n.toNat) (fun k => [(1, .slice (some ⟨ba, off, none⟩) acts.length cap), (5, .int .i64 n), (6, .pointer (some ⟨bp, 0, none⟩)), (7, .int .i64 1), (9, .slice (some ⟨bcov, 0, none⟩) n.toNat n.toNat), (10, .slice (some ⟨bin, 0, none⟩) n.toNat n.toNat), (12, .int .i64 next'), (68, .slice (some ⟨ba, off, none⟩) acts.length cap), (69, .int .i64 acts.length), (70, .int .i64 i), (29, .int .i64 (C'.take k).sum), (241, .int .i64 n.toNat), (242, .int .i64 k)])
      (fun k => [pts bcov (.cells (C'.map intC ++ []).toArray 3 (0, 0))]) (fun k => n.toNat - k) 0 (Nat.zero_le _) ⟨rfl, rfl, rfl, rfl, rfl, rfl, rfl, rfl, rfl, rfl, rfl, rfl, rfl, trivial⟩ ?_
    intro k hk
    repeat (refine go rfl ?_)
    refine SXB.split (fun hlt2 => ?_) (fun hge2 => ?_)
    · have hkC : k < C'.length := by omega
      have hst := sum_take hkC
      have hs1 := sum_le (m := 1000) (C := C'.take k) fun y hy => by have := hCb' y (List.mem_of_mem_take hy); omega
      have hs0 := sum_nn (C := C'.take k) fun y hy => hCn' y (List.mem_of_mem_take hy)
      have hs2 := hCb' _ (gf_in (i := k) (C := C') (by omega) (by omega))
      have hs3 : (C'.take k).length ≤ 12 := by rw [List.length_take]; omega
      repeat (refine go rfl ?_)
      refine SXR.index k rfl (by omega) (by omega) (by omega) ?_
      repeat (refine go rfl ?_)
      refine SXL.row (ints_get [] hkC) ?_
      repeat (refine go rfl ?_)
      rw [show IntKind.i64.wrap ((C'.take k).sum + gf C' k) = (C'.take (k + 1)).sum by rw [hst]; exact IntWalk.i64_in _ ⟨by omega, by omega⟩]
      exact fin_round (k + 1) (by omega) (by omega) ⟨rfl, rfl, rfl, rfl, rfl, rfl, rfl, rfl, rfl, rfl, rfl, rfl, by rw [wrap_succ (by omega)], trivial⟩
    obtain rfl : k = n.toNat := by omega
    rw [List.take_of_length_le (show C'.length ≤ n.toNat by omega)]
    repeat (refine go rfl ?_)
    refine SXB.split (fun h0 => ?_) (fun h0 => ?_)
    · rw [show cgone C' I' = ⟨1, [none]⟩ by unfold cgone; rw [if_pos h0]]
      repeat (refine go rfl ?_)
      refine SXR.call (ids_spec bp ⟨1, [none]⟩ bs') rfl ?_
      rintro u L' rfl
      rw [show Pl.ids ⟨1, [none]⟩ = [] from rfl]
      dsimp only [List.cons_append, List.nil_append]
      rw [show vec u ([] : List Int).length 1 3 (([] : List Int).map intC) = vec u 0 1 3 [] from rfl]
      repeat (refine go rfl ?_)
      refine SXR.lenRd (n := 0) (cs := []) rfl (fun w hw => RdS.of_vec (sz := 1) (T := 3) hw) ?_
      repeat (refine go rfl ?_)
      refine SXG.split rfl (fun _ => ?_) (fun h => by exact absurd rfl h)
      repeat (refine go rfl ?_)
      refine SXR.callF (slots_spec bp ⟨1, [none]⟩ bs' 1) rfl ?_
      rw [show Pl.slots ⟨1, [none]⟩ 1 = 0 from rfl]
      repeat (refine go rfl ?_)
      refine SXG.split rfl (fun _ => ?_) (fun h => by exact absurd rfl h)
      repeat (refine go rfl ?_)
      refine SXR.callF lives_spec rfl ?_
      repeat (refine go rfl ?_)
      exact fin_ret (.tmp rfl .nil) ⟨rfl, rfl⟩
    · rw [show cgone C' I' = cpool C' I' by unfold cgone; rw [if_neg h0]]
      have hsn := sum_nn hCn'
      repeat (refine go rfl ?_)
      refine SXC.loop (fun k : Nat => k ≤ n.toNat) (fun k => [(1, .slice (some ⟨ba, off, none⟩) acts.length cap), (5, .int .i64 n), (6, .pointer (some ⟨bp, 0, none⟩)), (7, .int .i64 1), (9, .slice (some ⟨bcov, 0, none⟩) n.toNat n.toNat), (10, .slice (some ⟨bin, 0, none⟩) n.toNat n.toNat), (12, .int .i64 next'), (68, .slice (some ⟨ba, off, none⟩) acts.length cap), (69, .int .i64 acts.length), (70, .int .i64 i), (268, .int .i64 n.toNat), (269, .int .i64 k)])
        (fun k => [poolB bp (cpool C' I') bs', pts bcov (.cells (C'.map intC ++ []).toArray 3 (0, 0)), pts bin (.cells (I'.map intC ++ []).toArray 3 (0, 0))]) (fun k => n.toNat - k) 0 (Nat.zero_le _) ⟨rfl, rfl, rfl, rfl, rfl, rfl, rfl, rfl, rfl, rfl, rfl, rfl, trivial⟩ ?_
      intro k hk
      repeat (refine go rfl ?_)
      refine SXB.split (fun hlt2 => ?_) (fun hge2 => ?_)
      · repeat (refine go rfl ?_)
        refine SXC.draw [] (by kernel_rfl) ?_
        refine SXE.quiet 0 rfl rfl rfl (fun X => by (repeat (refine go rfl ?_)); exact fin_qs rfl) ?_
        refine SXE.quiet 1 rfl rfl rfl (fun X => by (repeat (refine go rfl ?_)); exact fin_qs rfl) ?_
        refine SXE.quiet 2 rfl rfl rfl (fun X => by (repeat (refine go rfl ?_)); exact fin_qs rfl) ?_
        refine SXE.phase 3 rfl rfl rfl (by (repeat (refine go rfl ?_)); refine SXR.callF (cover_spec bp (cpool C' I') bs' 1 k) rfl ?_; (repeat (refine go rfl ?_)); exact fin_qs rfl) ?_
        refine SXE.quiet 4 rfl rfl rfl (fun X => by (repeat (refine go rfl ?_)); exact fin_qs rfl) ?_
        refine SXE.quiet 5 rfl rfl rfl (fun X => by (repeat (refine go rfl ?_)); exact fin_qs rfl) ?_
        refine SXE.phase 6 rfl rfl rfl (by (repeat (refine go rfl ?_)); refine SXR.index (k) rfl (by omega) (by omega) (by omega) ?_; (repeat (refine go rfl ?_)); exact fin_qs rfl) ?_
        refine SXE.phase 7 rfl rfl rfl (by (repeat (refine go rfl ?_)); refine SXL.row (ints_get [] (l := C') (i := k) (by omega)) ?_; (repeat (refine go rfl ?_)); exact fin_qs rfl) ?_
        rw [cpool_cover (I := I') (show (0 : Int) ≤ k by omega) (show (k : Int) < C'.length by omega) hCn']
        refine SXE.phase 8 rfl rfl rfl (by (repeat (refine go rfl ?_)); exact fin_qs rfl) ?_
        rw [show (!(gf C' k == gf C' k)) = false by simp]
        refine SXE.phase 9 rfl rfl rfl (by (repeat (refine go rfl ?_)); exact fin_qs rfl) ?_
        refine SXE.quiet 10 rfl rfl rfl (fun X => by (repeat (refine go rfl ?_)); exact fin_qs rfl) ?_
        refine SXE.quiet 11 rfl rfl rfl (fun X => by (repeat (refine go rfl ?_)); exact fin_qs rfl) ?_
        refine SXE.quiet 12 rfl rfl rfl (fun X => by (repeat (refine go rfl ?_)); exact fin_qs rfl) ?_
        refine SXE.phase 13 rfl rfl rfl (by (repeat (refine go rfl ?_)); refine SXR.callF (get_spec bp (cpool C' I') bs' 1 k) rfl ?_; (repeat (refine go rfl ?_)); exact fin_qs rfl) ?_
        refine SXE.quiet 14 rfl rfl rfl (fun X => by (repeat (refine go rfl ?_)); exact fin_qs rfl) ?_
        refine SXE.quiet 15 rfl rfl rfl (fun X => by (repeat (refine go rfl ?_)); exact fin_qs rfl) ?_
        refine SXE.phase 16 rfl rfl rfl (by (repeat (refine go rfl ?_)); refine SXR.index (k) rfl (by omega) (by omega) (by omega) ?_; (repeat (refine go rfl ?_)); exact fin_qs rfl) ?_
        refine SXE.phase 17 rfl rfl rfl (by (repeat (refine go rfl ?_)); refine SXL.row (ints_get [] (l := I') (i := k) (by omega)) ?_; (repeat (refine go rfl ?_)); exact fin_qs rfl) ?_
        rw [cpool_at (C := C') (show (0 : Int) ≤ k by omega) (show (k : Int) < I'.length by omega)]
        refine SXE.phase 18 rfl rfl rfl (by (repeat (refine go rfl ?_)); exact fin_qs rfl) ?_
        rw [show (!(gf I' k == gf I' k)) = false by simp]
        refine SXE.phase 19 rfl rfl rfl (by (repeat (refine go rfl ?_)); exact fin_qs rfl) ?_
        refine SXE.done rfl ?_
        repeat (refine go rfl ?_)
        exact fin_round (k + 1) (by omega) (by omega) ⟨rfl, rfl, rfl, rfl, rfl, rfl, rfl, rfl, rfl, rfl, rfl, by rw [wrap_succ (by omega)], trivial⟩
      · repeat (refine go rfl ?_)
        exact fin_round ⟨i + 1, C', I', next', bs'⟩ ⟨by dsimp only; omega, ⟨hCl', hIl', hn0', by dsimp only; omega, fun y hy => by have := hCb' y hy; dsimp only; omega, hIb'⟩, by dsimp only; omega⟩ (by dsimp only; omega) ⟨rfl, rfl, rfl, rfl, rfl, rfl, rfl, rfl, rfl, by rw [wrap_succ (by omega)], trivial⟩
end Go.Proofs.Ytlgphhknfocfaaa
