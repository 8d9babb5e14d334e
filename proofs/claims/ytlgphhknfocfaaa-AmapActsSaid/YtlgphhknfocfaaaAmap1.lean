import Derived.Test.YtlgphhknfocfaaaSpread14
namespace Go.Proofs.Ytlgphhknfocfaaa
open Go.Sl

structure Am where
  c : List Int
  a : List Int
  deriving DecidableEq
structure Pl where
  most : Int
  l : List (Option Am)
  deriving DecidableEq
def Am.ok (a : Am) : Prop := a.a.length = a.c.length ∧ 1 ≤ a.c.length ∧ a.c.length ≤ 4096 ∧ ∀ x ∈ a.a, 0 ≤ x
def Pl.get (p : Pl) (id : Int) : Option Am := if 1 ≤ id ∧ id ≤ p.l.length then (p.l[(id - 1).toNat]?).join else none
def knL : List (Option Am) → Nat
  | [] => 0
  | none :: l => knL l
  | some _ :: l => knL l + 1
def Pl.kn (p : Pl) : Int := (knL p.l : Nat)
def Pl.ok (p : Pl) : Prop := p.l.length ≤ p.most ∧ p.most ≤ 4096
@[reducible] def pv : Option Nat → Value
  | none => .pointer none
  | some b => .pointer (some ⟨b, 0, none⟩)
def oneH (b : Nat) (a : Am) : HP := fun m => ∃ q : Nat × Value, a.ok ∧ big [pts b (.cells [.pointer (some ⟨q.1, 0, none⟩), q.2].toArray 68 (0, 0)), cntC q.1 a.c, vec q.2 a.a.length 1 3 (a.a.map intC)] m
def oneO : Option Nat → Option Am → HP
  | none, none => fun _ => True
  | some b, some a => oneH b a
  | _, _ => fun _ => False
def poolB (bp : Nat) (p : Pl) (bs : List (Option Nat)) : HP := fun m => ∃ v : Value, (bs.length = p.l.length ∧ p.ok) ∧
  big [pts bp (.cells [.int .i64 p.most, .bool true, v, .int .i64 p.kn].toArray 63 (0, 0)), vec v bs.length 1 64 (bs.map pv), big (List.zipWith oneO bs p.l)] m
theorem poolB_open (bp : Nat) (p : Pl) (bs : List (Option Nat)) : ∀ m, poolB bp p bs m → ∃ v : Value, (bs.length = p.l.length ∧ p.ok) ∧
  big [pts bp (.cells [.int .i64 p.most, .bool true, v, .int .i64 p.kn].toArray 63 (0, 0)), vec v bs.length 1 64 (bs.map pv), big (List.zipWith oneO bs p.l)] m := fun _ h => h
theorem poolB_shut (bp : Nat) (p : Pl) (bs : List (Option Nat)) (v : Value) (h : bs.length = p.l.length ∧ p.ok) : ∀ m, big [pts bp (.cells [.int .i64 p.most, .bool true, v, .int .i64 p.kn].toArray 63 (0, 0)), vec v bs.length 1 64 (bs.map pv), big (List.zipWith oneO bs p.l)] m → poolB bp p bs m := fun _ h' => ⟨v, h, h'⟩
/-- The pointer that a number stands for. -/
def pvAt (bs : List (Option Nat)) (id : Int) : Value := if 1 ≤ id ∧ id ≤ bs.length then pv (bs[(id - 1).toNat]?).join else .pointer none

theorem pmade_spec (bp : Nat) (p : Pl) (bs : List (Option Nat)) : Tri Try.prog 29 [.pointer (some ⟨bp, 0, none⟩)] [poolB bp p bs] (fun u l => u = .bool true ∧ l = [poolB bp p bs]) := by
  refine tri_intro Try.func29 rfl Try.results29 Try.ntmps29 rfl (by kernel_rfl) fun R => ?_
  refine SXC.open (poolB bp p bs) (poolB_open bp p bs) ?_
  rintro v h
  repeat (refine go rfl ?_)
  refine Fin.shut _ (poolB_shut bp p bs v h) ?_
  exact fin_ret (.tmp rfl .nil) ⟨rfl, rfl⟩
theorem one_pv {l : List (Option Nat)} : ∀ y ∈ l.map pv, y.oneCell' = true := by
  intro y hy
  obtain ⟨o, _, rfl⟩ := List.mem_map.1 hy
  cases o <;> rfl
theorem pof_spec (bp : Nat) (p : Pl) (bs : List (Option Nat)) (id : Int) : Tri Try.prog 37 [.pointer (some ⟨bp, 0, none⟩), .int .i64 id] [poolB bp p bs] (fun u l => u = pvAt bs id ∧ l = [poolB bp p bs]) := by
  refine tri_intro Try.func37 rfl Try.results37 Try.ntmps37 rfl (by kernel_rfl) fun R => ?_
  repeat (refine go rfl ?_)
  refine SXR.callF (pmade_spec bp p bs) rfl ?_
  refine SXR.open (poolB bp p bs) (poolB_open bp p bs) ?_
  rintro v h
  have hlen : bs.length ≤ 4096 := by have := h.1; have := h.2.1; have := h.2.2; omega
  repeat (refine go rfl ?_)
  refine SXG.split rfl (fun hc => ?_) (fun hc => ?_)
  · repeat (refine go rfl ?_)
    refine Fin.shut _ (poolB_shut bp p bs v h) ?_
    exact fin_ret (.tmp rfl .nil) ⟨(if_neg (by omega)).symm, rfl⟩
  repeat (refine go rfl ?_)
  refine SXR.lenRd (n := bs.length) (cs := bs.map pv) rfl (fun w hw => RdS.of_vec (sz := 1) (T := 64) hw) ?_
  repeat (refine go rfl ?_)
  refine SXB.split (fun hc2 => ?_) (fun hc2 => ?_)
  · repeat (refine go rfl ?_)
    refine Fin.shut _ (poolB_shut bp p bs v h) ?_
    exact fin_ret (.tmp rfl .nil) ⟨(if_neg (by omega)).symm, rfl⟩
  refine SXC.vec (v := v) (n := bs.length) (sz := 1) (T := 64) (cs := bs.map pv) (fun _ h _ => absurd h (by omega)) ?_
  rintro b cap sp rfl hcap hsp hl
  obtain ⟨o, ho⟩ : ∃ o, bs[(id - 1).toNat]? = some o := ⟨bs[(id - 1).toNat]'(by omega), List.getElem?_eq_getElem (by omega)⟩
  repeat (refine go rfl ?_)
  rw [show IntKind.i64.wrap (id - 1) = id - 1 from IntWalk.i64_in _ ⟨by omega, by omega⟩]
  refine SXR.index ((id - 1).toNat) rfl (by omega) (by omega) (by omega) ?_
  repeat (refine go rfl ?_)
  refine SXL.row (v := pv o) (by rw [List.getElem?_append_left (by simp; omega), List.getElem?_map, ho]; rfl) ?_
  repeat (refine go rfl ?_)
  refine Fin.shutB _ b (vec_shut (T := 64) hl hcap hsp) ?_
  refine Fin.shut _ (poolB_shut bp p bs (.slice (some ⟨b, 0, none⟩) bs.length cap) h) ?_
  refine fin_ret (.tmp rfl .nil) ⟨?_, rfl⟩
  unfold pvAt
  rw [if_pos (by omega), ho]; rfl
end Go.Proofs.Ytlgphhknfocfaaa
