/- A part of the proof: the texts Qprec, Qxs92, Qxf119, Qhrd92, Qxf97, Qxf98, Qxf57, Qh18, Qxs96, Qxf113, Qhrd96, packed. -/
import Derived.Test.YtndjodgcemgpfaaKd6

open List renaming setIfInBounds_toArray → ub, set_cons_zero → uc, set_cons_succ → ud, length_drop → uf, length_take → ug, map_toArray → uh, map_cons → ui, map_nil → uj, length_append → ul
open Option renaming bind_eq_some_iff → ue, bind_some → uk
open Nat renaming le_refl → um
set_option linter.unusedVariables false
set_option linter.unusedSimpArgs false
section
namespace Go.Proofs.Ytndjodgcemgpfaa.Q
open Go.RowKit Go.Proofs.YtndjodgcemgpfaaW.PrintWords Go.Proofs.YtndjodgcemgpfaaW.PrintLast Go.Proofs.YtndjodgcemgpfaaW.PrintMore
def OkB (s : ByteArray) : Prop := ∀ i : Nat, i < s.size → 33 ≤ bt s (i : Int) ∧ bt s (i : Int) ≤ 126
def OkId (s : ByteArray) : Prop := (1 ≤ s.size ∧ s.size ≤ 30) ∧ OkB s
theorem wrap_succ {i : Nat} (h : i < 4611686018427387904) : wrap64 ((i : Int) + 1) = ((i + 1 : Nat) : Int) := by
 rw [z1s (by omega) (by omega)]
 omega
theorem oIdOk_l0 (s : ByteArray) (hs : s.size ≤ 4611686018427387903) : ∀ (n i : Nat), i + n = s.size → (∀ j, j < i → 33 ≤ bt s (j : Int) ∧ bt s (j : Int) ≤ 126) →
  (OkB s → Ev (fun k => z1g.l0 k s (s.size : Int) (i : Int)) true) ∧ (¬ OkB s → Ev (fun k => z1g.l0 k s (s.size : Int) (i : Int)) false) := by
 intro n
 induction n with
 | zero =>
  intro i hi hj
  refine ⟨fun _ => Ev.step (fun k => z1g.l0.eq_2 _ _ _ k) (Ev.ite_neg (by omega) (Ev.now _)), fun h => absurd (fun j hj' => hj j (by omega)) h⟩
 | succ n ih =>
  intro i hi hj
  by_cases h1 : bt s (i : Int) < 33
  ·refine ⟨fun h => absurd (h i (by omega)).1 (by omega), fun _ => Ev.step (fun k => z1g.l0.eq_2 _ _ _ k) (Ev.ite_pos (by omega) (Ev.ite_pos (by omega) (Ev.ite_pos (by omega) (Ev.ite_pos h1 (Ev.now _)))))⟩
  ·by_cases h2 : bt s (i : Int) > 126
   ·refine ⟨fun h => absurd (h i (by omega)).2 (by omega), fun _ => Ev.step (fun k => z1g.l0.eq_2 _ _ _ k) (Ev.ite_pos (by omega) (Ev.ite_pos (by omega) (Ev.ite_pos (by omega) (Ev.ite_neg h1 (Ev.ite_pos h2 (Ev.now _))))))⟩
   ·have := ih (i + 1) (by omega) (fun j hj' => by
     by_cases hji : j = i
     ·subst hji; exact ⟨by omega, by omega⟩
     ·exact hj j (by omega))
    rw [← wrap_succ (by omega)] at this
    exact ⟨fun h => Ev.step (fun k => z1g.l0.eq_2 _ _ _ k) (Ev.ite_pos (by omega) (Ev.ite_pos (by omega) (Ev.ite_pos (by omega) (Ev.ite_neg h1 (Ev.ite_neg h2 (this.1 h)))))),
     fun h => Ev.step (fun k => z1g.l0.eq_2 _ _ _ k) (Ev.ite_pos (by omega) (Ev.ite_pos (by omega) (Ev.ite_pos (by omega) (Ev.ite_neg h1 (Ev.ite_neg h2 (this.2 h))))))⟩
theorem oIdOk_ev (s : ByteArray) (hs : s.size ≤ 4611686018427387903) : (OkId s → Ev (fun k => z1g.f k s) true) ∧ (¬ OkId s → Ev (fun k => z1g.f k s) false) := by
 unfold z1g.f OkId
 have h := oIdOk_l0 s hs s.size 0 (by omega) (fun j hj => by omega)
 by_cases h1 : (s.size : Int) < 1
 ·exact ⟨fun h => by omega, fun _ => Ev.ite_pos h1 (Ev.step (fun k => z1g.j0.eq_2 _ _ k) (Ev.ite_pos rfl (Ev.now _)))⟩
 ·by_cases h2 : (s.size : Int) > 30
  ·exact ⟨fun h => by omega, fun _ => Ev.ite_neg h1 (Ev.step (fun k => z1g.j0.eq_2 _ _ k) (Ev.ite_pos (by simpa using h2) (Ev.now _)))⟩
  ·exact ⟨fun hh => Ev.ite_neg h1 (Ev.step (fun k => z1g.j0.eq_2 _ _ k) (Ev.ite_neg (by simp; omega) (h.1 hh.2))),
    fun hh => Ev.ite_neg h1 (Ev.step (fun k => z1g.j0.eq_2 _ _ k) (Ev.ite_neg (by simp; omega) (h.2 (fun h3 => hh ⟨⟨by omega, by omega⟩, h3⟩))))⟩
theorem l06Id_l0 (s : ByteArray) (hs : s.size ≤ 4611686018427387903) : ∀ (n i : Nat), i + n = s.size → (∀ j, j < i → 33 ≤ bt s (j : Int) ∧ bt s (j : Int) ≤ 126) →
  (OkId s → Ev (fun k => spec_l06Id.l0 k s (i : Int)) true) ∧ (¬ OkId s → Ev (fun k => spec_l06Id.l0 k s (i : Int)) false) := by
 intro n
 induction n with
 | zero =>
  intro i hi hj
  have hb : OkB s := fun j hj' => hj j (by omega)
  refine ⟨fun h => Ev.step (fun k => spec_l06Id.l0.eq_2 _ _ k) (Ev.ite_neg (by omega) (Ev.ite_pos (by have := h.1; omega) (Ev.eq (Ev.now _) (by have := h.1; simp; omega)))), fun h => Ev.step (fun k => spec_l06Id.l0.eq_2 _ _ k) (Ev.ite_neg (by omega) ?_)⟩
  by_cases h1 : (s.size : Int) ≥ 1
  ·exact Ev.ite_pos h1 (Ev.eq (Ev.now _) (by
    simp only [decide_eq_false_iff_not]
    intro h2
    exact h ⟨⟨by omega, by omega⟩, hb⟩))
  ·exact Ev.ite_neg h1 (Ev.now _)
 | succ n ih =>
  intro i hi hj
  by_cases h1 : bt s (i : Int) < 33
  ·refine ⟨fun h => absurd (h.2 i (by omega)).1 (by omega), fun _ => Ev.step (fun k => spec_l06Id.l0.eq_2 _ _ k) (Ev.ite_pos (by omega) (Ev.ite_pos (by omega) (Ev.ite_pos h1 (Ev.now _))))⟩
  ·by_cases h2 : bt s (i : Int) > 126
   ·refine ⟨fun h => absurd (h.2 i (by omega)).2 (by omega), fun _ => Ev.step (fun k => spec_l06Id.l0.eq_2 _ _ k) (Ev.ite_pos (by omega) (Ev.ite_pos (by omega) (Ev.ite_neg h1 (Ev.ite_pos h2 (Ev.now _)))))⟩
   ·have := ih (i + 1) (by omega) (fun j hj' => by
     by_cases hji : j = i
     ·subst hji; exact ⟨by omega, by omega⟩
     ·exact hj j (by omega))
    rw [← wrap_succ (by omega)] at this
    exact ⟨fun h => Ev.step (fun k => spec_l06Id.l0.eq_2 _ _ k) (Ev.ite_pos (by omega) (Ev.ite_pos (by omega) (Ev.ite_neg h1 (Ev.ite_neg h2 (this.1 h))))),
     fun h => Ev.step (fun k => spec_l06Id.l0.eq_2 _ _ k) (Ev.ite_pos (by omega) (Ev.ite_pos (by omega) (Ev.ite_neg h1 (Ev.ite_neg h2 (this.2 h)))))⟩
theorem l06Id_ev (s : ByteArray) (hs : s.size ≤ 4611686018427387903) : (OkId s → Ev (fun k => spec_l06Id.f k s) true) ∧ (¬ OkId s → Ev (fun k => spec_l06Id.f k s) false) :=
 l06Id_l0 s hs s.size 0 (by omega) (fun j hj => by omega)
def IsB (xs : List Int) : Prop := ∀ b ∈ xs, 0 ≤ b ∧ b < 256
theorem isB_append {xs ys : List Int} (h1 : IsB xs) (h2 : IsB ys) : IsB (xs ++ ys) := fun b hb => (List.mem_append.1 hb).elim (h1 b) (h2 b)
theorem putL_isB : ∀ n : Nat, IsB (putL n) := by
 intro n
 induction n using Nat.strongRecOn with
 | ind n ih =>
  by_cases h : n < 128
  ·rw [putL_small h]
   intro b hb
   rw [List.mem_singleton.1 hb]
   omega
  ·rw [putL_big h]
   intro b hb
   rcases List.mem_cons.1 hb with rfl | hb
   ·omega
   ·exact ih (n / 128) (by omega) b hb
theorem bytesOf_isB (s : ByteArray) : IsB (bytesOf s) := by
 intro b hb
 unfold bytesOf at hb
 obtain ⟨x, _, rfl⟩ := List.mem_map.1 hb
 have := x.toNat_lt
 omega
theorem flatMap_isB {α : Type} (f : α → List Int) (xs : List α) (h : ∀ x ∈ xs, IsB (f x)) : IsB (xs.flatMap f) := fun b hb => by
 obtain ⟨x, hx, hb⟩ := List.mem_flatMap.1 hb
 exact h x hx b hb
theorem txtL_isB (s : ByteArray) : IsB (txtL s) := isB_append (putL_isB _) (bytesOf_isB _)
theorem docL_isB (id : ByteArray) (ds : List S84) : IsB (docL id ds) :=
 isB_append (txtL_isB _) (isB_append (putL_isB _) (flatMap_isB _ _ fun x _ => isB_append (txtL_isB _) (isB_append (putL_isB _) (isB_append (flatMap_isB _ _ fun s _ => txtL_isB s) (isB_append (putL_isB _) (flatMap_isB _ _ fun n _ => putL_isB _))))))
def hx (h c : Int) : Int := (((h.toNat ^^^ c.toNat : Nat) : Int) * 16777619) % 4294967296
theorem xor_i64 (a b : Int) (h1 : 0 ≤ a) (h2 : a < 4294967296) (h3 : 0 ≤ b) (h4 : b < 4294967296) : Go.bits .xor .i64 a b = ((a.toNat ^^^ b.toNat : Nat) : Int) := by
 obtain ⟨A, rfl⟩ := Int.eq_ofNat_of_zero_le h1
 obtain ⟨B, rfl⟩ := Int.eq_ofNat_of_zero_le h3
 have hx : A ^^^ B < 2 ^ 32 := Nat.xor_lt_two_pow (by omega) (by omega)
 show IntKind.i64.wrap ((BitVec.ofInt 64 (A : Int) ^^^ BitVec.ofInt 64 (B : Int)).toNat : Int) = _
 rw [BitVec.toNat_xor, BitVec.ofInt_natCast, BitVec.ofInt_natCast, BitVec.toNat_ofNat, BitVec.toNat_ofNat, Nat.mod_eq_of_lt (by omega), Nat.mod_eq_of_lt (by omega), IntKind.wrap_i64]
 simp only [Int.toNat_natCast]
 omega
theorem xor_lt (a b : Int) (h2 : a < 4294967296) (h4 : b < 4294967296) : ((a.toNat ^^^ b.toNat : Nat) : Int) < 4294967296 := by
 have hx : a.toNat ^^^ b.toNat < 2 ^ 32 := Nat.xor_lt_two_pow (by omega) (by omega)
 omega
def sumL (xs : List Int) : Int := if 1048576 < xs.length then 0 else xs.foldl hx 2166136261
theorem foldl_hx (xs : List Int) (h : Int) (h0 : 0 ≤ h) (h1 : h < 4294967296) : 0 ≤ xs.foldl hx h ∧ xs.foldl hx h < 4294967296 := by
 induction xs generalizing h with
 | nil => exact ⟨h0, h1⟩
 | cons x xs ih => exact ih _ (by unfold hx; omega) (by unfold hx; omega)
theorem sumL_lt (xs : List Int) : 0 ≤ sumL xs ∧ sumL xs < 4294967296 := by
 unfold sumL
 split
 ·omega
 ·exact foldl_hx xs _ (by omega) (by omega)
theorem implSum_l0 (xs : List Int) (hb : IsB xs) (hl : xs.length ≤ 1048576) : ∀ (rest pre : List Int) (h : Int), xs = pre ++ rest → 0 ≤ h → h < 4294967296 →
  Ev (fun k => impl_Sum32.l0 k h xs (xs.length : Int) (pre.length : Int)) (rest.foldl hx h) := by
 intro rest
 induction rest with
 | nil =>
  intro pre h he h0 h1
  refine Ev.step (fun k => impl_Sum32.l0.eq_2 _ _ _ _ k) (Ev.ite_neg (by rw [he]; exact end_lt) (Ev.eq (Ev.now _) ?_))
  rw [z1s (by omega) (by omega)]
  rfl
 | cons x rest ih =>
  intro pre h he h0 h1
  have hm : ((pre.length : Int)) < (xs.length : Int) := by rw [he]; exact mid_lt
  have hr : rd xs (pre.length : Int) = x := by rw [he]; exact mid_getD 0
  have hx' := hb x (by rw [he]; simp)
  refine Ev.step (fun k => impl_Sum32.l0.eq_2 _ _ _ _ k) (Ev.ite_pos hm (Ev.ite_pos (by omega) (Ev.ite_pos hm ?_)))
  rw [hr, wrap_next (x := x) (by omega), show x % 4294967296 = x from by omega, u32_xor h x h0 h1 hx'.1 (by omega)]
  exact ih (pre ++ [x]) (hx h x) (by rw [he, snoc_cons]) (by unfold hx; omega) (by unfold hx; omega)
theorem implSum_ev (xs : List Int) (hb : IsB xs) : Ev (fun k => impl_Sum32.f k xs) (sumL xs) := by
 unfold impl_Sum32.f sumL
 by_cases h : 1048576 < xs.length
 ·rw [if_pos h]
  exact Ev.ite_pos (by omega) (Ev.now _)
 ·rw [if_neg h]
  exact Ev.ite_neg (by omega) (implSum_l0 xs hb (by omega) xs [] _ rfl (by omega) (by omega))
theorem specSum_l0 (xs : List Int) (hb : IsB xs) (hl : xs.length ≤ 1048576) : ∀ (rest pre : List Int) (h : Int), xs = pre ++ rest → 0 ≤ h → h < 4294967296 →
  Ev (fun k => spec_Sum32.l0 k xs h (pre.length : Int)) (rest.foldl hx h) := by
 intro rest
 induction rest with
 | nil =>
  intro pre h he h0 h1
  exact Ev.step (fun k => spec_Sum32.l0.eq_2 _ _ _ k) (Ev.ite_neg (by rw [he]; exact end_lt) (Ev.now _))
 | cons x rest ih =>
  intro pre h he h0 h1
  have hm : ((pre.length : Int)) < (xs.length : Int) := by rw [he]; exact mid_lt
  have hr : rd xs (pre.length : Int) = x := by rw [he]; exact mid_getD 0
  have hx' := hb x (by rw [he]; simp)
  have hlt := xor_lt h x h1 (by omega)
  refine Ev.step (fun k => spec_Sum32.l0.eq_2 _ _ _ k) (Ev.ite_pos hm (Ev.ite_pos (by omega) ?_))
  rw [hr, wrap_next (x := x) (by omega), z1s (x := x) (by omega) (by omega), xor_i64 h x h0 h1 hx'.1 (by omega), z1s (by omega) (by omega), Int.tmod_eq_emod_of_nonneg (by omega)]
  exact ih (pre ++ [x]) (hx h x) (by rw [he, snoc_cons]) (by unfold hx; omega) (by unfold hx; omega)
theorem specSum_ev (xs : List Int) (hb : IsB xs) : Ev (fun k => spec_Sum32.f k xs) (sumL xs) := by
 unfold spec_Sum32.f sumL
 by_cases h : 1048576 < xs.length
 ·rw [if_pos h]
  exact Ev.ite_pos (by omega) (Ev.now _)
 ·rw [if_neg h]
  exact Ev.ite_neg (by omega) (specSum_l0 xs hb (by omega) xs [] _ rfl (by omega) (by omega))
def fourL (a : Int) : List Int := [(a / 16777216) % 256, (a / 65536) % 256, (a / 256) % 256, a % 256]
theorem fourL_isB (a : Int) : IsB (fourL a) := fun b hb => by
 simp only [fourL, List.mem_cons, List.not_mem_nil, or_false] at hb
 omega
theorem specFour (a : Int) (h0 : 0 ≤ a) (h1 : a < 4294967296) : spec_l04Four.f a = some (fourL a) := by
 unfold spec_l04Four.f fourL
 have t1 : Int.tdiv a 16777216 = a / 16777216 := Int.tdiv_eq_ediv_of_nonneg h0
 have t2 : Int.tdiv a 65536 = a / 65536 := Int.tdiv_eq_ediv_of_nonneg h0
 have t3 : Int.tdiv a 256 = a / 256 := Int.tdiv_eq_ediv_of_nonneg h0
 rw [t1, t2, t3, z1s (x := a / 16777216) (by omega) (by omega), z1s (x := a / 65536) (by omega) (by omega), z1s (x := a / 256) (by omega) (by omega),
  Int.tmod_eq_emod_of_nonneg (by omega), Int.tmod_eq_emod_of_nonneg (by omega), Int.tmod_eq_emod_of_nonneg h0]
 simp
theorem implFour (a : Int) : impl_oFour.f a = some (fourL a) := rfl
def partL (kind : Int) (seq : Nat) (body : List Int) : List Int := ([kind % 256] ++ putL seq) ++ body
theorem partL_isB (kind : Int) (seq : Nat) {body : List Int} (h : IsB body) : IsB (partL kind seq body) :=
 isB_append (isB_append (fun b hb => by rw [List.mem_singleton.1 hb]; omega) (putL_isB _)) h
def recL (part : List Int) : List Int := (putL part.length ++ part) ++ fourL (sumL part)
theorem recL_length (part : List Int) : (recL part).length = (putL part.length).length + part.length + 4 := by simp only [recL, fourL, ul, List.length_cons, List.length_nil]
def finR (part : List Int) : List Int × Int := if (recL part).length ≤ 1048576 then (recL part, 0) else ([], 2)
open Classical in

noncomputable def recR (kind seq : Int) (id did : ByteArray) (ds : List S84) : List Int × Int :=
 if 1 ≤ seq ∧ seq ≤ 4611686018427387903 then
  if kind = 1 then (if id.toList = [] ∧ OkId did ∧ FitD did ds then finR (partL kind seq.toNat (docL did ds)) else ([], 1))
  else if kind = 2 then (if OkId id ∧ did.toList = [] ∧ ds.length = 0 then finR (partL kind seq.toNat (bytesOf id)) else ([], 1))
  else ([], 1)
 else ([], 1)
theorem within_true (n : Int) (h0 : 0 ≤ n) (h1 : n ≤ 4611686018427387903) : impl_within.f n 0 4611686018427387903 = some true := by
 unfold impl_within.f
 rw [if_pos h0]
 simp [h1]
theorem implPutInt_ev (n : Nat) (h1 : n ≤ 4611686018427387903) : Ev (fun k => impl_PutInt.f k (n : Int)) (putL n, 0) := by
 unfold impl_PutInt.f
 have := putL_len n (by omega)
 exact Ev.const (within_true _ (by omega) (by omega)) (Ev.ite_pos rfl (Ev.bind (putInt_ev [] n (by omega) (by simp only [List.length_nil]; omega)) (Ev.now _)))
theorem impl_j1 (part : List Int) (hb : IsB part) (hl : part.length < 140737488355000) : Ev (fun k => z12.j1 k part) (finR part) := by
 have hp := putL_len part.length (by omega)
 have hr := recL_length part
 refine Ev.step (fun k => z12.j1.eq_2 _ k) (Ev.bind (implPutInt_ev part.length (by omega)) ?_)
 unfold finR
 show Ev (fun k => if (wrap64 ((wrap64 (((putL part.length).length : Int) + (part.length : Int))) + 4)) > 1048576 then _ else _) _
 rw [z1s (x := ((putL part.length).length : Int) + (part.length : Int)) (by omega) (by omega), z1s (by omega) (by omega)]
 by_cases h : (recL part).length ≤ 1048576
 ·rw [if_pos h]
  refine Ev.ite_neg (by omega) (Ev.ite_pos (by show (putL part.length).length + part.length < _; omega) (Ev.some_bind (Ev.bind (implSum_ev part hb) (Ev.const (implFour _) (Ev.ite_pos ?_ (Ev.now _))))))
  simp only [ul, fourL, List.length_cons, List.length_nil]
  omega
 ·rw [if_neg h]
  exact Ev.ite_pos (by omega) (Ev.now _)
theorem impl_RecordBytes_ev (kind seq : Int) (id did : ByteArray) (ds : List S84) (hid : id.size ≤ 1048576) (hdid : did.size ≤ 1048576) (hv : ∀ x ∈ ds, x.f1.length ≤ 1048576 ∧ x.f2.length ≤ 1048576) (hb : (docL did ds).length < 140737488350000) :
  Ev (fun k => z12.f k kind seq id did ds) (recR kind seq id did ds) := by
 unfold z12.f recR
 by_cases h1 : seq < 1
 ·rw [if_neg (by omega)]
  exact Ev.ite_pos h1 (Ev.step (fun k => z12.j0.eq_2 _ _ _ _ _ _ k) (Ev.ite_pos rfl (Ev.now _)))
 ·refine Ev.ite_neg h1 ?_
  by_cases h2 : seq > 4611686018427387903
  ·rw [if_neg (by omega)]
   exact Ev.step (fun k => z12.j0.eq_2 _ _ _ _ _ _ k) (Ev.ite_pos (by simpa using h2) (Ev.now _))
  ·rw [if_pos ⟨by omega, by omega⟩]
   obtain ⟨n, rfl⟩ := Int.eq_ofNat_of_zero_le (a := seq) (by omega)
   have hp := putL_len n (by omega)
   refine Ev.step (fun k => z12.j0.eq_2 _ _ _ _ _ _ k) (Ev.ite_neg (by simpa using h2) (Ev.bind (implPutInt_ev n (by omega)) (Ev.some_bind (Ev.ite_pos (by simp only [List.length_singleton]; omega) (Ev.some_bind ?_)))))
   by_cases k1 : kind = 1
   ·rw [if_pos k1]
    refine Ev.ite_pos k1 (Ev.bind (impl_DocBytes_ev did ds hv (by omega)) ?_)
    unfold docR
    by_cases hf : FitD did ds
    ·rw [if_pos hf]
     refine Ev.ite_pos rfl ?_
     have ho := oIdOk_ev did (by omega)
     by_cases hi : OkId did
     ·refine Ev.bind (ho.1 hi) (Ev.ite_pos rfl ?_)
      by_cases he : id.toList = []
      ·rw [if_pos ⟨he, hi, hf⟩]
       exact Ev.ite_pos he (Ev.ite_pos (by simp only [ul, List.length_singleton]; omega) (impl_j1 _ (partL_isB kind n (docL_isB did ds)) (by simp only [ul, List.length_singleton]; omega)))
      ·rw [if_neg (fun h => he h.1)]
       exact Ev.ite_neg he (Ev.now _)
     ·rw [if_neg (fun h => hi h.2.1)]
      exact Ev.bind (ho.2 hi) (Ev.ite_neg (by simp) (Ev.now _))
    ·rw [if_neg hf, if_neg (fun h => hf h.2.2)]
     exact Ev.ite_neg (by simp) (Ev.now _)
   ·rw [if_neg k1]
    refine Ev.ite_neg k1 ?_
    by_cases k2 : kind = 2
    ·rw [if_pos k2]
     refine Ev.ite_pos k2 ?_
     have ho := oIdOk_ev id (by omega)
     by_cases hi : OkId id
     ·refine Ev.bind (ho.1 hi) (Ev.ite_pos rfl ?_)
      by_cases he : did.toList = []
      ·by_cases hn : ds.length = 0
       ·rw [if_pos ⟨hi, he, hn⟩]
        have hbl := bytesOf_length id
        have hz : impl_oZeroDoc.f did ds = some true := by unfold impl_oZeroDoc.f; rw [if_pos he]; simp [hn]
        exact Ev.const hz (Ev.ite_pos rfl (Ev.ite_pos (by simp only [ul, List.length_singleton]; omega) (impl_j1 _ (partL_isB kind n (bytesOf_isB id)) (by simp only [partL, ul, List.length_singleton]; omega))))
       ·rw [if_neg (fun h => hn h.2.2)]
        have hz : impl_oZeroDoc.f did ds = some false := by unfold impl_oZeroDoc.f; rw [if_pos he]; congr 1; exact beq_false_of_ne (by omega)
        exact Ev.const hz (Ev.ite_neg (by simp) (Ev.now _))
      ·rw [if_neg (fun h => he h.2.1)]
       have hz : impl_oZeroDoc.f did ds = some false := by unfold impl_oZeroDoc.f; rw [if_neg he]
       exact Ev.const hz (Ev.ite_neg (by simp) (Ev.now _))
     ·rw [if_neg (fun h => hi h.1)]
      exact Ev.bind (ho.2 hi) (Ev.ite_neg (by simp) (Ev.now _))
    ·rw [if_neg k2]
     exact Ev.ite_neg k2 (Ev.now _)
open Classical in
noncomputable def recOk (kind seq : Int) (id did : ByteArray) (ds : List S84) : Bool :=
 decide ((1 ≤ seq ∧ seq ≤ 4611686018427387903) ∧ ((kind = 1 ∧ id.toList = [] ∧ OkId did ∧ FitD did ds) ∨ (kind = 2 ∧ OkId id ∧ did.toList = [] ∧ ds.length = 0)))
open Classical in
theorem specOk_ev (kind seq : Int) (id did : ByteArray) (ds : List S84) (hid : id.size ≤ 1048576) (hdid : did.size ≤ 1048576) (hl : ds.length ≤ 1048576) (hv : ∀ x ∈ ds, x.f1.length ≤ 1048576 ∧ x.f2.length ≤ 1048576) :
  Ev (fun k => z1j.f k kind seq id did ds) (recOk kind seq id did ds) := by
 unfold z1j.f
 by_cases h1 : seq < 1
 ·exact Ev.ite_pos h1 (Ev.step (fun k => z1j.j0.eq_2 _ _ _ _ _ _ k) (Ev.ite_pos rfl (Ev.eq (Ev.now _) (by symm; unfold recOk; exact decide_eq_false (by omega)))))
 ·refine Ev.ite_neg h1 ?_
  by_cases h2 : seq > 4611686018427387903
  ·exact Ev.step (fun k => z1j.j0.eq_2 _ _ _ _ _ _ k) (Ev.ite_pos (by simpa using h2) (Ev.eq (Ev.now _) (by symm; unfold recOk; exact decide_eq_false (by omega))))
  ·refine Ev.step (fun k => z1j.j0.eq_2 _ _ _ _ _ _ k) (Ev.ite_neg (by simpa using h2) ?_)
   by_cases k1 : kind = 1
   ·refine Ev.ite_pos k1 ?_
    by_cases he : id.toList = []
    ·refine Ev.ite_pos he ?_
     have ho := l06Id_ev did (by omega)
     by_cases hi : OkId did
     ·refine Ev.bind (ho.1 hi) (Ev.ite_pos rfl ?_)
      have hf := fits_ev did ds hl hv
      by_cases hd : FitD did ds
      ·exact Ev.bind (hf.1 hd) (Ev.eq (Ev.now _) (by symm; unfold recOk; exact decide_eq_true ⟨⟨by omega, by omega⟩, Or.inl ⟨k1, he, hi, hd⟩⟩))
      ·exact Ev.bind (hf.2 hd) (Ev.eq (Ev.now _) (by symm; unfold recOk; exact decide_eq_false (fun h => h.2.elim (fun h => hd h.2.2.2) (fun h => by omega))))
     ·exact Ev.bind (ho.2 hi) (Ev.ite_neg (by simp) (Ev.eq (Ev.now _) (by symm; unfold recOk; exact decide_eq_false (fun h => h.2.elim (fun h => hi h.2.2.1) (fun h => by omega)))))
    ·exact Ev.ite_neg he (Ev.eq (Ev.now _) (by symm; unfold recOk; exact decide_eq_false (fun h => h.2.elim (fun h => he h.2.1) (fun h => by omega))))
   ·refine Ev.ite_neg k1 ?_
    by_cases k2 : kind = 2
    ·refine Ev.ite_pos k2 ?_
     have ho := l06Id_ev id (by omega)
     by_cases hi : OkId id
     ·refine Ev.bind (ho.1 hi) (Ev.ite_pos rfl ?_)
      unfold spec_l14EmptyDoc.f
      by_cases he : did.toList = []
      ·refine Ev.const (if_pos he) (Ev.eq (Ev.now _) ?_)
       unfold recOk
       by_cases hn : ds.length = 0
       ·rw [decide_eq_true ⟨⟨by omega, by omega⟩, Or.inr ⟨k2, hi, he, hn⟩⟩]
        simp [hn]
       ·rw [decide_eq_false (fun h => h.2.elim (fun h => by omega) (fun h => hn h.2.2.2))]
        exact beq_false_of_ne (by omega)
      ·exact Ev.const (if_neg he) (Ev.eq (Ev.now _) (by symm; unfold recOk; exact decide_eq_false (fun h => h.2.elim (fun h => by omega) (fun h => he h.2.2.1))))
     ·exact Ev.bind (ho.2 hi) (Ev.ite_neg (by simp) (Ev.eq (Ev.now _) (by symm; unfold recOk; exact decide_eq_false (fun h => h.2.elim (fun h => by omega) (fun h => hi h.2.1)))))
    ·exact Ev.ite_neg k2 (Ev.eq (Ev.now _) (by symm; unfold recOk; exact decide_eq_false (fun h => h.2.elim (fun h => k1 h.1) (fun h => k2 h.1))))
theorem specBytes_put (n : Nat) (hn : n ≤ 4611686018427387903) (id did : ByteArray) (ds : List S84) (hf : FitD did ds) (hb : (docL did ds).length < 140737488350000) :
  Ev (fun k => z1k.f k 1 (n : Int) id did ds) (recL (partL 1 n (docL did ds))) := by
 have hp := putL_len n (by omega)
 have hpl : (partL 1 n (docL did ds)).length = 1 + (putL n).length + (docL did ds).length := by simp only [partL, ul, List.length_singleton]
 have hp2 := putL_len (partL 1 n (docL did ds)).length (by omega)
 have hs := sumL_lt (partL 1 n (docL did ds))
 refine Ev.some_bind (Ev.bind (l03Put n (by omega)) (Ev.ite_pos (by simp only [List.length_singleton]; omega) (Ev.some_bind (Ev.ite_pos rfl (Ev.bind (l06Bytes_ev did ds hf (by omega)) (Ev.ite_pos (by simp only [ul, List.length_singleton]; omega) (Ev.some_bind ?_)))))))
 refine Ev.bind (l03Put (partL 1 n (docL did ds)).length (by omega)) (Ev.ite_pos ?_ (Ev.some_bind (Ev.bind (specSum_ev _ (partL_isB 1 n (docL_isB did ds))) (Ev.const (specFour _ hs.1 hs.2) (Ev.ite_pos ?_ (Ev.now _))))))
 ·show (putL (partL 1 n (docL did ds)).length).length + (partL 1 n (docL did ds)).length < _
  omega
 ·show ((putL (partL 1 n (docL did ds)).length) ++ (partL 1 n (docL did ds))).length + 4 < _
  rw [ul]
  omega
theorem specBytes_del (n : Nat) (hn : n ≤ 4611686018427387903) (id did : ByteArray) (ds : List S84) (hid : id.size ≤ 1048576) :
  Ev (fun k => z1k.f k 2 (n : Int) id did ds) (recL (partL 2 n (bytesOf id))) := by
 have hp := putL_len n (by omega)
 have hbl := bytesOf_length id
 have hpl : (partL 2 n (bytesOf id)).length = 1 + (putL n).length + (bytesOf id).length := by simp only [partL, ul, List.length_singleton]
 have hp2 := putL_len (partL 2 n (bytesOf id)).length (by omega)
 have hs := sumL_lt (partL 2 n (bytesOf id))
 refine Ev.some_bind (Ev.bind (l03Put n (by omega)) (Ev.ite_pos (by simp only [List.length_singleton]; omega) (Ev.some_bind (Ev.ite_neg (by decide) (Ev.ite_pos (by simp only [ul, List.length_singleton]; omega) (Ev.some_bind ?_))))))
 refine Ev.bind (l03Put (partL 2 n (bytesOf id)).length (by omega)) (Ev.ite_pos ?_ (Ev.some_bind (Ev.bind (specSum_ev _ (partL_isB 2 n (bytesOf_isB id))) (Ev.const (specFour _ hs.1 hs.2) (Ev.ite_pos ?_ (Ev.now _))))))
 ·show (putL (partL 2 n (bytesOf id)).length).length + (partL 2 n (bytesOf id)).length < _
  omega
 ·show ((putL (partL 2 n (bytesOf id)).length) ++ (partL 2 n (bytesOf id))).length + 4 < _
  rw [ul]
  omega
end Go.Proofs.Ytndjodgcemgpfaa.Q
end
section
namespace Go.Proofs.Ytndjodgcemgpfaa.Q
open Go.RowKit Go.Proofs.YtndjodgcemgpfaaW.PrintWords Go.Proofs.YtndjodgcemgpfaaW.PrintLast Go.Proofs.YtndjodgcemgpfaaW.PrintMore
attribute [local go_sem] max2_int min2_int max_two min_two max_three min_three max_four min_four
def z1q (w0 W : World) (g : Nat) (f0 : List Int) (f1 : Int) (f2 : Bool) : Prop := ∃ A0 c0, W.heap[g]? = some (.cells #[.slice A0 f0.length c0, .int .i64 f1, .bool f2] 92 (0, 0)) ∧ w0.heap.size ≤ g ∧ Kd.C (Kd.int .u8) w0 A0 f0.length f0 ∧ f0.length ≤ c0
theorem z1q.grown {w0 W : World} {g : Nat} {f0 : List Int} {f1 : Int} {f2 : Bool} {W1 : World} {row : Option Nat} (h : z1q w0 W g f0 f1 f2) (hw : W.grownBy W1 row) (hne : some g ≠ row) : z1q w0 W1 g f0 f1 f2 := by
 obtain ⟨A0, c0, hb, hg, hr0, hz0⟩ := h
 exact ⟨A0, c0, zf hb hw hne, hg, hr0, hz0⟩
theorem z1q.kept {w0 W : World} {g : Nat} {f0 : List Int} {f1 : Int} {f2 : Bool} {W1 : World} {S : Nat → Prop} (h : z1q w0 W g f0 f1 f2) (hk : Kept W W1 S) (hne : ¬ S g) : z1q w0 W1 g f0 f1 f2 := by
 obtain ⟨A0, c0, hb, hg, hr0, hz0⟩ := h
 exact ⟨A0, c0, blk_kept hb hk hne, hg, hr0, hz0⟩
theorem z1q.below {w0 W : World} {g : Nat} {f0 : List Int} {f1 : Int} {f2 : Bool} {W1 : World} (h : z1q w0 W g f0 f1 f2) (hw : Below W.heap.size W W1) : z1q w0 W1 g f0 f1 f2 := h.grown (grown_of_below hw none) (by simp)
theorem z1q.alloc {w0 W : World} {g : Nat} {f0 : List Int} {f1 : Int} {f2 : Bool} (h : z1q w0 W g f0 f1 f2) (o : Obj) : z1q w0 (W.alloc o) g f0 f1 f2 := h.below (z2 (Below.refl _ _) o)
theorem z1q.drewN {w0 W : World} {g : Nat} {f0 : List Int} {f1 : Int} {f2 : Bool} (h : z1q w0 W g f0 f1 f2) (m : Nat) : z1q w0 (W.drewN m) g f0 f1 f2 := h
theorem z1q.drew {w0 W : World} {g : Nat} {f0 : List Int} {f1 : Int} {f2 : Bool} (h : z1q w0 W g f0 f1 f2) : z1q w0 W.drew g f0 f1 f2 := h
theorem z1q.at_ {w0 W : World} {g : Nat} {f0 : List Int} {f1 : Int} {f2 : Bool} {w' : World} {m : Nat} (hq : W.drewN m = w') (h : z1q w0 W g f0 f1 f2) : z1q w0 w' g f0 f1 f2 := by subst hq; exact z1q.drewN h m
theorem z1q.apart {w0 W : World} {g : Nat} {f0 : List Int} {f1 : Int} {f2 : Bool} {α : Type} {d : Kd α} {e : Nat} {base : Nat} {ok : Nat → Prop} {v : Value} {xs : List α} (h : z1q w0 W g f0 f1 f2) (ho : d.R e W base ok v xs) (ht : ∀ q, q ∈ e :: d.E → q ≠ 92) : d.R e W base (fun k => ok k ∧ k ≠ g) v xs := by
 obtain ⟨A0, c0, hb, hg, hr0, hz0⟩ := h
 exact Kd.R_types ho hb ht
theorem z1q.own_ne {w0 W : World} {g : Nat} {f0 : List Int} {f1 : Int} {f2 : Bool} {α : Type} {d : Kd α} {e : Nat} {base : Nat} {ok : Nat → Prop} {v : Value} {xs : List α} (h : z1q w0 W g f0 f1 f2) (ho : d.R e W base ok v xs) (ht : e ≠ 92) : some g ≠ v.ownBlock := by
 obtain ⟨A0, c0, hb, hg, hr0, hz0⟩ := h
 exact Kd.R_ne ho hb ht
theorem z1q.apartS {w0 W : World} {g : Nat} {f0 : List Int} {f1 : Int} {f2 : Bool} {α : Type} {d : Kd α} {e : Nat} {base : Nat} {ok : Nat → Prop} {v : Value} {xs : List α} (h : z1q w0 W g f0 f1 f2) (ho : d.S e W base ok v xs) (ht : ∀ q, q ∈ e :: d.E → q ≠ 92) : d.S e W base (fun k => ok k ∧ k ≠ g) v xs := by
 obtain ⟨A0, c0, hb, hg, hr0, hz0⟩ := h
 exact Kd.S_types ho hb ht
theorem z1q.own_neS {w0 W : World} {g : Nat} {f0 : List Int} {f1 : Int} {f2 : Bool} {α : Type} {d : Kd α} {e : Nat} {base : Nat} {ok : Nat → Prop} {v : Value} {xs : List α} (h : z1q w0 W g f0 f1 f2) (ho : d.S e W base ok v xs) (ht : e ≠ 92) : some g ≠ v.ownBlock := by
 obtain ⟨A0, c0, hb, hg, hr0, hz0⟩ := h
 exact Kd.S_ne ho hb ht
theorem z1q.lt {w0 W : World} {g : Nat} {f0 : List Int} {f1 : Int} {f2 : Bool} (h : z1q w0 W g f0 f1 f2) : g < W.heap.size := by
 obtain ⟨A0, c0, hb, hg, hr0, hz0⟩ := h
 exact zg hb
theorem z1q.ge {w0 W : World} {g : Nat} {f0 : List Int} {f1 : Int} {f2 : Bool} (h : z1q w0 W g f0 f1 f2) : w0.heap.size ≤ g := by
 obtain ⟨A0, c0, hb, hg, hr0, hz0⟩ := h
 exact hg
theorem z1q.far {w0 W : World} {g : Nat} {f0 : List Int} {f1 : Int} {f2 : Bool} {p : Addr} (h : z1q w0 W g f0 f1 f2) (hne : g ≠ p.block) (u : Value) : z1q w0 (W.setCell p u) g f0 f1 f2 := by
 obtain ⟨A0, c0, hb, hg, hr0, hz0⟩ := h
 exact ⟨A0, c0, ze hb hne u, hg, hr0, hz0⟩
theorem cellS92_0 {W : World} {g : Nat} {A0 : Option Addr} {c0 : Nat} {f0 : List Int} {f1 : Int} {f2 : Bool} (h : W.heap[g]? = some (.cells #[.slice A0 f0.length c0, .int .i64 f1, .bool f2] 92 (0, 0))) : W.cell? ⟨g, 0, none⟩ = some (.slice A0 f0.length c0) := (z6 h 0).trans rfl
theorem cellS92_1 {W : World} {g : Nat} {A0 : Option Addr} {c0 : Nat} {f0 : List Int} {f1 : Int} {f2 : Bool} (h : W.heap[g]? = some (.cells #[.slice A0 f0.length c0, .int .i64 f1, .bool f2] 92 (0, 0))) : W.cell? ⟨g, 1, none⟩ = some (.int .i64 f1) := (z6 h 1).trans rfl
theorem z1q.set_1 {w0 W : World} {g : Nat} {f0 : List Int} {f1 : Int} {f2 : Bool} (h : z1q w0 W g f0 f1 f2) (x : Int) : z1q w0 (W.setCell ⟨g, 1, none⟩ (.int .i64 x)) g f0 x f2 := by
 obtain ⟨A0, c0, hb, hg, hr0, hz0⟩ := h
 exact ⟨A0, c0, by simpa using blk_set hb 1 (.int .i64 x), hg, hr0, hz0⟩
theorem cellS92_2 {W : World} {g : Nat} {A0 : Option Addr} {c0 : Nat} {f0 : List Int} {f1 : Int} {f2 : Bool} (h : W.heap[g]? = some (.cells #[.slice A0 f0.length c0, .int .i64 f1, .bool f2] 92 (0, 0))) : W.cell? ⟨g, 2, none⟩ = some (.bool f2) := (z6 h 2).trans rfl
theorem z1q.set_2 {w0 W : World} {g : Nat} {f0 : List Int} {f1 : Int} {f2 : Bool} (h : z1q w0 W g f0 f1 f2) (x : Bool) : z1q w0 (W.setCell ⟨g, 2, none⟩ (.bool x)) g f0 f1 x := by
 obtain ⟨A0, c0, hb, hg, hr0, hz0⟩ := h
 exact ⟨A0, c0, by simpa using blk_set hb 2 (.bool x), hg, hr0, hz0⟩
theorem z1q.new (w0 W : World) (A0 : Option Addr) (c0 : Nat) (f0 : List Int) (f1 : Int) (f2 : Bool) (hB : Below w0.heap.size w0 W) (hr0 : Kd.C (Kd.int .u8) w0 A0 f0.length f0) (hz0 : f0.length ≤ c0) : z1q w0 (W.alloc (.cells #[.slice A0 f0.length c0, .int .i64 f1, .bool f2] 92)) W.heap.size f0 f1 f2 := ⟨A0, c0, by simpa using heap_alloc_new W _, hB.size, hr0, hz0⟩
mutual
def z15.l0 : Nat → List Int → Int → Int → Int → Int → Option (Int × Int × Bool)
 | 0, _, _, _, _, _ => none
 | k + 1, x0, x1, x7, x8, x9 => if x9 < 9 then (z15.j1 k x0 x1 x7 x8 x9 (decide ((wrap64 (x1 + x9)) < (x0.length : Int)))) else (z15.j1 k x0 x1 x7 x8 x9 false)
def z15.j1 : Nat → List Int → Int → Int → Int → Int → Bool → Option (Int × Int × Bool)
 | 0, _, _, _, _, _, _ => none
 | k + 1, x0, x1, x7, x8, x9, x20 => if x20 = true then (if 0 ≤ (wrap64 (x1 + x9)) then (if (wrap64 (x1 + x9)) < (x0.length : Int) then (if x9 = 8 then (z15.j2 k x0 x1 x7 x8 x9 (wrap64 (rd x0 (wrap64 (x1 + x9)))) (decide ((wrap64 (rd x0 (wrap64 (x1 + x9)))) > 63))) else (z15.j2 k x0 x1 x7 x8 x9 (wrap64 (rd x0 (wrap64 (x1 + x9)))) false)) else (none)) else (none)) else (some (0, 0, false))
def z15.j2 : Nat → List Int → Int → Int → Int → Int → Int → Bool → Option (Int × Int × Bool)
 | 0, _, _, _, _, _, _, _ => none
 | k + 1, x0, x1, x7, x8, x9, x10, x35 => if x35 = true then (some (0, 0, false)) else (if x10 < 128 then (if x9 = 0 then (some (wrap64 (x7 + (wrap64 ((Int.tmod x10 128) * x8))), wrap64 ((wrap64 (x1 + x9)) + 1), true)) else (some (wrap64 (x7 + (wrap64 ((Int.tmod x10 128) * x8))), wrap64 ((wrap64 (x1 + x9)) + 1), decide (x10 > 0)))) else (if x9 < 8 then (z15.l0 k x0 x1 (wrap64 (x7 + (wrap64 ((Int.tmod x10 128) * x8)))) (wrap64 (x8 * 128)) (wrap64 (x9 + 1))) else (z15.l0 k x0 x1 (wrap64 (x7 + (wrap64 ((Int.tmod x10 128) * x8)))) x8 (wrap64 (x9 + 1)))))
end
def z15.f (k : Nat) (l0 : List Int) (a1 : Int) : Option (Int × Int × Bool) := z15.l0 k l0 a1 0 1 0
set_option maxHeartbeats 8000000 in
set_option maxRecDepth 100000 in
theorem z15.calls (k : Nat) (A0 : Option Addr) (c0 : Nat) (l0 : List Int) (a1 : Int) (r1 : Int) (r2 : Int) (r3 : Bool) (w : World) (hr0 : Kd.C (Kd.int .u8) w A0 l0.length l0) (hc0 : l0.length ≤ c0) (h : z15.f k l0 a1 = some (r1, r2, r3)) :
  Calls Try.prog 119 #[.slice A0 l0.length c0, .int .i64 a1] w fun e w' => e = .returned (.tuple #[.int .i64 r1, .int .i64 r2, .bool r3]) ∧ Drawn0 w w' := by
 have HR0 := z1o.mk hr0
 have HC0 := z1o.mk hc0
 clear hr0 hc0
 have H : (z15.l0 k l0 a1 0 1 0) = some (r1, r2, r3) := h
 clear h
 have H' := z1o.mk H
 clear H
 go_enter Try.func119, Try.ntmps119
 go_wp2
 go_loopg [7, 8, 9] k (fun kq v7 v8 v9 w' => ∃ (x7_1 : Int) (x8_1 : Int) (x9_1 : Int), v7 = .int .i64 x7_1 ∧ v8 = .int .i64 x8_1 ∧ v9 = .int .i64 x9_1 ∧ z1o (z15.l0 kq l0 a1 x7_1 x8_1 x9_1 = some (r1, r2, r3)) ∧ z1o (kq ≤ k) ∧ Drawn0 w w')
 case atStart => exact ⟨(0), (1), (0), (by first | rfl | (simp; done) | (simp [*]; done)), (by first | rfl | (simp; done) | (simp [*]; done)), (by first | rfl | (simp; done) | (simp [*]; done)), H', ⟨um _⟩, yb⟩
 case round =>
  clear H'
  try clear c1
  try clear p2
  obtain ⟨x7_1, x8_1, x9_1, rfl, rfl, rfl, HA, HK1, ⟨m1, rfl⟩⟩ := hrel
  cases gk with
  | zero => exact absurd HA.out (by simp [z15.l0])
  | succ k1 =>
   have H := HA.out
   clear HA
   simp only [z15.l0] at H
   have HC3 := z1o.mk H
   clear H
   go_upto_region 4 with (fail)
   go_cut [20] (fun v20 wc => ∃ (kq : Nat) (x20_2 : Bool), v20 = .bool x20_2 ∧ z1o (z15.j1 kq l0 a1 x7_1 x8_1 x9_1 x20_2 = some (r1, r2, r3)) ∧ z1o (kq ≤ k1) ∧ Drawn0 w wc)
   case first =>
    have H := HC3.out
    clear HC3
    by_cases c4 : x9_1 < 9
    ·rw [if_pos c4] at H
     have c4b0 : decide (x9_1 < 9) = true := decide_eq_true c4
     clear c4
     (first | rw [c4b0] | (simp only [zn, zo]; rw [c4b0]) | skip)
     have H' := z1o.mk H
     clear H
     go_wp2
     go_meet
     case rel => exact ⟨_, (decide ((wrap64 (a1 + x9_1)) < (l0.length : Int))), (by first | rfl | (simp; done) | (simp [*]; done)), H', ⟨by have := HK1.out; first | omega | exact um _⟩, yb⟩
    ·rw [if_neg c4] at H
     have c4b0 : decide (x9_1 < 9) = false := decide_eq_false c4
     clear c4
     (first | rw [c4b0] | (simp only [zn, zo]; rw [c4b0]) | skip)
     have H' := z1o.mk H
     clear H
     go_wp2
     go_meet
     case rel => exact ⟨_, (false), (by first | rfl | (simp; done) | (simp [*]; done)), H', ⟨by have := HK1.out; first | omega | exact um _⟩, yb⟩
   case rest =>
    clear HC3
    try clear c1
    try clear p2
    try clear c4
    try clear c4b0
    try clear p2
    obtain ⟨kq, x20_2, rfl, HA, HJ2, ⟨mc2, rfl⟩⟩ := hcut
    cases kq with
    | zero => exact absurd HA.out (by simp [z15.j1])
    | succ kj2 =>
     have H := HA.out
     clear HA
     simp only [z15.j1] at H
     by_cases c5 : x20_2 = true
     ·subst c5
      have H1 : (if 0 ≤ (wrap64 (a1 + x9_1)) then (if (wrap64 (a1 + x9_1)) < (l0.length : Int) then (if x9_1 = 8 then (z15.j2 kj2 l0 a1 x7_1 x8_1 x9_1 (wrap64 (rd l0 (wrap64 (a1 + x9_1)))) (decide ((wrap64 (rd l0 (wrap64 (a1 + x9_1)))) > 63))) else (z15.j2 kj2 l0 a1 x7_1 x8_1 x9_1 (wrap64 (rd l0 (wrap64 (a1 + x9_1)))) false)) else (none)) else (none)) = some (r1, r2, r3) := by rw [if_pos rfl] at H; exact H
      clear H
      have H := H1
      clear H1
      obtain ⟨ji6, hji6⟩ : ∃ j_ : Int, (wrap64 (a1 + x9_1)) = j_ := ⟨_, rfl⟩
      replace H : (if 0 ≤ (ji6) then (if (ji6) < (l0.length : Int) then (if x9_1 = 8 then (z15.j2 kj2 l0 a1 x7_1 x8_1 x9_1 (wrap64 (rd l0 (ji6))) (decide ((wrap64 (rd l0 (ji6))) > 63))) else (z15.j2 kj2 l0 a1 x7_1 x8_1 x9_1 (wrap64 (rd l0 (ji6))) false)) else (none)) else (none)) = some (r1, r2, r3) := by first | (rw [hji6] at H; exact H) | (simp only [hji6] at H ⊢; exact H)
      have hji6w : (IntKind.i64.wrap (a1 + x9_1)) = ji6 := (zn _).trans hji6
      by_cases c7 : 0 ≤ (ji6)
      ·rw [if_pos c7] at H
       have c7b0 : decide (0 ≤ (ji6)) = true := decide_eq_true c7
       clear c7
       by_cases c8 : (ji6) < (l0.length : Int)
       ·rw [if_pos c8] at H
        have c8b0 : decide ((ji6) < (l0.length : Int)) = true := decide_eq_true c8
        clear c8
        have HC9 := z1o.mk H
        clear H
        have p328 : 0 ≤ ((ji6) : Int) := of_decide_eq_true (by first | (with_reducible assumption) | assumption)
        have q328 : (ji6) < (l0.length : Int) := of_decide_eq_true (by first | (with_reducible assumption) | assumption)
        obtain ⟨ad328, e328, hx328_0⟩ := Kd.at_int HR0.out (ji6) p328 q328
        cases e328
        replace p328 := eq_true p328
        replace q328 := eq_true q328
        go_upto_region 7 with (fail)
        go_cut [35] (fun v35 wc => ∃ (kq : Nat) (x35_8 : Bool), v35 = .bool x35_8 ∧ z1o (z15.j2 kq l0 a1 x7_1 x8_1 x9_1 (wrap64 (rd l0 (ji6))) x35_8 = some (r1, r2, r3)) ∧ z1o (kq ≤ kj2) ∧ Drawn0 w wc)
        case first =>
         have H := HC9.out
         clear HC9
         by_cases c10 : x9_1 = 8
         ·rw [if_pos c10] at H
          have c10b0 : (x9_1 == 8) = true := beq_iff_eq.mpr c10
          have c10b1 : (x9_1 != 8) = false := bne_eq_false_iff_eq.mpr c10
          clear c10
          (first | rw [c10b0] | (simp only [zn, zo]; rw [c10b0]) | skip)
          have H' := z1o.mk H
          clear H
          go_wp2
          go_meet
          case rel => exact ⟨_, (decide ((wrap64 (rd l0 (ji6))) > 63)), (by first | rfl | (simp; done) | (simp only [← hji6] <;> (first | rfl | simp)) | (simp [*]; done)), H', ⟨by have := HK1.out; have := HJ2.out; first | omega | exact um _⟩, yb⟩
         ·rw [if_neg c10] at H
          have c10b0 : (x9_1 == 8) = false := beq_eq_false_iff_ne.mpr c10
          have c10b1 : (x9_1 != 8) = true := bne_iff_ne.mpr c10
          (first | rw [c10b0] | (simp only [zn, zo]; rw [c10b0]) | skip)
          have H' := z1o.mk H
          clear H
          go_wp2
          go_meet
          case rel => exact ⟨_, (false), (by first | rfl | (simp; done) | (simp [*]; done)), H', ⟨by have := HK1.out; have := HJ2.out; first | omega | exact um _⟩, yb⟩
        case rest =>
         clear HC9
         try clear c1
         try clear c2
         try clear p2
         try clear p3
         try clear q3
         try clear hx3
         try clear c4
         try clear c4b0
         try clear c5
         try clear p6
         try clear c7
         try clear c7b0
         try clear c8
         try clear c8b0
         try clear c10
         try clear c10b0
         try clear c10b1
         try clear hx328_0
         try clear p2
         try clear p328
         try clear q328
         obtain ⟨kq, x35_8, rfl, HA, HJ8, ⟨mc8, rfl⟩⟩ := hcut
         cases kq with
         | zero => exact absurd HA.out (by simp [z15.j2])
         | succ kj8 =>
          have H := HA.out
          clear HA
          simp only [z15.j2] at H
          by_cases c11 : x35_8 = true
          ·subst c11
           have H1 : (some (0, 0, false)) = some (r1, r2, r3) := by rw [if_pos rfl] at H; exact H
           clear H
           have H := H1
           clear H1
           simp only [Option.some.injEq, Prod.mk.injEq] at H
           obtain ⟨rfl, rfl, rfl⟩ := H
           go_wp2
           go_ret3
           exact ⟨by first | rfl | (simp; done) | (simp only [← hji6] <;> (first | rfl | simp)) | (simp [*]; done), yb⟩
          ·replace c11 := Bool.eq_false_iff.mpr c11
           subst c11
           have H1 : (if (wrap64 (rd l0 (ji6))) < 128 then (if x9_1 = 0 then (some (wrap64 (x7_1 + (wrap64 ((Int.tmod (wrap64 (rd l0 (ji6))) 128) * x8_1))), wrap64 ((wrap64 (a1 + x9_1)) + 1), true)) else (some (wrap64 (x7_1 + (wrap64 ((Int.tmod (wrap64 (rd l0 (ji6))) 128) * x8_1))), wrap64 ((wrap64 (a1 + x9_1)) + 1), decide ((wrap64 (rd l0 (ji6))) > 0)))) else (if x9_1 < 8 then (z15.l0 kj8 l0 a1 (wrap64 (x7_1 + (wrap64 ((Int.tmod (wrap64 (rd l0 (ji6))) 128) * x8_1)))) (wrap64 (x8_1 * 128)) (wrap64 (x9_1 + 1))) else (z15.l0 kj8 l0 a1 (wrap64 (x7_1 + (wrap64 ((Int.tmod (wrap64 (rd l0 (ji6))) 128) * x8_1)))) x8_1 (wrap64 (x9_1 + 1))))) = some (r1, r2, r3) := by rw [if_neg (show ¬ (false = true) by decide)] at H; exact H
           clear H
           have H := H1
           clear H1
           by_cases c12 : (wrap64 (rd l0 (ji6))) < 128
           ·rw [if_pos c12] at H
            have c12b0 : decide ((wrap64 (rd l0 (ji6))) < 128) = true := decide_eq_true c12
            clear c12
            by_cases c13 : x9_1 = 0
            ·rw [if_pos c13] at H
             have c13b0 : (x9_1 == 0) = true := beq_iff_eq.mpr c13
             have c13b1 : (x9_1 != 0) = false := bne_eq_false_iff_eq.mpr c13
             clear c13
             simp only [Option.some.injEq, Prod.mk.injEq] at H
             obtain ⟨rfl, rfl, rfl⟩ := H
             go_wp2
             go_ret3
             exact ⟨by first | rfl | (simp; done) | (simp only [← hji6] <;> (first | rfl | simp)) | (simp [*]; done), yb⟩
            ·rw [if_neg c13] at H
             have c13b0 : (x9_1 == 0) = false := beq_eq_false_iff_ne.mpr c13
             have c13b1 : (x9_1 != 0) = true := bne_iff_ne.mpr c13
             simp only [Option.some.injEq, Prod.mk.injEq] at H
             obtain ⟨rfl, rfl, rfl⟩ := H
             go_wp2
             go_ret3
             exact ⟨by first | rfl | (simp; done) | (simp only [← hji6] <;> (first | rfl | simp)) | (simp [*]; done), yb⟩
           ·rw [if_neg c12] at H
            have c12b0 : decide ((wrap64 (rd l0 (ji6))) < 128) = false := decide_eq_false c12
            clear c12
            by_cases c14 : x9_1 < 8
            ·rw [if_pos c14] at H
             have c14b0 : decide (x9_1 < 8) = true := decide_eq_true c14
             clear c14
             have H' := z1o.mk H
             clear H
             go_wp2
             go_roundg kj8
             case measure => have := HK1.out; have := HJ2.out; have := HJ8.out; omega
             case rel => exact ⟨(wrap64 (x7_1 + (wrap64 ((Int.tmod (wrap64 (rd l0 (ji6))) 128) * x8_1)))), (wrap64 (x8_1 * 128)), (wrap64 (x9_1 + 1)), (by first | rfl | (simp; done) | (simp only [← hji6] <;> (first | rfl | simp)) | (simp [*]; done)), (by first | rfl | (simp; done) | (simp [*]; done)), (by first | rfl | (simp; done) | (simp [*]; done)), H', ⟨by have := HK1.out; have := HJ2.out; have := HJ8.out; omega⟩, yb⟩
            ·rw [if_neg c14] at H
             have c14b0 : decide (x9_1 < 8) = false := decide_eq_false c14
             clear c14
             have H' := z1o.mk H
             clear H
             go_wp2
             go_roundg kj8
             case measure => have := HK1.out; have := HJ2.out; have := HJ8.out; omega
             case rel => exact ⟨(wrap64 (x7_1 + (wrap64 ((Int.tmod (wrap64 (rd l0 (ji6))) 128) * x8_1)))), (x8_1), (wrap64 (x9_1 + 1)), (by first | rfl | (simp; done) | (simp only [← hji6] <;> (first | rfl | simp)) | (simp [*]; done)), (by first | rfl | (simp; done) | (simp [*]; done)), (by first | rfl | (simp; done) | (simp [*]; done)), H', ⟨by have := HK1.out; have := HJ2.out; have := HJ8.out; omega⟩, yb⟩
       ·rw [if_neg c8] at H
        exact absurd H (by simp)
      ·rw [if_neg c7] at H
       exact absurd H (by simp)
     ·replace c5 := Bool.eq_false_iff.mpr c5
      subst c5
      have H1 : (some (0, 0, false)) = some (r1, r2, r3) := by rw [if_neg (show ¬ (false = true) by decide)] at H; exact H
      clear H
      have H := H1
      clear H1
      simp only [Option.some.injEq, Prod.mk.injEq] at H
      obtain ⟨rfl, rfl, rfl⟩ := H
      go_wp2
      go_ret3
      exact ⟨by first | rfl | (simp; done) | (simp [*]; done), yb⟩
end Go.Proofs.Ytndjodgcemgpfaa.Q
end
section
namespace Go.Proofs.Ytndjodgcemgpfaa.Q
open Go.RowKit Go.Proofs.YtndjodgcemgpfaaW.PrintWords Go.Proofs.YtndjodgcemgpfaaW.PrintLast Go.Proofs.YtndjodgcemgpfaaW.PrintMore
def z1h.f (k : Nat) (s0_0 : List Int) (s0_1 : Int) (s0_2 : Bool) : Option (Int × Int × Bool) := if s0_2 = true then some (0, s0_1, true) else (z15.f k s0_0 s0_1).bind fun t => if t.2.2 = true then some (t.1, t.2.1, false) else some (0, s0_1, true)
theorem l03Get_quiet (k : Nat) (A0 : Option Addr) (c0 : Nat) (l0 : List Int) (a1 : Int) (r1 : Int) (r2 : Int) (r3 : Bool) (w : World) (n : Nat) (hr0 : Kd.C (Kd.int .u8) w A0 l0.length l0) (hc0 : l0.length ≤ c0) (h : z15.f k l0 a1 = some (r1, r2, r3)) :
  Calls Try.prog 119 #[.slice A0 l0.length c0, .int .i64 a1] (w.drewN n) fun e w'' => e = .returned (.tuple #[.int .i64 r1, .int .i64 r2, .bool r3]) ∧ ∃ m, w'' = w.drewN m := by
 refine Calls.quiet_of ((z15.calls k A0 c0 l0 a1 r1 r2 r3 _ (Kd.C_drewN hr0 _) hc0 h).mono ?_)
 rintro e w' ⟨rfl, ⟨nd, rfl⟩⟩
 exact ⟨rfl, nd, rfl⟩
set_option maxHeartbeats 8000000 in
set_option maxRecDepth 100000 in
theorem z1h.calls (k : Nat) (g : Nat) (s0_0 : List Int) (s0_1 : Int) (s0_2 : Bool) (r1 : Int) (r2 : Int) (r3 : Bool) (w0 w : World) (hI : z1q w0 w g s0_0 s0_1 s0_2) (hB : Below w0.heap.size w0 w) (h : z1h.f k s0_0 s0_1 s0_2 = some (r1, r2, r3)) :
  Calls Try.prog 125 #[.pointer (some ⟨g, 0, none⟩)] w fun e w' => e = .returned (.int .i64 r1) ∧ z1q w0 w' g s0_0 r2 r3 ∧ Below w0.heap.size w0 w' ∧ z1r w w' g none := by
 unfold z1h.f at h
 have HI := z1o.mk hI
 have HB := z1o.mk hB
 have HK := z1o.mk (z1r.refl w g none)
 obtain ⟨A0, c0, HG, hg, HR0, HZ0⟩ := hI
 have HR := z1o.mk HR0
 have HZ := z1o.mk HZ0
 have hc0 := cellS92_0 HG
 have hc1 := cellS92_1 HG
 have hc2 := cellS92_2 HG
 have hf := z5 HG
 clear HG hg hB HR0 HZ0
 cases s0_2 with
 | true =>
  rw [if_pos rfl] at h
  simp only [Option.some.injEq, Prod.mk.injEq] at h
  obtain ⟨rfl, rfl, rfl⟩ := h
  go_enter Try.func125, Try.ntmps125
  go_wp2_with fail
  go_ret
  exact ⟨rfl, y1m, y1k, y9⟩
 | false =>
  rw [if_neg (by simp)] at h
  obtain ⟨⟨t1, t2, t3⟩, h1, h⟩ := ue.mp h
  have H1 := z1o.mk h1
  clear h1
  cases t3 with
  | true =>
   replace h : some (t1, t2, false) = some (r1, r2, r3) := h
   simp only [Option.some.injEq, Prod.mk.injEq] at h
   obtain ⟨rfl, rfl, rfl⟩ := h
   go_enter Try.func125, Try.ntmps125
   go_wp2_with fail
   go_quiet (exact l03Get_quiet k A0 c0 s0_0 s0_1 t1 t2 true _ _ (Kd.C_below HR.out HB.out) HZ.out H1.out)
   go_wp2_with fail
   go_ret
   exact ⟨rfl, y1m, y1k, y9⟩
  | false =>
   replace h : some ((0 : Int), s0_1, true) = some (r1, r2, r3) := h
   simp only [Option.some.injEq, Prod.mk.injEq] at h
   obtain ⟨rfl, rfl, rfl⟩ := h
   go_enter Try.func125, Try.ntmps125
   go_wp2_with fail
   go_quiet (exact l03Get_quiet k A0 c0 s0_0 s0_1 t1 t2 false _ _ (Kd.C_below HR.out HB.out) HZ.out H1.out)
   go_wp2_with fail
   go_ret
   exact ⟨rfl, y1m, y1k, y9⟩
def z1i.f (k : Nat) (s0_0 : List Int) (s0_1 : Int) (s0_2 : Bool) : Option (ByteArray × Int × Bool) := (z1h.f k s0_0 s0_1 s0_2).bind fun t => if t.2.2 = true then some (ByteArray.empty, t.2.1, true) else if t.1 > wrap64 ((s0_0.length : Int) - t.2.1) then some (ByteArray.empty, t.2.1, true) else if t.1 > 65536 then some (ByteArray.empty, t.2.1, true) else if 0 ≤ wrap64 (wrap64 (t.2.1 + t.1) - t.1) ∧ wrap64 (wrap64 (t.2.1 + t.1) - t.1) ≤ wrap64 (t.2.1 + t.1) ∧ wrap64 (t.2.1 + t.1) ≤ (s0_0.length : Int) then some (strOfNums ((s0_0.take (wrap64 (t.2.1 + t.1)).toNat).drop (wrap64 (wrap64 (t.2.1 + t.1) - t.1)).toNat), wrap64 (t.2.1 + t.1), false) else none
set_option maxHeartbeats 8000000 in
set_option maxRecDepth 100000 in
theorem z1i.calls (k : Nat) (g : Nat) (s0_0 : List Int) (s0_1 : Int) (s0_2 : Bool) (r1 : ByteArray) (r2 : Int) (r3 : Bool) (w0 w : World) (hI : z1q w0 w g s0_0 s0_1 s0_2) (hB : Below w0.heap.size w0 w) (h : z1i.f k s0_0 s0_1 s0_2 = some (r1, r2, r3)) :
  Calls Try.prog 96 #[.pointer (some ⟨g, 0, none⟩)] w fun e w' => e = .returned (.string r1) ∧ z1q w0 w' g s0_0 r2 r3 ∧ Below w0.heap.size w0 w' ∧ z1r w w' g none := by
 have HI0 := z1o.mk hI
 have HB0 := z1o.mk hB
 clear hI hB
 unfold z1i.f at h
 obtain ⟨⟨t1, t2, t3⟩, h1, h⟩ := ue.mp h
 have H1 := z1o.mk h1
 clear h1
 have H := z1o.mk h
 clear h
 go_enter Try.func96, Try.ntmps96
 go_wp2_with fail
 go_at_call 125
 refine (z1h.calls k g s0_0 s0_1 s0_2 t1 t2 t3 w0 _ HI0.out HB0.out H1.out).mono ?_
 rintro e w1 ⟨rfl, hI, hB, hK⟩
 have HK := z1o.mk hK
 clear HI0 HB0 H1 hK
 have HI := z1o.mk hI
 have HB := z1o.mk hB
 obtain ⟨A0, c0, HG, hg, HR0, HZ0⟩ := hI
 have HR := z1o.mk HR0
 have HZ := z1o.mk HZ0
 have hc0 := cellS92_0 HG
 have hc1 := cellS92_1 HG
 have hc2 := cellS92_2 HG
 have hf := z5 HG
 clear HG hg hB HR0 HZ0
 have h := H.out
 clear H
 cases t3 with
 | true =>
  replace h : some (ByteArray.empty, t2, true) = some (r1, r2, r3) := h
  simp only [Option.some.injEq, Prod.mk.injEq] at h
  obtain ⟨rfl, rfl, rfl⟩ := h
  go_wp2_with fail
  go_quiet (fail)
  go_wp2_with fail
  go_ret
  exact ⟨rfl, y1m, y1k, y9⟩
 | false =>
  replace h : (if t1 > wrap64 ((s0_0.length : Int) - t2) then some (ByteArray.empty, t2, true) else if t1 > 65536 then some (ByteArray.empty, t2, true) else if 0 ≤ wrap64 (wrap64 (t2 + t1) - t1) ∧ wrap64 (wrap64 (t2 + t1) - t1) ≤ wrap64 (t2 + t1) ∧ wrap64 (t2 + t1) ≤ (s0_0.length : Int) then some (strOfNums ((s0_0.take (wrap64 (t2 + t1)).toNat).drop (wrap64 (wrap64 (t2 + t1) - t1)).toNat), wrap64 (t2 + t1), false) else none) = some (r1, r2, r3) := h
  by_cases k1 : t1 > wrap64 ((s0_0.length : Int) - t2)
  ·rw [if_pos k1] at h
   have k1' : decide (wrap64 ((s0_0.length : Int) - t2) < t1) = true := decide_eq_true k1
   clear k1
   simp only [Option.some.injEq, Prod.mk.injEq] at h
   obtain ⟨rfl, rfl, rfl⟩ := h
   go_wp2_with fail
   go_quiet (fail)
   go_wp2_with fail
   go_ret
   exact ⟨rfl, y1m, y1k, y9⟩
  ·rw [if_neg k1] at h
   have k1' : decide (wrap64 ((s0_0.length : Int) - t2) < t1) = false := decide_eq_false k1
   clear k1
   by_cases k2 : t1 > 65536
   ·rw [if_pos k2] at h
    have k2' : decide (65536 < t1) = true := decide_eq_true k2
    clear k2
    simp only [Option.some.injEq, Prod.mk.injEq] at h
    obtain ⟨rfl, rfl, rfl⟩ := h
    go_wp2_with fail
    go_quiet (fail)
    go_wp2_with fail
    go_ret
    exact ⟨rfl, y1m, y1k, y9⟩
   ·rw [if_neg k2] at h
    have k2' : decide (65536 < t1) = false := decide_eq_false k2
    clear k2
    by_cases k3 : 0 ≤ wrap64 (wrap64 (t2 + t1) - t1) ∧ wrap64 (wrap64 (t2 + t1) - t1) ≤ wrap64 (t2 + t1) ∧ wrap64 (t2 + t1) ≤ (s0_0.length : Int)
    ·rw [if_pos k3] at h
     obtain ⟨a2, e1⟩ : ∃ a2, wrap64 (t2 + t1) = a2 := ⟨_, rfl⟩
     rw [e1] at k3 h
     obtain ⟨lo, e2⟩ : ∃ lo, wrap64 (a2 - t1) = lo := ⟨_, rfl⟩
     rw [e2] at k3 h
     obtain ⟨k3, k4, k5⟩ := k3
     obtain ⟨i0, hi0, _, hs0, _⟩ := info_parts info5
     have hcut := cut_mid (P := Try.prog) 26 5 .i64 .i64 Try.underlying26 hi0 1 hs0 A0 s0_0.length c0 _ _ k3 k4 k5 HZ.out
     have hC := Kd.C_mid (c := c0) HR.out (lo := lo.toNat) (hi := a2.toNat) (by omega) (by omega) HZ.out
     obtain ⟨ys, hys⟩ : ∃ ys, (s0_0.take a2.toNat).drop lo.toNat = ys := ⟨_, rfl⟩
     rw [hys] at hC h
     simp only [Option.some.injEq, Prod.mk.injEq] at h
     obtain ⟨rfl, rfl, rfl⟩ := h
     have hyl : a2.toNat - lo.toNat = ys.length := by rw [← hys, uf, ug]; omega
     obtain ⟨A1, hA1⟩ : ∃ A1, (if c0 = lo.toNat then A0 else A0.map (·.add (lo.toNat * 1))) = A1 := ⟨_, rfl⟩
     obtain ⟨c1, hc1'⟩ : ∃ c1, c0 - lo.toNat = c1 := ⟨_, rfl⟩
     rw [hA1, hc1', hyl] at hcut
     replace hC : Kd.C (Kd.int .u8) w0 A1 ys.length ys := hA1 ▸ hC
     have HCC := z1o.mk hC
     clear hC hA1 hc1' hyl hys hi0 hs0 k3 k4 k5
     go_wp2_with fail
     go_quiet (fail)
     go_wp2_with fail
     have hcv : ∀ n, (convert 26 9 (.slice A1 ys.length c1)).run Try.prog (((w1.drewN nq).setCell ⟨g, 1, none⟩ (.int .i64 a2)).drewN n) = .ok (.string (strOfNums ys)) (((w1.drewN nq).setCell ⟨g, 1, none⟩ (.int .i64 a2)).drewN n) := fun n => Kd.C_string Try.underlying26 Try.underlying5 Try.underlying9 (Kd.C_drewN (Kd.C_below HCC.out (z4 (z1 HB.out _) (z1q.ge HI.out))) n)
     go_quiet (fail)
     go_wp2_with fail
     go_ret
     exact ⟨rfl, y1m, y1k, y9⟩
    ·rw [if_neg k3] at h
     cases h
end Go.Proofs.Ytndjodgcemgpfaa.Q
end
section
namespace Go.Proofs.Ytndjodgcemgpfaa.Q
open Go.RowKit Go.Proofs.YtndjodgcemgpfaaW.PrintWords Go.Proofs.YtndjodgcemgpfaaW.PrintLast Go.Proofs.YtndjodgcemgpfaaW.PrintMore
attribute [local go_sem] max2_int min2_int max_two min_two max_three min_three max_four min_four
def spec_l06Reader_count.f (k : Nat) (s0_0 : List Int) (s0_1 : Int) (s0_2 : Bool) : Option (Int × Int × Bool) := (z1h.f k s0_0 s0_1 s0_2).bind fun bt329 => (if bt329.1 > 4096 then (some (0, bt329.2.1, true)) else (some (bt329.1, bt329.2.1, bt329.2.2)))
set_option maxHeartbeats 8000000 in
set_option maxRecDepth 100000 in
theorem spec_l06Reader_count.calls (k : Nat) (g : Nat) (s0_0 : List Int) (s0_1 : Int) (s0_2 : Bool) (r1 : Int) (r2 : Int) (r3 : Bool) (w0 w : World) (hI : z1q w0 w g s0_0 s0_1 s0_2) (hB : Below w0.heap.size w0 w) (h : spec_l06Reader_count.f k s0_0 s0_1 s0_2 = some (r1, r2, r3)) :
  Calls Try.prog 97 #[.pointer (some ⟨g, 0, none⟩)] w fun e w' => e = .returned (.int .i64 r1) ∧ z1q w0 w' g s0_0 r2 r3 ∧ Below w0.heap.size w0 w' ∧ z1r w w' g none := by
 have HI0 := z1o.mk hI
 have HK := z1o.mk (z1r.refl w g none)
 have HL := z1o.mk hB.size
 clear hI
 have HW0 := z1o.mk hB.size
 have HB := z1o.mk hB
 clear hB
 have H : ((z1h.f k s0_0 s0_1 s0_2).bind fun bt329 => (if bt329.1 > 4096 then (some (0, bt329.2.1, true)) else (some (bt329.1, bt329.2.1, bt329.2.2)))) = some (r1, r2, r3) := h
 clear h
 replace H := ue.mp H
 obtain ⟨⟨t329, t330, t331⟩, A20, H⟩ := H
 replace H : (if t329 > 4096 then (some (0, t330, true)) else (some (t329, t330, t331))) = some (r1, r2, r3) := H
 have A2 := z1o.mk A20
 clear A20
 by_cases c3 : t329 > 4096
 ·rw [if_pos c3] at H
  have c3b0 : decide (4096 < t329) = true := decide_eq_true c3
  clear c3
  simp only [Option.some.injEq, Prod.mk.injEq] at H
  obtain ⟨rfl, rfl, rfl⟩ := H
  go_enter Try.func97, Try.ntmps97
  go_wp2_with (first | ((with_reducible refine zp (f := 125) rfl ?_); refine goesL_ (some 5) rfl rfl Try.func125 (by kernel_rfl) rfl #[.pointer (some ⟨g, 0, none⟩)] rfl (by (try simp only [uh, ui, uj]); first | done | rfl | (simp only [uf, ug]; rfl)) ?_; (with_reducible refine (z1h.calls k g s0_0 s0_1 s0_2 t329 t330 t331 w0 _ ?side1 ?side2 A2.out).mono ?_); (case side1 => exact yr); (case side2 => exact yz); rintro e w4 ⟨rfl, hi, hb, hk⟩; refine ⟨_, rfl, ?_⟩; have n0_ := z1o.mk (z1r.trans y9 hk (.inl rfl)); have n1_ := z1o.mk (hb); have n2_ := z1o.mk (hi); clear HK; clear HB; clear HI0; have HK := n0_; have HB := n1_; have HI0 := n2_; clear n0_ n1_ n2_; (try clear hb); (try clear hb2); (try clear hk); (try clear hi); obtain ⟨ASz5_0, cSz5_0, HGz5, hgz5, HSz5_0, -⟩ := HI0.out; have hcz5_0 := cellS92_0 HGz5; have hcz5_1 := cellS92_1 HGz5; have hcz5_2 := cellS92_2 HGz5; have hfz5_1 := z5 HGz5 1; have hfz5_2 := z5 HGz5 2; clear HGz5 hgz5))
  go_ret
  exact ⟨by first | rfl | (simp [zm, zl] <;> rfl) | (simp [*, zm, zl] <;> rfl), yr, yz, y9⟩
 ·rw [if_neg c3] at H
  have c3b0 : decide (4096 < t329) = false := decide_eq_false c3
  clear c3
  simp only [Option.some.injEq, Prod.mk.injEq] at H
  obtain ⟨rfl, rfl, rfl⟩ := H
  go_enter Try.func97, Try.ntmps97
  go_wp2_with (first | ((with_reducible refine zp (f := 125) rfl ?_); refine goesL_ (some 5) rfl rfl Try.func125 (by kernel_rfl) rfl #[.pointer (some ⟨g, 0, none⟩)] rfl (by (try simp only [uh, ui, uj]); first | done | rfl | (simp only [uf, ug]; rfl)) ?_; (with_reducible refine (z1h.calls k g s0_0 s0_1 s0_2 t329 t330 t331 w0 _ ?side1 ?side2 A2.out).mono ?_); (case side1 => exact yr); (case side2 => exact yz); rintro e w6 ⟨rfl, hi, hb, hk⟩; refine ⟨_, rfl, ?_⟩; have n0_ := z1o.mk (z1r.trans y9 hk (.inl rfl)); have n1_ := z1o.mk (hb); have n2_ := z1o.mk (hi); clear HK; clear HB; clear HI0; have HK := n0_; have HB := n1_; have HI0 := n2_; clear n0_ n1_ n2_; (try clear hb); (try clear hb2); (try clear hk); (try clear hi)))
  go_ret
  exact ⟨by first | rfl | (simp [zm, zl] <;> rfl) | (simp [*, zm, zl] <;> rfl), yr, yz, y9⟩
def spec_l06Reader_number.f (k : Nat) (s0_0 : List Int) (s0_1 : Int) (s0_2 : Bool) : Option (Int × Int × Bool) := (z1h.f k s0_0 s0_1 s0_2).bind fun bt332 => (if bt332.1 > 2000000000000 then (some (0, bt332.2.1, true)) else (if (Int.tmod bt332.1 2) = 1 then (some (wrap64 (Int.tdiv (wrap64 (-(wrap64 (bt332.1 + 1)))) 2), bt332.2.1, bt332.2.2)) else (some (wrap64 (Int.tdiv bt332.1 2), bt332.2.1, bt332.2.2))))
set_option maxHeartbeats 8000000 in
set_option maxRecDepth 100000 in
theorem spec_l06Reader_number.calls (k : Nat) (g : Nat) (s0_0 : List Int) (s0_1 : Int) (s0_2 : Bool) (r1 : Int) (r2 : Int) (r3 : Bool) (w0 w : World) (hI : z1q w0 w g s0_0 s0_1 s0_2) (hB : Below w0.heap.size w0 w) (h : spec_l06Reader_number.f k s0_0 s0_1 s0_2 = some (r1, r2, r3)) :
  Calls Try.prog 98 #[.pointer (some ⟨g, 0, none⟩)] w fun e w' => e = .returned (.int .i64 r1) ∧ z1q w0 w' g s0_0 r2 r3 ∧ Below w0.heap.size w0 w' ∧ z1r w w' g none := by
 have HI0 := z1o.mk hI
 have HK := z1o.mk (z1r.refl w g none)
 have HL := z1o.mk hB.size
 clear hI
 have HW0 := z1o.mk hB.size
 have HB := z1o.mk hB
 clear hB
 have H : ((z1h.f k s0_0 s0_1 s0_2).bind fun bt332 => (if bt332.1 > 2000000000000 then (some (0, bt332.2.1, true)) else (if (Int.tmod bt332.1 2) = 1 then (some (wrap64 (Int.tdiv (wrap64 (-(wrap64 (bt332.1 + 1)))) 2), bt332.2.1, bt332.2.2)) else (some (wrap64 (Int.tdiv bt332.1 2), bt332.2.1, bt332.2.2))))) = some (r1, r2, r3) := h
 clear h
 replace H := ue.mp H
 obtain ⟨⟨t332, t333, t334⟩, A20, H⟩ := H
 replace H : (if t332 > 2000000000000 then (some (0, t333, true)) else (if (Int.tmod t332 2) = 1 then (some (wrap64 (Int.tdiv (wrap64 (-(wrap64 (t332 + 1)))) 2), t333, t334)) else (some (wrap64 (Int.tdiv t332 2), t333, t334)))) = some (r1, r2, r3) := H
 have A2 := z1o.mk A20
 clear A20
 by_cases c3 : t332 > 2000000000000
 ·rw [if_pos c3] at H
  have c3b0 : decide (2000000000000 < t332) = true := decide_eq_true c3
  clear c3
  simp only [Option.some.injEq, Prod.mk.injEq] at H
  obtain ⟨rfl, rfl, rfl⟩ := H
  go_enter Try.func98, Try.ntmps98
  go_wp2_with (first | ((with_reducible refine zp (f := 125) rfl ?_); refine goesL_ (some 5) rfl rfl Try.func125 (by kernel_rfl) rfl #[.pointer (some ⟨g, 0, none⟩)] rfl (by (try simp only [uh, ui, uj]); first | done | rfl | (simp only [uf, ug]; rfl)) ?_; (with_reducible refine (z1h.calls k g s0_0 s0_1 s0_2 t332 t333 t334 w0 _ ?side1 ?side2 A2.out).mono ?_); (case side1 => exact yr); (case side2 => exact yz); rintro e w4 ⟨rfl, hi, hb, hk⟩; refine ⟨_, rfl, ?_⟩; have n0_ := z1o.mk (z1r.trans y9 hk (.inl rfl)); have n1_ := z1o.mk (hb); have n2_ := z1o.mk (hi); clear HK; clear HB; clear HI0; have HK := n0_; have HB := n1_; have HI0 := n2_; clear n0_ n1_ n2_; (try clear hb); (try clear hb2); (try clear hk); (try clear hi); obtain ⟨ASz5_0, cSz5_0, HGz5, hgz5, HSz5_0, -⟩ := HI0.out; have hcz5_0 := cellS92_0 HGz5; have hcz5_1 := cellS92_1 HGz5; have hcz5_2 := cellS92_2 HGz5; have hfz5_1 := z5 HGz5 1; have hfz5_2 := z5 HGz5 2; clear HGz5 hgz5))
  go_ret
  exact ⟨by first | rfl | (simp [zm, zl] <;> rfl) | (simp [*, zm, zl] <;> rfl), yr, yz, y9⟩
 ·rw [if_neg c3] at H
  have c3b0 : decide (2000000000000 < t332) = false := decide_eq_false c3
  clear c3
  by_cases c6 : (Int.tmod t332 2) = 1
  ·rw [if_pos c6] at H
   have c6b0 : ((Int.tmod t332 2) == 1) = true := beq_iff_eq.mpr c6
   have c6b1 : ((Int.tmod t332 2) != 1) = false := bne_eq_false_iff_eq.mpr c6
   clear c6
   simp only [Option.some.injEq, Prod.mk.injEq] at H
   obtain ⟨rfl, rfl, rfl⟩ := H
   go_enter Try.func98, Try.ntmps98
   go_wp2_with (first | ((with_reducible refine zp (f := 125) rfl ?_); refine goesL_ (some 5) rfl rfl Try.func125 (by kernel_rfl) rfl #[.pointer (some ⟨g, 0, none⟩)] rfl (by (try simp only [uh, ui, uj]); first | done | rfl | (simp only [uf, ug]; rfl)) ?_; (with_reducible refine (z1h.calls k g s0_0 s0_1 s0_2 t332 t333 t334 w0 _ ?side1 ?side2 A2.out).mono ?_); (case side1 => exact yr); (case side2 => exact yz); rintro e w7 ⟨rfl, hi, hb, hk⟩; refine ⟨_, rfl, ?_⟩; have n0_ := z1o.mk (z1r.trans y9 hk (.inl rfl)); have n1_ := z1o.mk (hb); have n2_ := z1o.mk (hi); clear HK; clear HB; clear HI0; have HK := n0_; have HB := n1_; have HI0 := n2_; clear n0_ n1_ n2_; (try clear hb); (try clear hb2); (try clear hk); (try clear hi)))
   go_ret
   exact ⟨by first | rfl | (simp [zm, zl] <;> rfl) | (simp [*, zm, zl] <;> rfl), yr, yz, y9⟩
  ·rw [if_neg c6] at H
   have c6b0 : ((Int.tmod t332 2) == 1) = false := beq_eq_false_iff_ne.mpr c6
   have c6b1 : ((Int.tmod t332 2) != 1) = true := bne_iff_ne.mpr c6
   simp only [Option.some.injEq, Prod.mk.injEq] at H
   obtain ⟨rfl, rfl, rfl⟩ := H
   go_enter Try.func98, Try.ntmps98
   go_wp2_with (first | ((with_reducible refine zp (f := 125) rfl ?_); refine goesL_ (some 5) rfl rfl Try.func125 (by kernel_rfl) rfl #[.pointer (some ⟨g, 0, none⟩)] rfl (by (try simp only [uh, ui, uj]); first | done | rfl | (simp only [uf, ug]; rfl)) ?_; (with_reducible refine (z1h.calls k g s0_0 s0_1 s0_2 t332 t333 t334 w0 _ ?side1 ?side2 A2.out).mono ?_); (case side1 => exact yr); (case side2 => exact yz); rintro e w8 ⟨rfl, hi, hb, hk⟩; refine ⟨_, rfl, ?_⟩; have n0_ := z1o.mk (z1r.trans y9 hk (.inl rfl)); have n1_ := z1o.mk (hb); have n2_ := z1o.mk (hi); clear HK; clear HB; clear HI0; have HK := n0_; have HB := n1_; have HI0 := n2_; clear n0_ n1_ n2_; (try clear hb); (try clear hb2); (try clear hk); (try clear hi)))
   go_ret
   exact ⟨by first | rfl | (simp [zm, zl] <;> rfl) | (simp [*, zm, zl] <;> rfl), yr, yz, y9⟩
mutual
def zx.l0 : Nat → Int → List Int → Int → Bool → ByteArray → List (S84) → Option (ByteArray × (List (S84)) × Int × Bool)
 | 0, _, _, _, _, _, _ => none
 | k + 1, x4, x1000, x1001, x1002, x340000, x340001 => if x4 > 0 then (zx.j1 k x4 (!x1002) x1000 x1001 x1002 x340000 x340001) else (zx.j1 k x4 false x1000 x1001 x1002 x340000 x340001)
def zx.j1 : Nat → Int → Bool → List Int → Int → Bool → ByteArray → List (S84) → Option (ByteArray × (List (S84)) × Int × Bool)
 | 0, _, _, _, _, _, _, _ => none
 | k + 1, x4, x21, x1000, x1001, x1002, x340000, x340001 => if x21 = true then ((z1i.f k x1000 x1001 x1002).bind fun bt343 => ((spec_l06Reader_count.f k x1000 bt343.2.1 bt343.2.2).bind fun bt347 => (zx.l1 k x4 bt347.1 x1000 bt347.2.1 bt347.2.2 x340000 x340001 bt343.1 ([] : List ByteArray)))) else (some (x340000, x340001, x1001, x1002))
def zx.j3 : Nat → Int → List Int → Int → Bool → ByteArray → List (S84) → ByteArray → List ByteArray → Option (ByteArray × (List (S84)) × Int × Bool)
 | 0, _, _, _, _, _, _, _, _ => none
 | k + 1, x4, x1000, x1001, x1002, x340000, x340001, x347000, x347001 => (spec_l06Reader_count.f k x1000 x1001 x1002).bind fun bt356 => (zx.l2 k x4 bt356.1 x1000 bt356.2.1 bt356.2.2 x340000 x340001 x347000 x347001 ([] : List Int))
def zx.l2 : Nat → Int → Int → List Int → Int → Bool → ByteArray → List (S84) → ByteArray → List ByteArray → List Int → Option (ByteArray × (List (S84)) × Int × Bool)
 | 0, _, _, _, _, _, _, _, _, _, _ => none
 | k + 1, x4, x7, x1000, x1001, x1002, x340000, x340001, x347000, x347001, x347002 => if x7 > 0 then (if x1002 = true then (if x340001.length < 2199023255552 then (zx.l0 k (wrap64 (x4 - 1)) x1000 x1001 x1002 x340000 (x340001 ++ [(⟨x347000, x347001, x347002⟩ : S84)])) else (none)) else ((spec_l06Reader_number.f k x1000 x1001 x1002).bind fun bt362 => (if x347002.length < 17592186044416 then (zx.l2 k x4 (wrap64 (x7 - 1)) x1000 bt362.2.1 bt362.2.2 x340000 x340001 x347000 x347001 (x347002 ++ [bt362.1])) else (none)))) else (if x340001.length < 2199023255552 then (zx.l0 k (wrap64 (x4 - 1)) x1000 x1001 x1002 x340000 (x340001 ++ [(⟨x347000, x347001, x347002⟩ : S84)])) else (none))
def zx.l1 : Nat → Int → Int → List Int → Int → Bool → ByteArray → List (S84) → ByteArray → List ByteArray → Option (ByteArray × (List (S84)) × Int × Bool)
 | 0, _, _, _, _, _, _, _, _, _ => none
 | k + 1, x4, x6, x1000, x1001, x1002, x340000, x340001, x347000, x347001 => if x6 > 0 then (if x1002 = true then (zx.j3 k x4 x1000 x1001 x1002 x340000 x340001 x347000 x347001) else ((z1i.f k x1000 x1001 x1002).bind fun bt350 => (if x347001.length < 8796093022208 then (zx.l1 k x4 (wrap64 (x6 - 1)) x1000 bt350.2.1 bt350.2.2 x340000 x340001 x347000 (x347001 ++ [bt350.1])) else (none)))) else (zx.j3 k x4 x1000 x1001 x1002 x340000 x340001 x347000 x347001)
end
def zx.f (k : Nat) (s0_0 : List Int) (s0_1 : Int) (s0_2 : Bool) : Option (ByteArray × (List (S84)) × Int × Bool) := (z1i.f k s0_0 s0_1 s0_2).bind fun bt336 => ((spec_l06Reader_count.f k s0_0 bt336.2.1 bt336.2.2).bind fun bt340 => (zx.l0 k bt340.1 s0_0 bt340.2.1 bt340.2.2 bt336.1 ([] : List (S84))))
def zx.T9 : Bool × List (List Nat × List Nat) := (true, [([], []), ([0], [0]), ([], []), ([2], [2]), ([3], [3]), ([1, 4, 3], [1, 4]), ([0, 1, 2, 3, 4, 5], []), ([6, 5, 5, 0, 1, 2, 3, 4, 5], [5, 6])])
def zx.B9 : List Nat := [0, 1, 0, 4, 12, 31, 63, 127]
theorem zx.tab9 : rtab .any (opsOf Try.f57 9) = zx.T9 := by kernel_rfl
theorem zx.bits9 : waitsOk zx.T9.2 zx.B9 = true := by kernel_rfl
def zx.T13 : Bool × List (List Nat × List Nat) := (true, [([], []), ([0], [0]), ([], []), ([2], [2]), ([3], [3]), ([1, 4, 3], [1, 4]), ([0, 1, 2, 3, 4, 5], []), ([6, 5, 5, 0, 1, 2, 3, 4, 5], [5, 6])])
def zx.B13 : List Nat := [0, 1, 0, 4, 12, 31, 63, 127]
theorem zx.tab13 : rtab .any (opsOf Try.f57 13) = zx.T13 := by kernel_rfl
theorem zx.bits13 : waitsOk zx.T13.2 zx.B13 = true := by kernel_rfl
set_option maxHeartbeats 8000000 in
set_option maxRecDepth 100000 in
theorem zx.calls (k : Nat) (g : Nat) (s0_0 : List Int) (s0_1 : Int) (s0_2 : Bool) (r1 : ByteArray) (r2 : List (S84)) (r3 : Int) (r4 : Bool) (w0 w : World) (hI : z1q w0 w g s0_0 s0_1 s0_2) (hB : Below w0.heap.size w0 w) (h : zx.f k s0_0 s0_1 s0_2 = some (r1, r2, r3, r4)) :
  Calls Try.prog 57 #[.pointer (some ⟨g, 0, none⟩)] w fun e w' => ∃ v1_ : Value, e = .returned (.agg #[.string r1, v1_]) ∧ Kd.S k84 84 w' w.heap.size (fun _ => True) v1_ r2 ∧ z1q w0 w' g s0_0 r3 r4 ∧ Below w0.heap.size w0 w' ∧ z1r w w' g none := by
 have hu31 := Try.underlying31
 have hu84 := Try.underlying84
 have HI0 := z1o.mk hI
 have HK := z1o.mk (z1r.refl w g none)
 have HL := z1o.mk hB.size
 clear hI
 have HW0 := z1o.mk hB.size
 have HB := z1o.mk hB
 clear hB
 have H : ((z1i.f k s0_0 s0_1 s0_2).bind fun bt336 => ((spec_l06Reader_count.f k s0_0 bt336.2.1 bt336.2.2).bind fun bt340 => (zx.l0 k bt340.1 s0_0 bt340.2.1 bt340.2.2 bt336.1 ([] : List (S84))))) = some (r1, r2, r3, r4) := h
 clear h
 replace H := ue.mp H
 obtain ⟨⟨t336, t337, t338⟩, A20, H⟩ := H
 replace H : ((spec_l06Reader_count.f k s0_0 t337 t338).bind fun bt340 => (zx.l0 k bt340.1 s0_0 bt340.2.1 bt340.2.2 t336 ([] : List (S84)))) = some (r1, r2, r3, r4) := H
 have A2 := z1o.mk A20
 clear A20
 replace H := ue.mp H
 obtain ⟨⟨t340, t341, t342⟩, A30, H⟩ := H
 replace H : (zx.l0 k t340 s0_0 t341 t342 t336 ([] : List (S84))) = some (r1, r2, r3, r4) := H
 have A3 := z1o.mk A30
 clear A30
 have H' := z1o.mk H
 clear H
 go_enter Try.func57, Try.ntmps57
 go_wp2_with (first | ((with_reducible refine zq (N := 2) rfl ?_); refine zv ?hg (N := 2) ?hd (cs := #[.string (⟨#[]⟩ : ByteArray), .slice none 0 0]) (t := 31) ?hr ?_; (case hd => rfl); (case hg => rfl); (case hr => first | (go_simp; done) | (go_simp; rfl)); intro gb335 hg w4 hbox hb; have n0_ := z1o.mk (z1q.below yr hb); have n1_ := z1o.mk (z1r.trans y9 (z1r.of_below hb g none) (.inl rfl)); have n2_ := z1o.mk (za yz hb); have n3_ := z1o.mk (hbox); have n4_ := z1o.mk ((by rw [hg]; exact (keep_size (w := w) (g := g) (row := none) y9) : w.heap.size ≤ gb335)); have n5_ := z1o.mk ((Nat.le_trans HW0.out (by rw [hg]; exact (keep_size (w := w) (g := g) (row := none) y9) : w.heap.size ≤ gb335) : w0.heap.size ≤ gb335)); have n6_ := z1o.mk ((by rw [hg]; exact Nat.ne_of_lt (z1q.lt (show z1q w0 _ g s0_0 s0_1 s0_2 from yr)) : g ≠ gb335)); have n7_ := z1o.mk ((by rw [hg]; exact Nat.ne_of_gt (z1q.lt (show z1q w0 _ g s0_0 s0_1 s0_2 from yr)) : gb335 ≠ g)); clear HI0; clear HK; clear HB; have HI0 := n0_; have HK := n1_; have HB := n2_; have BK335 := n3_; have GW335 := n4_; have GE335 := n5_; have NB0_335 := n6_; have NB335_0 := n7_; clear n0_ n1_ n2_ n3_ n4_ n5_ n6_ n7_; clear hb hbox hg) | ((with_reducible refine zp (f := 96) rfl ?_); refine goesL_ (some 9) rfl rfl Try.func96 (by kernel_rfl) rfl #[.pointer (some ⟨g, 0, none⟩)] rfl (by (try simp only [uh, ui, uj]); first | done | rfl | (simp only [uf, ug]; rfl)) ?_; (with_reducible refine (z1i.calls k g s0_0 s0_1 s0_2 t336 t337 t338 w0 _ ?side1 ?side2 A2.out).mono ?_); (case side1 => exact y1y); (case side2 => exact y2h); rintro e w5 ⟨rfl, hi, hb, hk⟩; refine ⟨_, rfl, ?_⟩; have n0_ := z1o.mk (z1r.blk hk (g' := gb335) (o := .cells #[.string (⟨#[]⟩ : ByteArray), .slice none 0 0] 31 (0, 0)) yg NB335_0.out (by simp)); have n1_ := z1o.mk (z1r.trans y23 hk (.inl rfl)); have n2_ := z1o.mk (hb); have n3_ := z1o.mk (hi); clear BK335; clear HK; clear HB; clear HI0; have BK335 := n0_; have HK := n1_; have HB := n2_; have HI0 := n3_; clear n0_ n1_ n2_ n3_; (try clear hb); (try clear hb2); (try clear hk); (try clear hi)) | ((with_reducible refine zq (N := 3) rfl ?_); refine zv ?hg (N := 3) ?hd (cs := #[.string (⟨#[]⟩ : ByteArray), .slice none 0 0]) (t := 31) ?hr ?_; (case hd => rfl); (case hg => rfl); (case hr => first | (go_simp; done) | (go_simp; rfl)); intro gb339 hg w6 hbox hb; have n0_ := z1o.mk (z1q.below y1y hb); have n1_ := z1o.mk (zb (g := gb335) (o := .cells #[.string (⟨#[]⟩ : ByteArray), .slice none 0 0] 31 (0, 0)) yg hb); have n2_ := z1o.mk (z1r.trans y23 (z1r.of_below hb g none) (.inl rfl)); have n3_ := z1o.mk (za y2h hb); have n4_ := z1o.mk (hbox); have n5_ := z1o.mk ((by rw [hg]; exact (keep_size (w := w) (g := g) (row := none) y23) : w.heap.size ≤ gb339)); have n6_ := z1o.mk ((Nat.le_trans HW0.out (by rw [hg]; exact (keep_size (w := w) (g := g) (row := none) y23) : w.heap.size ≤ gb339) : w0.heap.size ≤ gb339)); have n7_ := z1o.mk ((by rw [hg]; exact Nat.ne_of_lt (zg (g := gb335) (o := .cells #[.string (⟨#[]⟩ : ByteArray), .slice none 0 0] 31 (0, 0)) yg) : gb335 ≠ gb339)); have n8_ := z1o.mk ((by rw [hg]; exact Nat.ne_of_gt (zg (g := gb335) (o := .cells #[.string (⟨#[]⟩ : ByteArray), .slice none 0 0] 31 (0, 0)) yg) : gb339 ≠ gb335)); have n9_ := z1o.mk ((by rw [hg]; exact Nat.ne_of_lt (z1q.lt (show z1q w0 _ g s0_0 t337 t338 from y1y)) : g ≠ gb339)); have n10_ := z1o.mk ((by rw [hg]; exact Nat.ne_of_gt (z1q.lt (show z1q w0 _ g s0_0 t337 t338 from y1y)) : gb339 ≠ g)); clear HI0; clear BK335; clear HK; clear HB; have HI0 := n0_; have BK335 := n1_; have HK := n2_; have HB := n3_; have BK339 := n4_; have GW339 := n5_; have GE339 := n6_; have NB335_339 := n7_; have NB339_335 := n8_; have NB0_339 := n9_; have NB339_0 := n10_; clear n0_ n1_ n2_ n3_ n4_ n5_ n6_ n7_ n8_ n9_ n10_; clear hb hbox hg; have hnb7 := NB339_335.out; have hnc7 := NB335_339.out; have hnb8 := NB339_0.out; have hnc8 := NB0_339.out; obtain ⟨hcz9_0, hcz9_1⟩ := cbk2 BK339.out; obtain ⟨hfz9_0, hfz9_1⟩ := cbf2 BK339.out) | ((with_reducible refine zp (f := 97) rfl ?_); refine goesL_ (some 12) rfl rfl Try.func97 (by kernel_rfl) rfl #[.pointer (some ⟨g, 0, none⟩)] rfl (by (try simp only [uh, ui, uj]); first | done | rfl | (simp only [uf, ug]; rfl)) ?_; (with_reducible refine (spec_l06Reader_count.calls k g s0_0 t337 t338 t340 t341 t342 w0 _ ?side1 ?side2 A3.out).mono ?_); (case side1 => exact yl); (case side2 => exact y13); rintro e w10 ⟨rfl, hi, hb, hk⟩; refine ⟨_, rfl, ?_⟩; have n0_ := z1o.mk (z1r.blk hk (g' := gb335) (o := .cells #[.string (⟨#[]⟩ : ByteArray), .slice none 0 0] 31 (0, 0)) (by (with_reducible repeat (first | refine z8 ?_ _ | refine z9 ?_ | refine z7 ?_ _)); refine ze ?_ NB335_339.out _; (with_reducible repeat (first | refine z8 ?_ _ | refine z9 ?_ | refine z7 ?_ _)); refine ze ?_ NB335_339.out _; (with_reducible repeat (first | refine z8 ?_ _ | refine z9 ?_ | refine z7 ?_ _)); exact BK335.out) NB335_0.out (by simp)); have n1_ := z1o.mk (z1r.blk hk (g' := gb339) (o := .cells #[.string t336, .slice none 0 0] 31 (0, 0)) (by (with_reducible repeat (first | refine z8 ?_ _ | refine z9 ?_ | refine z7 ?_ _)); refine zd (cs := #[.string t336, .slice none 0 0]) ?_ 1 _ rfl; (with_reducible repeat (first | refine z8 ?_ _ | refine z9 ?_ | refine z7 ?_ _)); refine zd (cs := #[.string (⟨#[]⟩ : ByteArray), .slice none 0 0]) ?_ 0 _ rfl; (with_reducible repeat (first | refine z8 ?_ _ | refine z9 ?_ | refine z7 ?_ _)); exact BK339.out) NB339_0.out (by simp)); have n2_ := z1o.mk (z1r.trans y11 hk (.inl rfl)); have n3_ := z1o.mk (hb); have n4_ := z1o.mk (hi); clear BK335; clear BK339; clear HK; clear HB; clear HI0; have BK335 := n0_; have BK339 := n1_; have HK := n2_; have HB := n3_; have HI0 := n4_; clear n0_ n1_ n2_ n3_ n4_; (try clear hb); (try clear hb2); (try clear hk); (try clear hi)))
 go_loopg [4] k (fun kq v4 w' => ∃ (x4_1 : Int) (x1001_1 : Int) (x1002_1 : Bool) (x340001_1 : List (S84)) (u340001 : Value), v4 = .int .i64 x4_1 ∧ z1o (zx.l0 kq x4_1 s0_0 x1001_1 x1002_1 t336 x340001_1 = some (r1, r2, r3, r4)) ∧ z1o (kq ≤ k) ∧ z1o (Kd.S k84 84 w' w.heap.size (fun _ => True) u340001 x340001_1) ∧ z1o (w'.heap[gb335]? = some (.cells #[.string (⟨#[]⟩ : ByteArray), (.slice none 0 0)] 31 (0, 0))) ∧ z1o (w'.heap[gb339]? = some (.cells #[.string t336, u340001] 31 (0, 0))) ∧ z1o (z1q w0 w' g s0_0 x1001_1 x1002_1) ∧ z1o (z1r w w' g none) ∧ z1o (Below w0.heap.size w0 w'))
 case atStart => exact ⟨(t340), (t341), (t342), (([] : List (S84))), (.slice none 0 0), (by first | rfl | (simp; done) | (simp [*]; done)), H', ⟨um _⟩, ⟨by first | exact Kd.S_nil _ _ _ _ _ | exact Kd.N_nil _ _ _ _ _ | exact Kd.V_nil _ _ _ _ _ | exact Kd.Q_nil _ _ _ _ _ | exact Kd.R_nil _ _ _ _ _⟩, ⟨yg⟩, ⟨yv⟩, ⟨yl⟩, ⟨y11⟩, ⟨y13⟩⟩
 case round =>
  clear H'
  try clear p2
  try clear c5
  try clear c7
  try clear c8
  try clear c9
  try clear hcz9_0
  try clear hcz9_1
  try clear hfz9_0
  try clear hfz9_1
  obtain ⟨x4_1, x1001_1, x1002_1, x340001_1, u340001, rfl, HA, HK1, HO_340001, BK335, BK339, HI0, HK, HB⟩ := hrel
  cases gk with
  | zero => exact absurd HA.out (by simp [zx.l0])
  | succ k1 =>
   have H := HA.out
   clear HA
   simp only [zx.l0] at H
   have HC11 := z1o.mk H
   clear H
   go_upto_region 3 with (fail)
   go_cut [21] (fun v21 wc => ∃ (kq : Nat) (x21_10 : Bool), v21 = .bool x21_10 ∧ z1o (zx.j1 kq x4_1 x21_10 s0_0 x1001_1 x1002_1 t336 x340001_1 = some (r1, r2, r3, r4)) ∧ z1o (kq ≤ k1) ∧ z1o (Kd.S k84 84 wc w.heap.size (fun _ => True) u340001 x340001_1) ∧ z1o (wc.heap[gb335]? = some (.cells #[.string (⟨#[]⟩ : ByteArray), (.slice none 0 0)] 31 (0, 0))) ∧ z1o (wc.heap[gb339]? = some (.cells #[.string t336, u340001] 31 (0, 0))) ∧ z1o (z1q w0 wc g s0_0 x1001_1 x1002_1) ∧ z1o (z1r w wc g none) ∧ z1o (Below w0.heap.size w0 wc))
   case first =>
    have H := HC11.out
    clear HC11
    by_cases c12 : x4_1 > 0
    ·rw [if_pos c12] at H
     have c12b0 : decide (0 < x4_1) = true := decide_eq_true c12
     clear c12
     (first | rw [c12b0] | (simp only [zn, zo]; rw [c12b0]) | skip)
     have H' := z1o.mk H
     clear H
     obtain ⟨ASz13_0, cSz13_0, HGz13, hgz13, HSz13_0, -⟩ := HI0.out
     have hcz13_0 := cellS92_0 HGz13
     have hcz13_1 := cellS92_1 HGz13
     have hcz13_2 := cellS92_2 HGz13
     have hfz13_1 := z5 HGz13 1
     have hfz13_2 := z5 HGz13 2
     clear HGz13 hgz13
     go_wp2
     go_meet
     case rel => exact ⟨_, (!x1002_1), (by first | rfl | (simp; done) | (simp [*]; done)), H', ⟨by have := HK1.out; first | omega | exact um _⟩, ⟨y1p⟩, ⟨yg⟩, ⟨yv⟩, ⟨yl⟩, ⟨y11⟩, ⟨y13⟩⟩
    ·rw [if_neg c12] at H
     have c12b0 : decide (0 < x4_1) = false := decide_eq_false c12
     clear c12
     (first | rw [c12b0] | (simp only [zn, zo]; rw [c12b0]) | skip)
     have H' := z1o.mk H
     clear H
     go_wp2
     go_meet
     case rel => exact ⟨_, (false), (by first | rfl | (simp; done) | (simp [*]; done)), H', ⟨by have := HK1.out; first | omega | exact um _⟩, ⟨y1p⟩, ⟨yg⟩, ⟨yv⟩, ⟨yl⟩, ⟨y11⟩, ⟨y13⟩⟩
   case rest =>
    clear HC11
    try clear c1
    try clear p2
    try clear c5
    try clear c7
    try clear c8
    try clear c9
    try clear c12
    try clear c12b0
    try clear hcz13_0
    try clear hcz13_1
    try clear hcz13_2
    try clear hcz9_0
    try clear hcz9_1
    try clear hfz13_1
    try clear hfz13_2
    try clear hfz9_0
    try clear hfz9_1
    try clear p2
    obtain ⟨kq, x21_10, rfl, HA, HJ10, HO_340001, BK335, BK339, HI0, HK, HB⟩ := hcut
    cases kq with
    | zero => exact absurd HA.out (by simp [zx.j1])
    | succ kj10 =>
     have H := HA.out
     clear HA
     simp only [zx.j1] at H
     by_cases c14 : x21_10 = true
     ·subst c14
      have H1 : ((z1i.f kj10 s0_0 x1001_1 x1002_1).bind fun bt343 => ((spec_l06Reader_count.f kj10 s0_0 bt343.2.1 bt343.2.2).bind fun bt347 => (zx.l1 kj10 x4_1 bt347.1 s0_0 bt347.2.1 bt347.2.2 t336 x340001_1 bt343.1 ([] : List ByteArray)))) = some (r1, r2, r3, r4) := by rw [if_pos rfl] at H; exact H
      clear H
      have H := H1
      clear H1
      replace H := ue.mp H
      obtain ⟨⟨t343, t344, t345⟩, A150, H⟩ := H
      replace H : ((spec_l06Reader_count.f kj10 s0_0 t344 t345).bind fun bt347 => (zx.l1 kj10 x4_1 bt347.1 s0_0 bt347.2.1 bt347.2.2 t336 x340001_1 t343 ([] : List ByteArray))) = some (r1, r2, r3, r4) := H
      have A15 := z1o.mk A150
      clear A150
      replace H := ue.mp H
      obtain ⟨⟨t347, t348, t349⟩, A160, H⟩ := H
      replace H : (zx.l1 kj10 x4_1 t347 s0_0 t348 t349 t336 x340001_1 t343 ([] : List ByteArray)) = some (r1, r2, r3, r4) := H
      have A16 := z1o.mk A160
      clear A160
      have HC17 := z1o.mk H
      clear H
      go_upto_block 2 with (first | ((with_reducible refine zp (f := 96) rfl ?_); refine goesL_ (some 25) rfl rfl Try.func96 (by kernel_rfl) rfl #[.pointer (some ⟨g, 0, none⟩)] rfl (by (try simp only [uh, ui, uj]); first | done | rfl | (simp only [uf, ug]; rfl)) ?_; (with_reducible refine (z1i.calls kj10 g s0_0 x1001_1 x1002_1 t343 t344 t345 w0 _ ?side1 ?side2 A15.out).mono ?_); (case side1 => exact yl); (case side2 => exact y13); rintro e w18 ⟨rfl, hi, hb, hk⟩; refine ⟨_, rfl, ?_⟩; have n0_ := z1o.mk (Kd.S_mono (Kd.S_keep (z1q.apartS (show z1q w0 _ g s0_0 x1001_1 x1002_1 from yl) y1p (by decide)) hk (fun _ h => h.2)) (fun _ h => h.1)); have n1_ := z1o.mk (z1r.blk hk (g' := gb335) (o := .cells #[.string (⟨#[]⟩ : ByteArray), .slice none 0 0] 31 (0, 0)) yg NB335_0.out (by simp)); have n2_ := z1o.mk (z1r.blk hk (g' := gb339) (o := .cells #[.string t336, u340001] 31 (0, 0)) yv NB339_0.out (by simp)); have n3_ := z1o.mk (z1r.trans y11 hk (.inl rfl)); have n4_ := z1o.mk (hb); have n5_ := z1o.mk (hi); clear HO_340001; clear BK335; clear BK339; clear HK; clear HB; clear HI0; have HO_340001 := n0_; have BK335 := n1_; have BK339 := n2_; have HK := n3_; have HB := n4_; have HI0 := n5_; clear n0_ n1_ n2_ n3_ n4_ n5_; (try clear hb); (try clear hb2); (try clear hk); (try clear hi)) | ((with_reducible refine zq (N := 5) rfl ?_); refine zv ?hg (N := 5) ?hd (cs := #[.string (⟨#[]⟩ : ByteArray), .slice none 0 0, .slice none 0 0]) (t := 84) ?hr ?_; (case hd => rfl); (case hg => rfl); (case hr => first | (go_simp; done) | (go_simp; rfl)); intro gb346 hg w19 hbox hb; have n0_ := z1o.mk (Kd.S_below (Kd.S_elderB y1p gb346 (Nat.le_of_eq hg.symm)) hb); have n1_ := z1o.mk (zb (g := gb335) (o := .cells #[.string (⟨#[]⟩ : ByteArray), .slice none 0 0] 31 (0, 0)) yg hb); have n2_ := z1o.mk (zb (g := gb339) (o := .cells #[.string t336, u340001] 31 (0, 0)) yv hb); have n3_ := z1o.mk (z1q.below yl hb); have n4_ := z1o.mk (z1r.trans y11 (z1r.of_below hb g none) (.inl rfl)); have n5_ := z1o.mk (za y13 hb); have n6_ := z1o.mk (hbox); have n7_ := z1o.mk ((by rw [hg]; exact (keep_size (w := w) (g := g) (row := none) y11) : w.heap.size ≤ gb346)); have n8_ := z1o.mk ((Nat.le_trans HW0.out (by rw [hg]; exact (keep_size (w := w) (g := g) (row := none) y11) : w.heap.size ≤ gb346) : w0.heap.size ≤ gb346)); have n9_ := z1o.mk ((by rw [hg]; exact Nat.ne_of_lt (zg (g := gb335) (o := .cells #[.string (⟨#[]⟩ : ByteArray), .slice none 0 0] 31 (0, 0)) yg) : gb335 ≠ gb346)); have n10_ := z1o.mk ((by rw [hg]; exact Nat.ne_of_gt (zg (g := gb335) (o := .cells #[.string (⟨#[]⟩ : ByteArray), .slice none 0 0] 31 (0, 0)) yg) : gb346 ≠ gb335)); have n11_ := z1o.mk ((by rw [hg]; exact Nat.ne_of_lt (zg (g := gb339) (o := .cells #[.string t336, u340001] 31 (0, 0)) yv) : gb339 ≠ gb346)); have n12_ := z1o.mk ((by rw [hg]; exact Nat.ne_of_gt (zg (g := gb339) (o := .cells #[.string t336, u340001] 31 (0, 0)) yv) : gb346 ≠ gb339)); have n13_ := z1o.mk ((by rw [hg]; exact Nat.ne_of_lt (z1q.lt (show z1q w0 _ g s0_0 t344 t345 from yl)) : g ≠ gb346)); have n14_ := z1o.mk ((by rw [hg]; exact Nat.ne_of_gt (z1q.lt (show z1q w0 _ g s0_0 t344 t345 from yl)) : gb346 ≠ g)); clear HO_340001; clear BK335; clear BK339; clear HI0; clear HK; clear HB; have HO_340001 := n0_; have BK335 := n1_; have BK339 := n2_; have HI0 := n3_; have HK := n4_; have HB := n5_; have BK346 := n6_; have GW346 := n7_; have GE346 := n8_; have NB335_346 := n9_; have NB346_335 := n10_; have NB339_346 := n11_; have NB346_339 := n12_; have NB0_346 := n13_; have NB346_0 := n14_; clear n0_ n1_ n2_ n3_ n4_ n5_ n6_ n7_ n8_ n9_ n10_ n11_ n12_ n13_ n14_; clear hb hbox hg; have hnb20 := NB346_335.out; have hnc20 := NB335_346.out; have hnb21 := NB346_339.out; have hnc21 := NB339_346.out; have hnb22 := NB346_0.out; have hnc22 := NB0_346.out; obtain ⟨hcz23_0, hcz23_1, hcz23_2⟩ := cbk3 BK346.out; obtain ⟨hfz23_0, hfz23_1, hfz23_2⟩ := cbf3 BK346.out) | ((with_reducible refine zp (f := 97) rfl ?_); refine goesL_ (some 28) rfl rfl Try.func97 (by kernel_rfl) rfl #[.pointer (some ⟨g, 0, none⟩)] rfl (by (try simp only [uh, ui, uj]); first | done | rfl | (simp only [uf, ug]; rfl)) ?_; (with_reducible refine (spec_l06Reader_count.calls kj10 g s0_0 t344 t345 t347 t348 t349 w0 _ ?side1 ?side2 A16.out).mono ?_); (case side1 => exact y6); (case side2 => exact ya); rintro e w24 ⟨rfl, hi, hb, hk⟩; refine ⟨_, rfl, ?_⟩; have n0_ := z1o.mk (Kd.S_mono (Kd.S_keep (z1q.apartS (show z1q w0 _ g s0_0 t344 t345 from y6) (by (with_reducible repeat (first | apply Kd.S_alloc | apply Kd.S_drewN | apply Kd.S_drew)); exact (Kd.S_mono (Kd.S_far (p := ⟨gb346, 2, none⟩) (Kd.S_far (p := ⟨gb346, 1, none⟩) (Kd.S_far (p := ⟨gb346, 0, none⟩) (Kd.S_mono HO_340001.out (fun k_ hk => (⟨hk, hk.2⟩ : _ ∧ k_ ≠ gb346))) (fun _ hk => hk.2) (.string t343)) (fun _ hk => hk.2) (.slice none 0 0)) (fun _ hk => hk.2) (.slice none 0 0)) (fun _ h_ => h_.1))) (by decide)) hk (fun _ h => h.2)) (fun _ h => h.1)); have n1_ := z1o.mk (z1r.blk hk (g' := gb335) (o := .cells #[.string (⟨#[]⟩ : ByteArray), .slice none 0 0] 31 (0, 0)) (by (with_reducible repeat (first | refine z8 ?_ _ | refine z9 ?_ | refine z7 ?_ _)); refine ze ?_ NB335_346.out _; (with_reducible repeat (first | refine z8 ?_ _ | refine z9 ?_ | refine z7 ?_ _)); refine ze ?_ NB335_346.out _; (with_reducible repeat (first | refine z8 ?_ _ | refine z9 ?_ | refine z7 ?_ _)); refine ze ?_ NB335_346.out _; (with_reducible repeat (first | refine z8 ?_ _ | refine z9 ?_ | refine z7 ?_ _)); exact BK335.out) NB335_0.out (by simp)); have n2_ := z1o.mk (z1r.blk hk (g' := gb339) (o := .cells #[.string t336, u340001] 31 (0, 0)) (by (with_reducible repeat (first | refine z8 ?_ _ | refine z9 ?_ | refine z7 ?_ _)); refine ze ?_ NB339_346.out _; (with_reducible repeat (first | refine z8 ?_ _ | refine z9 ?_ | refine z7 ?_ _)); refine ze ?_ NB339_346.out _; (with_reducible repeat (first | refine z8 ?_ _ | refine z9 ?_ | refine z7 ?_ _)); refine ze ?_ NB339_346.out _; (with_reducible repeat (first | refine z8 ?_ _ | refine z9 ?_ | refine z7 ?_ _)); exact BK339.out) NB339_0.out (by simp)); have n3_ := z1o.mk (z1r.blk hk (g' := gb346) (o := .cells #[.string t343, .slice none 0 0, .slice none 0 0] 84 (0, 0)) (by (with_reducible repeat (first | refine z8 ?_ _ | refine z9 ?_ | refine z7 ?_ _)); refine zd (cs := #[.string t343, .slice none 0 0, .slice none 0 0]) ?_ 2 _ rfl; (with_reducible repeat (first | refine z8 ?_ _ | refine z9 ?_ | refine z7 ?_ _)); refine zd (cs := #[.string t343, .slice none 0 0, .slice none 0 0]) ?_ 1 _ rfl; (with_reducible repeat (first | refine z8 ?_ _ | refine z9 ?_ | refine z7 ?_ _)); refine zd (cs := #[.string (⟨#[]⟩ : ByteArray), .slice none 0 0, .slice none 0 0]) ?_ 0 _ rfl; (with_reducible repeat (first | refine z8 ?_ _ | refine z9 ?_ | refine z7 ?_ _)); exact BK346.out) NB346_0.out (by simp)); have n4_ := z1o.mk (z1r.trans y8 hk (.inl rfl)); have n5_ := z1o.mk (hb); have n6_ := z1o.mk (hi); clear HO_340001; clear BK335; clear BK339; clear BK346; clear HK; clear HB; clear HI0; have HO_340001 := n0_; have BK335 := n1_; have BK339 := n2_; have BK346 := n3_; have HK := n4_; have HB := n5_; have HI0 := n6_; clear n0_ n1_ n2_ n3_ n4_ n5_ n6_; (try clear hb); (try clear hb2); (try clear hk); (try clear hi)))
      (try simp only [Act.put, ub, uc, ud])
      go_cut [] (fun wc => ∃ (kq : Nat) (x1001_16 : Int) (x1002_16 : Bool) (x347001_16 : List ByteArray) (u347001 : Value), z1o (zx.j3 kq x4_1 s0_0 x1001_16 x1002_16 t336 x340001_1 t343 x347001_16 = some (r1, r2, r3, r4)) ∧ z1o (kq ≤ kj10) ∧ z1o (Kd.S k84 84 wc w.heap.size (fun k_ => some k_ ≠ (u347001 : Value).ownBlock ∧ k_ ≠ gb346) u340001 x340001_1) ∧ z1o (Kd.R Kd.string 9 wc w.heap.size (fun _ => True) u347001 x347001_16) ∧ z1o (wc.heap[gb335]? = some (.cells #[.string (⟨#[]⟩ : ByteArray), (.slice none 0 0)] 31 (0, 0))) ∧ z1o (wc.heap[gb339]? = some (.cells #[.string t336, u340001] 31 (0, 0))) ∧ z1o (wc.heap[gb346]? = some (.cells #[.string t343, u347001, (.slice none 0 0)] 84 (0, 0))) ∧ z1o (z1q w0 wc g s0_0 x1001_16 x1002_16) ∧ z1o (z1r w wc g none) ∧ z1o (Below w0.heap.size w0 wc))
      case first =>
       have H := HC17.out
       clear HC17
       have H' := z1o.mk H
       clear H
       go_wp2
       go_loopg [6] kj10 (fun kq v6 w' => ∃ (x6_3 : Int) (x1001_3 : Int) (x1002_3 : Bool) (x347001_3 : List ByteArray) (u347001 : Value), v6 = .int .i64 x6_3 ∧ z1o (zx.l1 kq x4_1 x6_3 s0_0 x1001_3 x1002_3 t336 x340001_1 t343 x347001_3 = some (r1, r2, r3, r4)) ∧ z1o (kq ≤ kj10) ∧ z1o (Kd.S k84 84 w' w.heap.size (fun k_ => some k_ ≠ (u347001 : Value).ownBlock ∧ k_ ≠ gb346) u340001 x340001_1) ∧ z1o (Kd.R Kd.string 9 w' w.heap.size (fun _ => True) u347001 x347001_3) ∧ z1o (w'.heap[gb335]? = some (.cells #[.string (⟨#[]⟩ : ByteArray), (.slice none 0 0)] 31 (0, 0))) ∧ z1o (w'.heap[gb339]? = some (.cells #[.string t336, u340001] 31 (0, 0))) ∧ z1o (w'.heap[gb346]? = some (.cells #[.string t343, u347001, (.slice none 0 0)] 84 (0, 0))) ∧ z1o (z1q w0 w' g s0_0 x1001_3 x1002_3) ∧ z1o (z1r w w' g none) ∧ z1o (Below w0.heap.size w0 w'))
       case atStart => exact ⟨(t347), (t348), (t349), (([] : List ByteArray)), (.slice none 0 0), (by first | rfl | (simp; done) | (simp [*]; done)), H', ⟨um _⟩, ⟨by (with_reducible repeat (first | apply Kd.S_alloc | apply Kd.S_drewN | apply Kd.S_drew)); exact Kd.S_mono HO_340001.out (fun _ hk => ⟨(by simp [Value.ownBlock]), hk.2⟩)⟩, ⟨by first | exact Kd.R_nil _ _ _ _ _ | exact Kd.N_nil _ _ _ _ _ | exact Kd.V_nil _ _ _ _ _ | exact Kd.Q_nil _ _ _ _ _ | exact Kd.S_nil _ _ _ _ _⟩, ⟨yg⟩, ⟨yv⟩, ⟨y14⟩, ⟨y6⟩, ⟨y8⟩, ⟨ya⟩⟩
       case round =>
        clear H'
        try clear c1
        try clear c2
        try clear p2
        try clear c5
        try clear c7
        try clear c8
        try clear c9
        try clear c12
        try clear c12b0
        try clear c14
        try clear c20
        try clear c21
        try clear c22
        try clear hcz13_0
        try clear hcz13_1
        try clear hcz13_2
        try clear hcz23_0
        try clear hcz23_1
        try clear hcz23_2
        try clear hcz9_0
        try clear hcz9_1
        try clear hfz13_1
        try clear hfz13_2
        try clear hfz23_0
        try clear hfz23_1
        try clear hfz23_2
        try clear hfz9_0
        try clear hfz9_1
        try clear p2
        obtain ⟨x6_3, x1001_3, x1002_3, x347001_3, u347001, rfl, HA, HK3, HO_340001, HO_347001, BK335, BK339, BK346, HI0, HK, HB⟩ := hrel
        cases gk with
        | zero => exact absurd HA.out (by simp [zx.l1])
        | succ k3 =>
         have H := HA.out
         clear HA
         simp only [zx.l1] at H
         by_cases c25 : x6_3 > 0
         ·rw [if_pos c25] at H
          have c25b0 : decide (0 < x6_3) = true := decide_eq_true c25
          clear c25
          (first | rw [c25b0] | (simp only [zn, zo]; rw [c25b0]) | skip)
          by_cases c26 : x1002_3 = true
          ·subst c26
           have H1 : (zx.j3 k3 x4_1 s0_0 x1001_3 true t336 x340001_1 t343 x347001_3) = some (r1, r2, r3, r4) := by rw [if_pos rfl] at H; exact H
           clear H
           have H := H1
           clear H1
           have H' := z1o.mk H
           clear H
           obtain ⟨ASz27_0, cSz27_0, HGz27, hgz27, HSz27_0, -⟩ := HI0.out
           have hcz27_0 := cellS92_0 HGz27
           have hcz27_1 := cellS92_1 HGz27
           have hcz27_2 := cellS92_2 HGz27
           have hfz27_1 := z5 HGz27 1
           have hfz27_2 := z5 HGz27 2
           clear HGz27 hgz27
           go_wp2
           go_meet
           case rel => exact ⟨_, (x1001_3), (true), (x347001_3), (u347001), H', ⟨by have := HK1.out; have := HJ10.out; have := HK3.out; first | omega | exact um _⟩, ⟨y1p⟩, ⟨y1u⟩, ⟨yg⟩, ⟨yv⟩, ⟨y14⟩, ⟨y6⟩, ⟨y8⟩, ⟨ya⟩⟩
          ·replace c26 := Bool.eq_false_iff.mpr c26
           subst c26
           have H1 : ((z1i.f k3 s0_0 x1001_3 false).bind fun bt350 => (if x347001_3.length < 8796093022208 then (zx.l1 k3 x4_1 (wrap64 (x6_3 - 1)) s0_0 bt350.2.1 bt350.2.2 t336 x340001_1 t343 (x347001_3 ++ [bt350.1])) else (none))) = some (r1, r2, r3, r4) := by rw [if_neg (show ¬ (false = true) by decide)] at H; exact H
           clear H
           have H := H1
           clear H1
           replace H := ue.mp H
           obtain ⟨⟨t350, t351, t352⟩, A280, H⟩ := H
           replace H : (if x347001_3.length < 8796093022208 then (zx.l1 k3 x4_1 (wrap64 (x6_3 - 1)) s0_0 t351 t352 t336 x340001_1 t343 (x347001_3 ++ [t350])) else (none)) = some (r1, r2, r3, r4) := H
           have A28 := z1o.mk A280
           clear A280
           by_cases c29 : x347001_3.length < 8796093022208
           ·rw [if_pos c29] at H
            have LMc29 := z1o.mk c29
            clear c29
            obtain ⟨y353, hy353⟩ : ∃ y_ : List ByteArray, y_ = (x347001_3 ++ [t350]) := ⟨_, rfl⟩
            replace H : (zx.l1 k3 x4_1 (wrap64 (x6_3 - 1)) s0_0 t351 t352 t336 x340001_1 t343 y353) = some (r1, r2, r3, r4) := by first | (rw [hy353]; with_reducible exact H) | (have H2_ := (uk _ _).symm.trans H; rw [hy353]; with_reducible exact H2_) | (have H2_ := (uk _ _).symm.trans H; with_reducible exact H2_) | with_reducible exact H | (rw [hy353]; exact H) | exact H
            have Ny353 := z1o.mk hy353
            clear hy353
            have H' := z1o.mk H
            clear H
            obtain ⟨ASz30_0, cSz30_0, HGz30, hgz30, HSz30_0, -⟩ := HI0.out
            have hcz30_0 := cellS92_0 HGz30
            have hcz30_1 := cellS92_1 HGz30
            have hcz30_2 := cellS92_2 HGz30
            have hfz30_1 := z5 HGz30 1
            have hfz30_2 := z5 HGz30 2
            clear HGz30 hgz30
            try go_wp2
            have n0_ := z1o.mk (Kd.S_drew HO_340001.out)
            have n1_ := z1o.mk (Kd.R_drew HO_347001.out)
            have n2_ := z1o.mk (z9 BK335.out)
            have n3_ := z1o.mk (z9 BK339.out)
            have n4_ := z1o.mk (z9 BK346.out)
            have n5_ := z1o.mk (z1q.drew HI0.out)
            have n6_ := z1o.mk (zk HK.out)
            have n7_ := z1o.mk (z3 HB.out)
            clear HO_340001
            clear HO_347001
            clear BK335
            clear BK339
            clear BK346
            clear HI0
            clear HK
            clear HB
            have HO_340001 := n0_
            have HO_347001 := n1_
            have BK335 := n2_
            have BK339 := n3_
            have BK346 := n4_
            have HI0 := n5_
            have HK := n6_
            have HB := n7_
            clear n0_ n1_ n2_ n3_ n4_ n5_ n6_ n7_
            refine start_ (n := 8) (S := fun w' => w'.cell? ⟨gb346, 0, none⟩ = some (.string t343) ∧ w'.cell? ⟨gb346, 1, none⟩ = some (u347001) ∧ w'.cell? ⟨gb346, 2, none⟩ = some (.slice none 0 0)) (ds := [7]) #[false, false, false, false, false, false, false, false] (by kernel_rfl) rfl rfl ⟨(z6 BK346.out 0).trans rfl, (z6 BK346.out 1).trans rfl, (z6 BK346.out 2).trans rfl⟩ (fun hHeld => ?_); refine with_tabW zx.tab9 zx.bits9 (fun HT_ HW_ => ?_)
            generalize wr.drew = w31 at HO_340001 HO_347001 BK335 BK339 BK346 HI0 HK HB hHeld ⊢
            refine pure_ (i := 0) (N := some 40) (v := ?_) (a' := ?_) #[true, false, false, false, false, false, false, false] rfl rfl (any_of HT_.out (by kernel_rfl)) (fun _ _ _ h => h) (Or.inl ⟨by rfl, ?_⟩) ?_ ?_
            rotate_left
            ·intro w'
             go_simp
             with_reducible rfl
            rotate_left
            ·simp only [Act.put, ub, uc, ud, zn, zo]
             rfl
            refine pure_ (i := 2) (N := some 42) (v := ?_) (a' := ?_) #[true, false, true, false, false, false, false, false] rfl rfl (any_of HT_.out (by kernel_rfl)) (fun _ _ _ h => h) (Or.inl ⟨by rfl, ?_⟩) ?_ ?_
            rotate_left
            ·intro w'
             go_simp
             with_reducible rfl
            rotate_left
            ·simp only [Act.put, ub, uc, ud, zn, zo]
             rfl
            refine take_ (i := 1) (N := some 41) (v := ?_) (a' := ?_) #[true, true, true, false, false, false, false, false] rfl rfl (take_ofW HT_.out HW_.out (by kernel_rfl)) (fun _ _ _ h => h) (Or.inl ⟨by rfl, ?_⟩) hHeld ?_ ?_
            rotate_left
            ·rintro w' ⟨s0, s1, s2⟩
             go_simp
             with_reducible rfl
            rotate_left
            ·simp only [Act.put, ub, uc, ud, zn, zo]
             rfl
            refine one_ (i := 3) (N := some 43) #[true, true, true, true, false, false, false, false] rfl rfl (one_of HT_.out (by kernel_rfl)) (by decide) (fun K hK => ?_)
            refine goes_ Try.func96 (by kernel_rfl) rfl #[.pointer (some ⟨g, 0, none⟩)] (by rfl) rfl rfl (by (try simp only [uh, ui, uj]); first | done | rfl | (simp only [uf, ug]; rfl)) ?_
            with_reducible refine (z1i.calls k3 g s0_0 x1001_3 false t350 t351 t352 w0 _ ?side1 ?side2 A28.out).mono ?_
            (case side1 => exact y6)
            (case side2 => exact ya)
            rintro e w32 ⟨rfl, hi, hb, hk⟩
            refine ⟨_, rfl, ?_⟩
            have n0_ := z1o.mk (Kd.S_mono (Kd.S_keep (z1q.apartS (show z1q w0 _ g s0_0 x1001_3 false from y6) y1p (by decide)) hk (fun _ h => h.2)) (fun _ h => h.1))
            have n1_ := z1o.mk (Kd.R_mono (Kd.R_keep (z1q.apart (show z1q w0 _ g s0_0 x1001_3 false from y6) y1u (by decide)) hk (fun _ h => h.2)) (fun _ h => h.1))
            have n2_ := z1o.mk (z1r.blk hk (g' := gb335) (o := .cells #[.string (⟨#[]⟩ : ByteArray), .slice none 0 0] 31 (0, 0)) yg NB335_0.out (by simp))
            have n3_ := z1o.mk (z1r.blk hk (g' := gb339) (o := .cells #[.string t336, u340001] 31 (0, 0)) yv NB339_0.out (by simp))
            have n4_ := z1o.mk (z1r.blk hk (g' := gb346) (o := .cells #[.string t343, u347001, .slice none 0 0] 84 (0, 0)) y14 NB346_0.out (by simp))
            have n5_ := z1o.mk (z1r.trans y8 hk (.inl rfl))
            have n6_ := z1o.mk (hb)
            have n7_ := z1o.mk (hi)
            clear HO_340001
            clear HO_347001
            clear BK335
            clear BK339
            clear BK346
            clear HK
            clear HB
            clear HI0
            have HO_340001 := n0_
            have HO_347001 := n1_
            have BK335 := n2_
            have BK339 := n3_
            have BK346 := n4_
            have HK := n5_
            have HB := n6_
            have HI0 := n7_
            clear n0_ n1_ n2_ n3_ n4_ n5_ n6_ n7_
            (try clear hb)
            (try clear hb2)
            (try clear hk)
            (try clear hi)
            refine hK.out _ _ ⟨(z6 BK346.out 0).trans rfl, (z6 BK346.out 1).trans rfl, (z6 BK346.out 2).trans rfl⟩ (fun hHeld => ?_)
            clear hK K
            refine norm_ (a' := ?_) ?_ ?_
            rotate_left
            ·show Act.put _ (some 43) _ = _
             simp only [Act.put, ub, uc, ud, zn, zo]
             rfl
            refine one_ (i := 4) (N := some 44) #[true, true, true, true, true, false, false, false] rfl rfl (one_of HT_.out (by kernel_rfl)) (by decide) (fun K hK => ?_)
            refine value_ (w1 := ?_) (v := ?_) (by rfl) rfl ?_ ?_
            rotate_left 2
            ·go_simp
             constructor
             ·rfl
             ·rfl
            refine hK.out _ _ ⟨(z6 (z7 BK346.out _) 0).trans rfl, (z6 (z7 BK346.out _) 1).trans rfl, (z6 (z7 BK346.out _) 2).trans rfl⟩ (fun hHeld => ?_)
            clear hK K
            refine norm_ (a' := ?_) ?_ ?_
            rotate_left
            ·show Act.put _ (some 44) _ = _
             simp only [Act.put, ub, uc, ud, zn, zo]
             rfl
            refine one_ (i := 5) (N := some 45) #[true, true, true, true, true, true, false, false] rfl rfl (one_of HT_.out (by kernel_rfl)) (by decide) (fun K hK => ?_)
            refine Kd.R_append_step Kd.string w.heap.size (by rfl) (.tmp 41) (.tmp 44) 82 9 (.string ⟨#[]⟩) 16 rfl Try.underlying82 info9 rfl (by decide) (by omega) u347001 x347001_3 t350 [.string t350] (fun _ => True) (fun _ => False) rfl rfl ?aP (fun _ hk => hk.elim) ?aF ?aO (Below.refl _ _) ?aS ?aL ?_
            (case aP => exact rfl)
            (case aF => exact (fun _ _ => trivial))
            (case aO => exact y1u)
            (case aS => exact (keep_size (w := w) (g := g) (row := none) y8))
            (case aL => have := LMc29.out; omega)
            intro v354 w33 ho hb hg hat
            rw [← Ny353.out] at ho
            have n0_ := z1o.mk (Kd.S_after (ok := (fun k_ => k_ ≠ gb346)) (by (with_reducible repeat (first | apply Kd.S_alloc | apply Kd.S_drewN | apply Kd.S_drew)); exact Kd.S_mono HO_340001.out (fun _ hk => ⟨hk.2, hk.1⟩)) hg hat)
            have n1_ := z1o.mk (zf (g := gb335) (o := .cells #[.string (⟨#[]⟩ : ByteArray), .slice none 0 0] 31 (0, 0)) yg hg (Kd.R_ne HO_347001.out BK335.out (by decide)))
            have n2_ := z1o.mk (zf (g := gb339) (o := .cells #[.string t336, u340001] 31 (0, 0)) yv hg (Kd.R_ne HO_347001.out BK339.out (by decide)))
            have n3_ := z1o.mk (zf (g := gb346) (o := .cells #[.string t343, u347001, .slice none 0 0] 84 (0, 0)) y14 hg (Kd.R_ne HO_347001.out BK346.out (by decide)))
            have n4_ := z1o.mk (z1q.grown y6 hg (z1q.own_ne HI0.out HO_347001.out (by decide)))
            have n5_ := z1o.mk (below_weaken ya HL.out hb)
            have n6_ := z1o.mk (z1r.trans y8 (z1r.of_grown hg g) (Kd.R_base2 HO_347001.out))
            have n7_ := z1o.mk (ho)
            clear HO_340001
            clear BK335
            clear BK339
            clear BK346
            clear HI0
            clear HB
            clear HK
            clear HO_347001
            have HO_340001 := n0_
            have BK335 := n1_
            have BK339 := n2_
            have BK346 := n3_
            have HI0 := n4_
            have HB := n5_
            have HK := n6_
            have HO355 := n7_
            clear n0_ n1_ n2_ n3_ n4_ n5_ n6_ n7_
            clear ho hb hg hat
            obtain ⟨Ao34, co34, eo34⟩ := Kd.R_slice HO355.out
            (first | subst eo34 | (injection eo34 with f1_ f2_ f3_; have f4_ := f1_.symm; have f5_ := f3_.symm; clear f1_ f2_ f3_; subst f4_; subst f5_))
            refine hK.out _ _ ⟨(z6 BK346.out 0).trans rfl, (z6 BK346.out 1).trans rfl, (z6 BK346.out 2).trans rfl⟩ (fun hHeld => ?_)
            clear hK K
            refine norm_ (a' := ?_) ?_ ?_
            rotate_left
            ·show Act.put _ (some 45) _ = _
             simp only [Act.put, ub, uc, ud, zn, zo]
             rfl
            refine pure_ (i := 6) (N := some 46) (v := ?_) (a' := ?_) #[true, true, true, true, true, true, true, false] rfl rfl (any_of HT_.out (by kernel_rfl)) (fun _ _ _ h => h) (Or.inl ⟨by rfl, ?_⟩) ?_ ?_
            rotate_left
            ·intro w'
             go_simp
             with_reducible rfl
            rotate_left
            ·simp only [Act.put, ub, uc, ud, zn, zo]
             rfl
            refine last_ (i := 7) (N := none) #[true, true, true, true, true, true, true, true] rfl rfl (one_of HT_.out (by kernel_rfl)) (by decide) (fun K hK => ?_)
            have hs35 : w33.cell? ⟨gb346, 1, none⟩ = some (u347001) := (z6 BK346.out 1).trans rfl
            have hfs35 := z5 BK346.out 1
            have hns35_0 := NB335_346.out
            have hns35_1 := NB339_346.out
            have hms35_0 := NB346_335.out
            have hms35_1 := NB346_339.out
            refine skip_ (w1 := ?_) (by rfl) rfl ?_ ?_
            rotate_left
            ·go_simp
             rfl
            refine hK.out _ _ ?_
            clear hK K
            refine done_ (done_of HT_.out (by kernel_rfl)) ?_
            try go_wp2
            go_roundg k3
            case measure => have := HK1.out; have := HJ10.out; have := HK3.out; omega
            case rel => exact ⟨(wrap64 (x6_3 - 1)), (t351), (t352), (y353), (.slice Ao34 y353.length co34), (by first | rfl | (simp; done) | (simp [*]; done)), H', ⟨by have := HK1.out; have := HJ10.out; have := HK3.out; omega⟩, ⟨by (with_reducible repeat (first | apply Kd.S_alloc | apply Kd.S_drewN | apply Kd.S_drew)); exact Kd.S_mono (Kd.S_far (p := ⟨gb346, 1, none⟩) (Kd.S_mono HO_340001.out (fun k_ hk => (⟨hk, hk.1⟩ : _ ∧ k_ ≠ gb346))) (fun _ hk => hk.2) (.slice Ao34 y353.length co34)) (fun _ hk => ⟨hk.1.2, hk.1.1⟩)⟩, ⟨by (with_reducible repeat (first | apply Kd.R_alloc | apply Kd.R_drewN | apply Kd.R_drew)); exact Kd.R_mono (Kd.R_far (p := ⟨gb346, 1, none⟩) (Kd.R_types HO355.out BK346.out (by decide)) (fun _ hk => hk.2) (.slice Ao34 y353.length co34)) (fun _ hk => trivial)⟩, ⟨by (with_reducible repeat (first | refine z8 ?_ _ | refine z9 ?_ | refine z7 ?_ _)); refine ze ?_ NB335_346.out _; (with_reducible repeat (first | refine z8 ?_ _ | refine z9 ?_ | refine z7 ?_ _)); exact BK335.out⟩, ⟨by (with_reducible repeat (first | refine z8 ?_ _ | refine z9 ?_ | refine z7 ?_ _)); refine ze ?_ NB339_346.out _; (with_reducible repeat (first | refine z8 ?_ _ | refine z9 ?_ | refine z7 ?_ _)); exact BK339.out⟩, ⟨by (with_reducible repeat (first | refine z8 ?_ _ | refine z9 ?_ | refine z7 ?_ _)); refine zd (cs := #[.string t343, u347001, .slice none 0 0]) ?_ 1 _ rfl; (with_reducible repeat (first | refine z8 ?_ _ | refine z9 ?_ | refine z7 ?_ _)); exact BK346.out⟩, ⟨y6⟩, ⟨y8⟩, ⟨ya⟩⟩
           ·rw [if_neg c29] at H
            exact absurd H (by simp)
         ·rw [if_neg c25] at H
          have c25b0 : decide (0 < x6_3) = false := decide_eq_false c25
          clear c25
          (first | rw [c25b0] | (simp only [zn, zo]; rw [c25b0]) | skip)
          have H' := z1o.mk H
          clear H
          go_wp2
          go_meet
          case rel => exact ⟨_, (x1001_3), (x1002_3), (x347001_3), (u347001), H', ⟨by have := HK1.out; have := HJ10.out; have := HK3.out; first | omega | exact um _⟩, ⟨y1p⟩, ⟨y1u⟩, ⟨yg⟩, ⟨yv⟩, ⟨y14⟩, ⟨y6⟩, ⟨y8⟩, ⟨ya⟩⟩
      case rest =>
       clear HC17
       try clear c1
       try clear c2
       try clear p2
       try clear c5
       try clear p6
       try clear c7
       try clear c8
       try clear c9
       try clear c12
       try clear c12b0
       try clear c14
       try clear c20
       try clear c21
       try clear c22
       try clear c25
       try clear c25b0
       try clear c26
       try clear c29
       try clear hcz13_0
       try clear hcz13_1
       try clear hcz13_2
       try clear hcz23_0
       try clear hcz23_1
       try clear hcz23_2
       try clear hcz27_0
       try clear hcz27_1
       try clear hcz27_2
       try clear hcz30_0
       try clear hcz30_1
       try clear hcz30_2
       try clear hcz9_0
       try clear hcz9_1
       try clear hfz13_1
       try clear hfz13_2
       try clear hfz23_0
       try clear hfz23_1
       try clear hfz23_2
       try clear hfz27_1
       try clear hfz27_2
       try clear hfz30_1
       try clear hfz30_2
       try clear hfz9_0
       try clear hfz9_1
       try clear p2
       obtain ⟨kq, x1001_16, x1002_16, x347001_16, u347001, HA, HJ16, HO_340001, HO_347001, BK335, BK339, BK346, HI0, HK, HB⟩ := hcut
       cases kq with
       | zero => exact absurd HA.out (by simp [zx.j3])
       | succ kj16 =>
        have H := HA.out
        clear HA
        simp only [zx.j3] at H
        replace H := ue.mp H
        obtain ⟨⟨t356, t357, t358⟩, A360, H⟩ := H
        replace H : (zx.l2 kj16 x4_1 t356 s0_0 t357 t358 t336 x340001_1 t343 x347001_16 ([] : List Int)) = some (r1, r2, r3, r4) := H
        have A36 := z1o.mk A360
        clear A360
        have H' := z1o.mk H
        clear H
        go_wp2_with (first | ((with_reducible refine zp (f := 97) rfl ?_); refine goesL_ (some 48) rfl rfl Try.func97 (by kernel_rfl) rfl #[.pointer (some ⟨g, 0, none⟩)] rfl (by (try simp only [uh, ui, uj]); first | done | rfl | (simp only [uf, ug]; rfl)) ?_; (with_reducible refine (spec_l06Reader_count.calls kj16 g s0_0 x1001_16 x1002_16 t356 t357 t358 w0 _ ?side1 ?side2 A36.out).mono ?_); (case side1 => exact y6); (case side2 => exact ya); rintro e w37 ⟨rfl, hi, hb, hk⟩; refine ⟨_, rfl, ?_⟩; have n0_ := z1o.mk (Kd.S_mono (Kd.S_keep (z1q.apartS (show z1q w0 _ g s0_0 x1001_16 x1002_16 from y6) y1p (by decide)) hk (fun _ h => h.2)) (fun _ h => h.1)); have n1_ := z1o.mk (Kd.R_mono (Kd.R_keep (z1q.apart (show z1q w0 _ g s0_0 x1001_16 x1002_16 from y6) y1u (by decide)) hk (fun _ h => h.2)) (fun _ h => h.1)); have n2_ := z1o.mk (z1r.blk hk (g' := gb335) (o := .cells #[.string (⟨#[]⟩ : ByteArray), .slice none 0 0] 31 (0, 0)) yg NB335_0.out (by simp)); have n3_ := z1o.mk (z1r.blk hk (g' := gb339) (o := .cells #[.string t336, u340001] 31 (0, 0)) yv NB339_0.out (by simp)); have n4_ := z1o.mk (z1r.blk hk (g' := gb346) (o := .cells #[.string t343, u347001, .slice none 0 0] 84 (0, 0)) y14 NB346_0.out (by simp)); have n5_ := z1o.mk (z1r.trans y8 hk (.inl rfl)); have n6_ := z1o.mk (hb); have n7_ := z1o.mk (hi); clear HO_340001; clear HO_347001; clear BK335; clear BK339; clear BK346; clear HK; clear HB; clear HI0; have HO_340001 := n0_; have HO_347001 := n1_; have BK335 := n2_; have BK339 := n3_; have BK346 := n4_; have HK := n5_; have HB := n6_; have HI0 := n7_; clear n0_ n1_ n2_ n3_ n4_ n5_ n6_ n7_; (try clear hb); (try clear hb2); (try clear hk); (try clear hi)))
        go_loopg [7] kj16 (fun kq v7 w' => ∃ (x7_4 : Int) (x1001_4 : Int) (x1002_4 : Bool) (x347002_4 : List Int) (u347002 : Value), v7 = .int .i64 x7_4 ∧ z1o (zx.l2 kq x4_1 x7_4 s0_0 x1001_4 x1002_4 t336 x340001_1 t343 x347001_16 x347002_4 = some (r1, r2, r3, r4)) ∧ z1o (kq ≤ kj16) ∧ z1o (Kd.S k84 84 w' w.heap.size (fun k_ => some k_ ≠ (u347001 : Value).ownBlock ∧ some k_ ≠ (u347002 : Value).ownBlock ∧ k_ ≠ gb346) u340001 x340001_1) ∧ z1o (Kd.R Kd.string 9 w' w.heap.size (fun _ => True) u347001 x347001_16) ∧ z1o (Kd.R (Kd.int .i64) 3 w' w.heap.size (fun _ => True) u347002 x347002_4) ∧ z1o (w'.heap[gb335]? = some (.cells #[.string (⟨#[]⟩ : ByteArray), (.slice none 0 0)] 31 (0, 0))) ∧ z1o (w'.heap[gb339]? = some (.cells #[.string t336, u340001] 31 (0, 0))) ∧ z1o (w'.heap[gb346]? = some (.cells #[.string t343, u347001, u347002] 84 (0, 0))) ∧ z1o (z1q w0 w' g s0_0 x1001_4 x1002_4) ∧ z1o (z1r w w' g none) ∧ z1o (Below w0.heap.size w0 w'))
        case atStart => exact ⟨(t356), (t357), (t358), (([] : List Int)), (.slice none 0 0), (by first | rfl | (simp; done) | (simp [*]; done)), H', ⟨um _⟩, ⟨by (with_reducible repeat (first | apply Kd.S_alloc | apply Kd.S_drewN | apply Kd.S_drew)); exact Kd.S_mono HO_340001.out (fun _ hk => ⟨hk.1, ⟨(by simp [Value.ownBlock]), hk.2⟩⟩)⟩, ⟨y1u⟩, ⟨by first | exact Kd.R_nil _ _ _ _ _ | exact Kd.N_nil _ _ _ _ _ | exact Kd.V_nil _ _ _ _ _ | exact Kd.Q_nil _ _ _ _ _ | exact Kd.S_nil _ _ _ _ _⟩, ⟨yg⟩, ⟨yv⟩, ⟨y14⟩, ⟨y6⟩, ⟨y8⟩, ⟨ya⟩⟩
        case round =>
         clear H'
         try clear c1
         try clear c2
         try clear p2
         try clear c5
         try clear p6
         try clear c7
         try clear c8
         try clear c9
         try clear c12
         try clear c12b0
         try clear c14
         try clear c20
         try clear c21
         try clear c22
         try clear c25
         try clear c25b0
         try clear c26
         try clear c29
         try clear hcz13_0
         try clear hcz13_1
         try clear hcz13_2
         try clear hcz23_0
         try clear hcz23_1
         try clear hcz23_2
         try clear hcz27_0
         try clear hcz27_1
         try clear hcz27_2
         try clear hcz30_0
         try clear hcz30_1
         try clear hcz30_2
         try clear hcz9_0
         try clear hcz9_1
         try clear hfz13_1
         try clear hfz13_2
         try clear hfz23_0
         try clear hfz23_1
         try clear hfz23_2
         try clear hfz27_1
         try clear hfz27_2
         try clear hfz30_1
         try clear hfz30_2
         try clear hfz9_0
         try clear hfz9_1
         try clear p2
         try clear p6
         obtain ⟨x7_4, x1001_4, x1002_4, x347002_4, u347002, rfl, HA, HK4, HO_340001, HO_347001, HO_347002, BK335, BK339, BK346, HI0, HK, HB⟩ := hrel
         cases gk with
         | zero => exact absurd HA.out (by simp [zx.l2])
         | succ k4 =>
          have H := HA.out
          clear HA
          simp only [zx.l2] at H
          by_cases c38 : x7_4 > 0
          ·rw [if_pos c38] at H
           have c38b0 : decide (0 < x7_4) = true := decide_eq_true c38
           clear c38
           by_cases c39 : x1002_4 = true
           ·subst c39
            have H1 : (if x340001_1.length < 2199023255552 then (zx.l0 k4 (wrap64 (x4_1 - 1)) s0_0 x1001_4 true t336 (x340001_1 ++ [(⟨t343, x347001_16, x347002_4⟩ : S84)])) else (none)) = some (r1, r2, r3, r4) := by rw [if_pos rfl] at H; exact H
            clear H
            have H := H1
            clear H1
            by_cases c40 : x340001_1.length < 2199023255552
            ·rw [if_pos c40] at H
             have LMc40 := z1o.mk c40
             clear c40
             obtain ⟨y359, hy359⟩ : ∃ y_ : List (S84), y_ = (x340001_1 ++ [(⟨t343, x347001_16, x347002_4⟩ : S84)]) := ⟨_, rfl⟩
             replace H : (zx.l0 k4 (wrap64 (x4_1 - 1)) s0_0 x1001_4 true t336 y359) = some (r1, r2, r3, r4) := by first | (rw [hy359]; with_reducible exact H) | (have H2_ := (uk _ _).symm.trans H; rw [hy359]; with_reducible exact H2_) | (have H2_ := (uk _ _).symm.trans H; with_reducible exact H2_) | with_reducible exact H | (rw [hy359]; exact H) | exact H
             have Ny359 := z1o.mk hy359
             clear hy359
             have H' := z1o.mk H
             clear H
             obtain ⟨ASz41_0, cSz41_0, HGz41, hgz41, HSz41_0, -⟩ := HI0.out
             have hcz41_0 := cellS92_0 HGz41
             have hcz41_1 := cellS92_1 HGz41
             have hcz41_2 := cellS92_2 HGz41
             have hfz41_1 := z5 HGz41 1
             have hfz41_2 := z5 HGz41 2
             clear HGz41 hgz41
             have hnb42 := NB339_335.out
             have hnc42 := NB335_339.out
             have hnb43 := NB339_346.out
             have hnc43 := NB346_339.out
             have hnb44 := NB339_0.out
             have hnc44 := NB0_339.out
             obtain ⟨hcz45_0, hcz45_1⟩ := cbk2 BK339.out
             obtain ⟨hfz45_0, hfz45_1⟩ := cbf2 BK339.out
             have hnb46 := NB346_335.out
             have hnc46 := NB335_346.out
             have hnb47 := NB346_0.out
             have hnc47 := NB0_346.out
             obtain ⟨hcz48_0, hcz48_1, hcz48_2⟩ := cbk3 BK346.out
             obtain ⟨hfz48_0, hfz48_1, hfz48_2⟩ := cbf3 BK346.out
             obtain ⟨Ao50, co50, eo50⟩ := Kd.R_slice HO_347001.out
             subst eo50
             obtain ⟨Ao51, co51, eo51⟩ := Kd.R_slice HO_347002.out
             subst eo51
             go_wp2_with (first | ((with_reducible refine zr (b := .append) (xs := #[.tmp 68, .tmp 70]) rfl ?_); at_builtin; refine Kd.S_append k84 w.heap.size rfl (.tmp 68) (.tmp 70) 29 84 (.agg #[(.string ⟨#[]⟩), (.slice none 0 0), (.slice none 0 0)]) 64 rfl Try.underlying29 info84 rfl (by decide) (by omega) u340001 x340001_1 (⟨t343, x347001_16, x347002_4⟩ : S84) [.string t343, .slice Ao50 x347001_16.length co50, .slice Ao51 x347002_4.length co51] (fun k_ => k_ ≠ gb346) (fun k_ => some k_ = (.slice Ao50 x347001_16.length co50 : Value).ownBlock ∨ some k_ = (.slice Ao51 x347002_4.length co51 : Value).ownBlock) rfl rfl ?aP (fun k_ hk_ => hk_.elim (fun h_ => ((Kd.R_mono (ok' := fun k_ => ((fun k_ => k_ ≠ gb346)) k_ ∧ some k_ ≠ (u340001 : Value).ownBlock) (Kd.R_types (Kd.R_apart' (HO_347001.out) (Kd.S_typed HO_340001.out) (by decide)) BK346.out (by decide)) (fun k_ hk => ⟨hk.2, hk.1.2⟩))).1 k_ h_.symm) (fun h_ => ((Kd.R_mono (ok' := fun k_ => ((fun k_ => k_ ≠ gb346)) k_ ∧ some k_ ≠ (u340001 : Value).ownBlock) (Kd.R_types (Kd.R_apart' (HO_347002.out) (Kd.S_typed HO_340001.out) (by decide)) BK346.out (by decide)) (fun k_ hk => ⟨hk.2, hk.1.2⟩))).1 k_ h_.symm)) ?aF ?aO (Below.refl _ _) ?aS ?aL ?_; (case aP => exact k84_mkM _ _ _ (⟨t343, x347001_16, x347002_4⟩ : S84) (Kd.R_mono (Kd.R_tight rfl (Kd.R_mono (ok' := fun k_ => ((fun k_ => k_ ≠ gb346)) k_ ∧ some k_ ≠ (u340001 : Value).ownBlock) (Kd.R_types (Kd.R_apart' (HO_347001.out) (Kd.S_typed HO_340001.out) (by decide)) BK346.out (by decide)) (fun k_ hk => ⟨hk.2, hk.1.2⟩))) (fun _ h_ => Or.inl h_)) (Kd.R_mono (Kd.R_tight rfl (Kd.R_mono (ok' := fun k_ => ((fun k_ => k_ ≠ gb346)) k_ ∧ some k_ ≠ (u340001 : Value).ownBlock) (Kd.R_types (Kd.R_apart' (HO_347002.out) (Kd.S_typed HO_340001.out) (by decide)) BK346.out (by decide)) (fun k_ hk => ⟨hk.2, hk.1.2⟩))) (fun _ h_ => Or.inr (h_)))); (case aF => exact (fun k_ hk => Kd.freshB (g := gb346) (o := .cells #[.string t343, .slice Ao50 x347001_16.length co50, .slice Ao51 x347002_4.length co51] 84 (0, 0)) y14 k_ hk)); (case aO => exact (by (with_reducible repeat (first | apply Kd.S_alloc | apply Kd.S_drewN | apply Kd.S_drew)); exact Kd.S_mono HO_340001.out (fun k_ hk => ⟨hk.2.2, fun e_ => e_.elim (fun h_ => hk.1 h_) (fun h_ => hk.2.1 h_)⟩))); (case aS => exact (keep_size (w := w) (g := g) (row := none) y8)); (case aL => have := LMc40.out; omega); intro v360 w49 ho hb hg hat; rw [← Ny359.out] at ho; have n0_ := z1o.mk (zf (g := gb335) (o := .cells #[.string (⟨#[]⟩ : ByteArray), .slice none 0 0] 31 (0, 0)) yg hg (Kd.S_ne HO_340001.out BK335.out (by decide))); have n1_ := z1o.mk (zf (g := gb339) (o := .cells #[.string t336, u340001] 31 (0, 0)) yv hg (Kd.S_ne HO_340001.out BK339.out (by decide))); have n2_ := z1o.mk (zf (g := gb346) (o := .cells #[.string t343, .slice Ao50 x347001_16.length co50, .slice Ao51 x347002_4.length co51] 84 (0, 0)) y14 hg (Kd.S_away HO_340001.out (fun _ hk => hk.2.2))); have n3_ := z1o.mk (z1q.grown y6 hg (z1q.own_neS HI0.out HO_340001.out (by decide))); have n4_ := z1o.mk (below_weaken ya HL.out hb); have n5_ := z1o.mk (z1r.trans y8 (z1r.of_grown hg g) (Kd.S_base2 HO_340001.out)); have n6_ := z1o.mk (ho); clear BK335; clear BK339; clear BK346; clear HI0; clear HB; clear HK; clear HO_340001; clear HO_347001; clear HO_347002; have BK335 := n0_; have BK339 := n1_; have BK346 := n2_; have HI0 := n3_; have HB := n4_; have HK := n5_; have HO361 := n6_; clear n0_ n1_ n2_ n3_ n4_ n5_ n6_; clear ho hb hg hat; obtain ⟨Ao52, co52, eo52⟩ := Kd.S_slice HO361.out; subst eo52; obtain ⟨hcz53_0, hcz53_1⟩ := cbk2 BK339.out; obtain ⟨hfz53_0, hfz53_1⟩ := cbf2 BK339.out))
             go_roundg k4
             case measure => have := HK1.out; have := HJ10.out; have := HJ16.out; have := HK4.out; omega
             case rel => exact ⟨(wrap64 (x4_1 - 1)), (x1001_4), (true), (y359), (.slice Ao52 y359.length co52), (by first | rfl | (simp; done) | (simp [*]; done)), H', ⟨by have := HK1.out; have := HJ10.out; have := HJ16.out; have := HK4.out; omega⟩, ⟨by (with_reducible repeat (first | apply Kd.S_alloc | apply Kd.S_drewN | apply Kd.S_drew)); exact Kd.S_mono (Kd.S_far (p := ⟨gb339, 1, none⟩) (Kd.S_types HO361.out BK339.out (by decide)) (fun _ hk => hk.2) (.slice Ao52 y359.length co52)) (fun _ hk => trivial)⟩, ⟨by (with_reducible repeat (first | refine z8 ?_ _ | refine z9 ?_ | refine z7 ?_ _)); refine ze ?_ NB335_339.out _; (with_reducible repeat (first | refine z8 ?_ _ | refine z9 ?_ | refine z7 ?_ _)); exact BK335.out⟩, ⟨by (with_reducible repeat (first | refine z8 ?_ _ | refine z9 ?_ | refine z7 ?_ _)); refine zd (cs := #[.string t336, u340001]) ?_ 1 _ rfl; (with_reducible repeat (first | refine z8 ?_ _ | refine z9 ?_ | refine z7 ?_ _)); exact BK339.out⟩, ⟨y6⟩, ⟨y8⟩, ⟨ya⟩⟩
            ·rw [if_neg c40] at H
             exact absurd H (by simp)
           ·replace c39 := Bool.eq_false_iff.mpr c39
            subst c39
            have H1 : ((spec_l06Reader_number.f k4 s0_0 x1001_4 false).bind fun bt362 => (if x347002_4.length < 17592186044416 then (zx.l2 k4 x4_1 (wrap64 (x7_4 - 1)) s0_0 bt362.2.1 bt362.2.2 t336 x340001_1 t343 x347001_16 (x347002_4 ++ [bt362.1])) else (none))) = some (r1, r2, r3, r4) := by rw [if_neg (show ¬ (false = true) by decide)] at H; exact H
            clear H
            have H := H1
            clear H1
            replace H := ue.mp H
            obtain ⟨⟨t362, t363, t364⟩, A540, H⟩ := H
            replace H : (if x347002_4.length < 17592186044416 then (zx.l2 k4 x4_1 (wrap64 (x7_4 - 1)) s0_0 t363 t364 t336 x340001_1 t343 x347001_16 (x347002_4 ++ [t362])) else (none)) = some (r1, r2, r3, r4) := H
            have A54 := z1o.mk A540
            clear A540
            by_cases c55 : x347002_4.length < 17592186044416
            ·rw [if_pos c55] at H
             have LMc55 := z1o.mk c55
             clear c55
             obtain ⟨y365, hy365⟩ : ∃ y_ : List Int, y_ = (x347002_4 ++ [t362]) := ⟨_, rfl⟩
             replace H : (zx.l2 k4 x4_1 (wrap64 (x7_4 - 1)) s0_0 t363 t364 t336 x340001_1 t343 x347001_16 y365) = some (r1, r2, r3, r4) := by first | (rw [hy365]; with_reducible exact H) | (have H2_ := (uk _ _).symm.trans H; rw [hy365]; with_reducible exact H2_) | (have H2_ := (uk _ _).symm.trans H; with_reducible exact H2_) | with_reducible exact H | (rw [hy365]; exact H) | exact H
             have Ny365 := z1o.mk hy365
             clear hy365
             have H' := z1o.mk H
             clear H
             obtain ⟨ASz56_0, cSz56_0, HGz56, hgz56, HSz56_0, -⟩ := HI0.out
             have hcz56_0 := cellS92_0 HGz56
             have hcz56_1 := cellS92_1 HGz56
             have hcz56_2 := cellS92_2 HGz56
             have hfz56_1 := z5 HGz56 1
             have hfz56_2 := z5 HGz56 2
             clear HGz56 hgz56
             try go_wp2
             have n0_ := z1o.mk (Kd.S_drew HO_340001.out)
             have n1_ := z1o.mk (Kd.R_drew HO_347001.out)
             have n2_ := z1o.mk (Kd.R_drew HO_347002.out)
             have n3_ := z1o.mk (z9 BK335.out)
             have n4_ := z1o.mk (z9 BK339.out)
             have n5_ := z1o.mk (z9 BK346.out)
             have n6_ := z1o.mk (z1q.drew HI0.out)
             have n7_ := z1o.mk (zk HK.out)
             have n8_ := z1o.mk (z3 HB.out)
             clear HO_340001
             clear HO_347001
             clear HO_347002
             clear BK335
             clear BK339
             clear BK346
             clear HI0
             clear HK
             clear HB
             have HO_340001 := n0_
             have HO_347001 := n1_
             have HO_347002 := n2_
             have BK335 := n3_
             have BK339 := n4_
             have BK346 := n5_
             have HI0 := n6_
             have HK := n7_
             have HB := n8_
             clear n0_ n1_ n2_ n3_ n4_ n5_ n6_ n7_ n8_
             refine start_ (n := 8) (S := fun w' => w'.cell? ⟨gb346, 0, none⟩ = some (.string t343) ∧ w'.cell? ⟨gb346, 1, none⟩ = some (u347001) ∧ w'.cell? ⟨gb346, 2, none⟩ = some (u347002)) (ds := [7]) #[false, false, false, false, false, false, false, false] (by kernel_rfl) rfl rfl ⟨(z6 BK346.out 0).trans rfl, (z6 BK346.out 1).trans rfl, (z6 BK346.out 2).trans rfl⟩ (fun hHeld => ?_); refine with_tabW zx.tab13 zx.bits13 (fun HT_ HW_ => ?_)
             generalize wr.drew = w57 at HO_340001 HO_347001 HO_347002 BK335 BK339 BK346 HI0 HK HB hHeld ⊢
             refine pure_ (i := 0) (N := some 60) (v := ?_) (a' := ?_) #[true, false, false, false, false, false, false, false] rfl rfl (any_of HT_.out (by kernel_rfl)) (fun _ _ _ h => h) (Or.inl ⟨by rfl, ?_⟩) ?_ ?_
             rotate_left
             ·intro w'
              go_simp
              with_reducible rfl
             rotate_left
             ·simp only [Act.put, ub, uc, ud, zn, zo]
              rfl
             refine pure_ (i := 2) (N := some 62) (v := ?_) (a' := ?_) #[true, false, true, false, false, false, false, false] rfl rfl (any_of HT_.out (by kernel_rfl)) (fun _ _ _ h => h) (Or.inl ⟨by rfl, ?_⟩) ?_ ?_
             rotate_left
             ·intro w'
              go_simp
              with_reducible rfl
             rotate_left
             ·simp only [Act.put, ub, uc, ud, zn, zo]
              rfl
             refine take_ (i := 1) (N := some 61) (v := ?_) (a' := ?_) #[true, true, true, false, false, false, false, false] rfl rfl (take_ofW HT_.out HW_.out (by kernel_rfl)) (fun _ _ _ h => h) (Or.inl ⟨by rfl, ?_⟩) hHeld ?_ ?_
             rotate_left
             ·rintro w' ⟨s0, s1, s2⟩
              go_simp
              with_reducible rfl
             rotate_left
             ·simp only [Act.put, ub, uc, ud, zn, zo]
              rfl
             refine one_ (i := 3) (N := some 63) #[true, true, true, true, false, false, false, false] rfl rfl (one_of HT_.out (by kernel_rfl)) (by decide) (fun K hK => ?_)
             refine goes_ Try.func98 (by kernel_rfl) rfl #[.pointer (some ⟨g, 0, none⟩)] (by rfl) rfl rfl (by (try simp only [uh, ui, uj]); first | done | rfl | (simp only [uf, ug]; rfl)) ?_
             with_reducible refine (spec_l06Reader_number.calls k4 g s0_0 x1001_4 false t362 t363 t364 w0 _ ?side1 ?side2 A54.out).mono ?_
             (case side1 => exact y6)
             (case side2 => exact ya)
             rintro e w58 ⟨rfl, hi, hb, hk⟩
             refine ⟨_, rfl, ?_⟩
             have n0_ := z1o.mk (Kd.S_mono (Kd.S_keep (z1q.apartS (show z1q w0 _ g s0_0 x1001_4 false from y6) y1p (by decide)) hk (fun _ h => h.2)) (fun _ h => h.1))
             have n1_ := z1o.mk (Kd.R_mono (Kd.R_keep (z1q.apart (show z1q w0 _ g s0_0 x1001_4 false from y6) y1u (by decide)) hk (fun _ h => h.2)) (fun _ h => h.1))
             have n2_ := z1o.mk (Kd.R_mono (Kd.R_keep (z1q.apart (show z1q w0 _ g s0_0 x1001_4 false from y6) y2g (by decide)) hk (fun _ h => h.2)) (fun _ h => h.1))
             have n3_ := z1o.mk (z1r.blk hk (g' := gb335) (o := .cells #[.string (⟨#[]⟩ : ByteArray), .slice none 0 0] 31 (0, 0)) yg NB335_0.out (by simp))
             have n4_ := z1o.mk (z1r.blk hk (g' := gb339) (o := .cells #[.string t336, u340001] 31 (0, 0)) yv NB339_0.out (by simp))
             have n5_ := z1o.mk (z1r.blk hk (g' := gb346) (o := .cells #[.string t343, u347001, u347002] 84 (0, 0)) y14 NB346_0.out (by simp))
             have n6_ := z1o.mk (z1r.trans y8 hk (.inl rfl))
             have n7_ := z1o.mk (hb)
             have n8_ := z1o.mk (hi)
             clear HO_340001
             clear HO_347001
             clear HO_347002
             clear BK335
             clear BK339
             clear BK346
             clear HK
             clear HB
             clear HI0
             have HO_340001 := n0_
             have HO_347001 := n1_
             have HO_347002 := n2_
             have BK335 := n3_
             have BK339 := n4_
             have BK346 := n5_
             have HK := n6_
             have HB := n7_
             have HI0 := n8_
             clear n0_ n1_ n2_ n3_ n4_ n5_ n6_ n7_ n8_
             (try clear hb)
             (try clear hb2)
             (try clear hk)
             (try clear hi)
             refine hK.out _ _ ⟨(z6 BK346.out 0).trans rfl, (z6 BK346.out 1).trans rfl, (z6 BK346.out 2).trans rfl⟩ (fun hHeld => ?_)
             clear hK K
             refine norm_ (a' := ?_) ?_ ?_
             rotate_left
             ·show Act.put _ (some 63) _ = _
              simp only [Act.put, ub, uc, ud, zn, zo]
              rfl
             refine one_ (i := 4) (N := some 64) #[true, true, true, true, true, false, false, false] rfl rfl (one_of HT_.out (by kernel_rfl)) (by decide) (fun K hK => ?_)
             refine value_ (w1 := ?_) (v := ?_) (by rfl) rfl ?_ ?_
             rotate_left 2
             ·go_simp
              constructor
              ·rfl
              ·rfl
             refine hK.out _ _ ⟨(z6 (z7 BK346.out _) 0).trans rfl, (z6 (z7 BK346.out _) 1).trans rfl, (z6 (z7 BK346.out _) 2).trans rfl⟩ (fun hHeld => ?_)
             clear hK K
             refine norm_ (a' := ?_) ?_ ?_
             rotate_left
             ·show Act.put _ (some 64) _ = _
              simp only [Act.put, ub, uc, ud, zn, zo]
              rfl
             refine one_ (i := 5) (N := some 65) #[true, true, true, true, true, true, false, false] rfl rfl (one_of HT_.out (by kernel_rfl)) (by decide) (fun K hK => ?_)
             refine Kd.R_append_step (Kd.int .i64) w.heap.size (by rfl) (.tmp 61) (.tmp 64) 52 3 (.int .i64 0) 8 rfl Try.underlying52 info3 rfl (by decide) (by omega) u347002 x347002_4 t362 [.int .i64 t362] (fun _ => True) (fun _ => False) rfl rfl ?aP (fun _ hk => hk.elim) ?aF ?aO (Below.refl _ _) ?aS ?aL ?_
             (case aP => exact rfl)
             (case aF => exact (fun _ _ => trivial))
             (case aO => exact y2g)
             (case aS => exact (keep_size (w := w) (g := g) (row := none) y8))
             (case aL => have := LMc55.out; omega)
             intro v366 w59 ho hb hg hat
             rw [← Ny365.out] at ho
             have n0_ := z1o.mk (Kd.S_after (ok := (fun k_ => some k_ ≠ (u347001 : Value).ownBlock ∧ k_ ≠ gb346)) (by (with_reducible repeat (first | apply Kd.S_alloc | apply Kd.S_drewN | apply Kd.S_drew)); exact Kd.S_mono HO_340001.out (fun _ hk => ⟨⟨hk.1, hk.2.2⟩, hk.2.1⟩)) hg hat)
             have n1_ := z1o.mk (Kd.R_over' y1u (Kd.R_typed y2g) (by decide) hg)
             have n2_ := z1o.mk (zf (g := gb335) (o := .cells #[.string (⟨#[]⟩ : ByteArray), .slice none 0 0] 31 (0, 0)) yg hg (Kd.R_ne HO_347002.out BK335.out (by decide)))
             have n3_ := z1o.mk (zf (g := gb339) (o := .cells #[.string t336, u340001] 31 (0, 0)) yv hg (Kd.R_ne HO_347002.out BK339.out (by decide)))
             have n4_ := z1o.mk (zf (g := gb346) (o := .cells #[.string t343, u347001, u347002] 84 (0, 0)) y14 hg (Kd.R_ne HO_347002.out BK346.out (by decide)))
             have n5_ := z1o.mk (z1q.grown y6 hg (z1q.own_ne HI0.out HO_347002.out (by decide)))
             have n6_ := z1o.mk (below_weaken ya HL.out hb)
             have n7_ := z1o.mk (z1r.trans y8 (z1r.of_grown hg g) (Kd.R_base2 HO_347002.out))
             have n8_ := z1o.mk (ho)
             clear HO_340001
             clear HO_347001
             clear BK335
             clear BK339
             clear BK346
             clear HI0
             clear HB
             clear HK
             clear HO_347002
             have HO_340001 := n0_
             have HO_347001 := n1_
             have BK335 := n2_
             have BK339 := n3_
             have BK346 := n4_
             have HI0 := n5_
             have HB := n6_
             have HK := n7_
             have HO367 := n8_
             clear n0_ n1_ n2_ n3_ n4_ n5_ n6_ n7_ n8_
             clear ho hb hg hat
             obtain ⟨Ao60, co60, eo60⟩ := Kd.R_slice HO367.out
             (first | subst eo60 | (injection eo60 with f1_ f2_ f3_; have f4_ := f1_.symm; have f5_ := f3_.symm; clear f1_ f2_ f3_; subst f4_; subst f5_))
             refine hK.out _ _ ⟨(z6 BK346.out 0).trans rfl, (z6 BK346.out 1).trans rfl, (z6 BK346.out 2).trans rfl⟩ (fun hHeld => ?_)
             clear hK K
             refine norm_ (a' := ?_) ?_ ?_
             rotate_left
             ·show Act.put _ (some 65) _ = _
              simp only [Act.put, ub, uc, ud, zn, zo]
              rfl
             refine pure_ (i := 6) (N := some 66) (v := ?_) (a' := ?_) #[true, true, true, true, true, true, true, false] rfl rfl (any_of HT_.out (by kernel_rfl)) (fun _ _ _ h => h) (Or.inl ⟨by rfl, ?_⟩) ?_ ?_
             rotate_left
             ·intro w'
              go_simp
              with_reducible rfl
             rotate_left
             ·simp only [Act.put, ub, uc, ud, zn, zo]
              rfl
             refine last_ (i := 7) (N := none) #[true, true, true, true, true, true, true, true] rfl rfl (one_of HT_.out (by kernel_rfl)) (by decide) (fun K hK => ?_)
             have hs61 : w59.cell? ⟨gb346, 2, none⟩ = some (u347002) := (z6 BK346.out 2).trans rfl
             have hfs61 := z5 BK346.out 2
             have hns61_0 := NB335_346.out
             have hns61_1 := NB339_346.out
             have hms61_0 := NB346_335.out
             have hms61_1 := NB346_339.out
             refine skip_ (w1 := ?_) (by rfl) rfl ?_ ?_
             rotate_left
             ·go_simp
              rfl
             refine hK.out _ _ ?_
             clear hK K
             refine done_ (done_of HT_.out (by kernel_rfl)) ?_
             try go_wp2
             go_roundg k4
             case measure => have := HK1.out; have := HJ10.out; have := HJ16.out; have := HK4.out; omega
             case rel => exact ⟨(wrap64 (x7_4 - 1)), (t363), (t364), (y365), (.slice Ao60 y365.length co60), (by first | rfl | (simp; done) | (simp [*]; done)), H', ⟨by have := HK1.out; have := HJ10.out; have := HJ16.out; have := HK4.out; omega⟩, ⟨by (with_reducible repeat (first | apply Kd.S_alloc | apply Kd.S_drewN | apply Kd.S_drew)); exact Kd.S_mono (Kd.S_far (p := ⟨gb346, 2, none⟩) (Kd.S_mono HO_340001.out (fun k_ hk => (⟨hk, hk.1.2⟩ : _ ∧ k_ ≠ gb346))) (fun _ hk => hk.2) (.slice Ao60 y365.length co60)) (fun _ hk => ⟨hk.1.1.1, ⟨hk.1.2, hk.1.1.2⟩⟩)⟩, ⟨by (with_reducible repeat (first | apply Kd.R_alloc | apply Kd.R_drewN | apply Kd.R_drew)); exact Kd.R_mono (Kd.R_far (p := ⟨gb346, 2, none⟩) (Kd.R_types HO_347001.out BK346.out (by decide)) (fun _ hk => hk.2) (.slice Ao60 y365.length co60)) (fun _ hk => trivial)⟩, ⟨by (with_reducible repeat (first | apply Kd.R_alloc | apply Kd.R_drewN | apply Kd.R_drew)); exact Kd.R_mono (Kd.R_far (p := ⟨gb346, 2, none⟩) (Kd.R_types HO367.out BK346.out (by decide)) (fun _ hk => hk.2) (.slice Ao60 y365.length co60)) (fun _ hk => trivial)⟩, ⟨by (with_reducible repeat (first | refine z8 ?_ _ | refine z9 ?_ | refine z7 ?_ _)); refine ze ?_ NB335_346.out _; (with_reducible repeat (first | refine z8 ?_ _ | refine z9 ?_ | refine z7 ?_ _)); exact BK335.out⟩, ⟨by (with_reducible repeat (first | refine z8 ?_ _ | refine z9 ?_ | refine z7 ?_ _)); refine ze ?_ NB339_346.out _; (with_reducible repeat (first | refine z8 ?_ _ | refine z9 ?_ | refine z7 ?_ _)); exact BK339.out⟩, ⟨by (with_reducible repeat (first | refine z8 ?_ _ | refine z9 ?_ | refine z7 ?_ _)); refine zd (cs := #[.string t343, u347001, u347002]) ?_ 2 _ rfl; (with_reducible repeat (first | refine z8 ?_ _ | refine z9 ?_ | refine z7 ?_ _)); exact BK346.out⟩, ⟨y6⟩, ⟨y8⟩, ⟨ya⟩⟩
            ·rw [if_neg c55] at H
             exact absurd H (by simp)
          ·rw [if_neg c38] at H
           have c38b0 : decide (0 < x7_4) = false := decide_eq_false c38
           clear c38
           by_cases c62 : x340001_1.length < 2199023255552
           ·rw [if_pos c62] at H
            have LMc62 := z1o.mk c62
            clear c62
            obtain ⟨y368, hy368⟩ : ∃ y_ : List (S84), y_ = (x340001_1 ++ [(⟨t343, x347001_16, x347002_4⟩ : S84)]) := ⟨_, rfl⟩
            replace H : (zx.l0 k4 (wrap64 (x4_1 - 1)) s0_0 x1001_4 x1002_4 t336 y368) = some (r1, r2, r3, r4) := by first | (rw [hy368]; with_reducible exact H) | (have H2_ := (uk _ _).symm.trans H; rw [hy368]; with_reducible exact H2_) | (have H2_ := (uk _ _).symm.trans H; with_reducible exact H2_) | with_reducible exact H | (rw [hy368]; exact H) | exact H
            have Ny368 := z1o.mk hy368
            clear hy368
            have H' := z1o.mk H
            clear H
            have hnb63 := NB339_335.out
            have hnc63 := NB335_339.out
            have hnb64 := NB339_346.out
            have hnc64 := NB346_339.out
            have hnb65 := NB339_0.out
            have hnc65 := NB0_339.out
            obtain ⟨hcz66_0, hcz66_1⟩ := cbk2 BK339.out
            obtain ⟨hfz66_0, hfz66_1⟩ := cbf2 BK339.out
            have hnb67 := NB346_335.out
            have hnc67 := NB335_346.out
            have hnb68 := NB346_0.out
            have hnc68 := NB0_346.out
            obtain ⟨hcz69_0, hcz69_1, hcz69_2⟩ := cbk3 BK346.out
            obtain ⟨hfz69_0, hfz69_1, hfz69_2⟩ := cbf3 BK346.out
            obtain ⟨Ao71, co71, eo71⟩ := Kd.R_slice HO_347001.out
            subst eo71
            obtain ⟨Ao72, co72, eo72⟩ := Kd.R_slice HO_347002.out
            subst eo72
            go_wp2_with (first | ((with_reducible refine zr (b := .append) (xs := #[.tmp 68, .tmp 70]) rfl ?_); at_builtin; refine Kd.S_append k84 w.heap.size rfl (.tmp 68) (.tmp 70) 29 84 (.agg #[(.string ⟨#[]⟩), (.slice none 0 0), (.slice none 0 0)]) 64 rfl Try.underlying29 info84 rfl (by decide) (by omega) u340001 x340001_1 (⟨t343, x347001_16, x347002_4⟩ : S84) [.string t343, .slice Ao71 x347001_16.length co71, .slice Ao72 x347002_4.length co72] (fun k_ => k_ ≠ gb346) (fun k_ => some k_ = (.slice Ao71 x347001_16.length co71 : Value).ownBlock ∨ some k_ = (.slice Ao72 x347002_4.length co72 : Value).ownBlock) rfl rfl ?aP (fun k_ hk_ => hk_.elim (fun h_ => ((Kd.R_mono (ok' := fun k_ => ((fun k_ => k_ ≠ gb346)) k_ ∧ some k_ ≠ (u340001 : Value).ownBlock) (Kd.R_types (Kd.R_apart' (HO_347001.out) (Kd.S_typed HO_340001.out) (by decide)) BK346.out (by decide)) (fun k_ hk => ⟨hk.2, hk.1.2⟩))).1 k_ h_.symm) (fun h_ => ((Kd.R_mono (ok' := fun k_ => ((fun k_ => k_ ≠ gb346)) k_ ∧ some k_ ≠ (u340001 : Value).ownBlock) (Kd.R_types (Kd.R_apart' (HO_347002.out) (Kd.S_typed HO_340001.out) (by decide)) BK346.out (by decide)) (fun k_ hk => ⟨hk.2, hk.1.2⟩))).1 k_ h_.symm)) ?aF ?aO (Below.refl _ _) ?aS ?aL ?_; (case aP => exact k84_mkM _ _ _ (⟨t343, x347001_16, x347002_4⟩ : S84) (Kd.R_mono (Kd.R_tight rfl (Kd.R_mono (ok' := fun k_ => ((fun k_ => k_ ≠ gb346)) k_ ∧ some k_ ≠ (u340001 : Value).ownBlock) (Kd.R_types (Kd.R_apart' (HO_347001.out) (Kd.S_typed HO_340001.out) (by decide)) BK346.out (by decide)) (fun k_ hk => ⟨hk.2, hk.1.2⟩))) (fun _ h_ => Or.inl h_)) (Kd.R_mono (Kd.R_tight rfl (Kd.R_mono (ok' := fun k_ => ((fun k_ => k_ ≠ gb346)) k_ ∧ some k_ ≠ (u340001 : Value).ownBlock) (Kd.R_types (Kd.R_apart' (HO_347002.out) (Kd.S_typed HO_340001.out) (by decide)) BK346.out (by decide)) (fun k_ hk => ⟨hk.2, hk.1.2⟩))) (fun _ h_ => Or.inr (h_)))); (case aF => exact (fun k_ hk => Kd.freshB (g := gb346) (o := .cells #[.string t343, .slice Ao71 x347001_16.length co71, .slice Ao72 x347002_4.length co72] 84 (0, 0)) y14 k_ hk)); (case aO => exact (by (with_reducible repeat (first | apply Kd.S_alloc | apply Kd.S_drewN | apply Kd.S_drew)); exact Kd.S_mono HO_340001.out (fun k_ hk => ⟨hk.2.2, fun e_ => e_.elim (fun h_ => hk.1 h_) (fun h_ => hk.2.1 h_)⟩))); (case aS => exact (keep_size (w := w) (g := g) (row := none) y8)); (case aL => have := LMc62.out; omega); intro v369 w70 ho hb hg hat; rw [← Ny368.out] at ho; have n0_ := z1o.mk (zf (g := gb335) (o := .cells #[.string (⟨#[]⟩ : ByteArray), .slice none 0 0] 31 (0, 0)) yg hg (Kd.S_ne HO_340001.out BK335.out (by decide))); have n1_ := z1o.mk (zf (g := gb339) (o := .cells #[.string t336, u340001] 31 (0, 0)) yv hg (Kd.S_ne HO_340001.out BK339.out (by decide))); have n2_ := z1o.mk (zf (g := gb346) (o := .cells #[.string t343, .slice Ao71 x347001_16.length co71, .slice Ao72 x347002_4.length co72] 84 (0, 0)) y14 hg (Kd.S_away HO_340001.out (fun _ hk => hk.2.2))); have n3_ := z1o.mk (z1q.grown y6 hg (z1q.own_neS HI0.out HO_340001.out (by decide))); have n4_ := z1o.mk (below_weaken ya HL.out hb); have n5_ := z1o.mk (z1r.trans y8 (z1r.of_grown hg g) (Kd.S_base2 HO_340001.out)); have n6_ := z1o.mk (ho); clear BK335; clear BK339; clear BK346; clear HI0; clear HB; clear HK; clear HO_340001; clear HO_347001; clear HO_347002; have BK335 := n0_; have BK339 := n1_; have BK346 := n2_; have HI0 := n3_; have HB := n4_; have HK := n5_; have HO370 := n6_; clear n0_ n1_ n2_ n3_ n4_ n5_ n6_; clear ho hb hg hat; obtain ⟨Ao73, co73, eo73⟩ := Kd.S_slice HO370.out; subst eo73; obtain ⟨hcz74_0, hcz74_1⟩ := cbk2 BK339.out; obtain ⟨hfz74_0, hfz74_1⟩ := cbf2 BK339.out))
            go_roundg k4
            case measure => have := HK1.out; have := HJ10.out; have := HJ16.out; have := HK4.out; omega
            case rel => exact ⟨(wrap64 (x4_1 - 1)), (x1001_4), (x1002_4), (y368), (.slice Ao73 y368.length co73), (by first | rfl | (simp; done) | (simp [*]; done)), H', ⟨by have := HK1.out; have := HJ10.out; have := HJ16.out; have := HK4.out; omega⟩, ⟨by (with_reducible repeat (first | apply Kd.S_alloc | apply Kd.S_drewN | apply Kd.S_drew)); exact Kd.S_mono (Kd.S_far (p := ⟨gb339, 1, none⟩) (Kd.S_types HO370.out BK339.out (by decide)) (fun _ hk => hk.2) (.slice Ao73 y368.length co73)) (fun _ hk => trivial)⟩, ⟨by (with_reducible repeat (first | refine z8 ?_ _ | refine z9 ?_ | refine z7 ?_ _)); refine ze ?_ NB335_339.out _; (with_reducible repeat (first | refine z8 ?_ _ | refine z9 ?_ | refine z7 ?_ _)); exact BK335.out⟩, ⟨by (with_reducible repeat (first | refine z8 ?_ _ | refine z9 ?_ | refine z7 ?_ _)); refine zd (cs := #[.string t336, u340001]) ?_ 1 _ rfl; (with_reducible repeat (first | refine z8 ?_ _ | refine z9 ?_ | refine z7 ?_ _)); exact BK339.out⟩, ⟨y6⟩, ⟨y8⟩, ⟨ya⟩⟩
           ·rw [if_neg c62] at H
            exact absurd H (by simp)
     ·replace c14 := Bool.eq_false_iff.mpr c14
      subst c14
      have H1 : (some (t336, x340001_1, x1001_1, x1002_1)) = some (r1, r2, r3, r4) := by rw [if_neg (show ¬ (false = true) by decide)] at H; exact H
      clear H
      have H := H1
      clear H1
      simp only [Option.some.injEq, Prod.mk.injEq] at H
      obtain ⟨rfl, rfl, rfl, rfl⟩ := H
      have hnb75 := NB339_335.out
      have hnc75 := NB335_339.out
      have hnb76 := NB339_0.out
      have hnc76 := NB0_339.out
      obtain ⟨hcz77_0, hcz77_1⟩ := cbk2 BK339.out
      obtain ⟨hfz77_0, hfz77_1⟩ := cbf2 BK339.out
      have hnb78 := NB335_0.out
      have hnc78 := NB0_335.out
      obtain ⟨hcz79_0, hcz79_1⟩ := cbk2 BK335.out
      obtain ⟨hfz79_0, hfz79_1⟩ := cbf2 BK335.out
      obtain ⟨Ao80, co80, eo80⟩ := Kd.S_slice HO_340001.out
      subst eo80
      go_wp2
      refine bodyPost_ret (results_cell_row rfl _ _ gb335 31 #[.string t336, .slice Ao80 x340001_1.length co80] (0, 0) _ rfl (by (with_reducible repeat (first | refine z8 ?_ _ | refine z9 ?_ | refine z7 ?_ _)); refine zd (cs := #[.string t336, .slice none 0 0]) ?_ 1 _ rfl; (with_reducible repeat (first | refine z8 ?_ _ | refine z9 ?_ | refine z7 ?_ _)); refine zd (cs := #[.string (⟨#[]⟩ : ByteArray), .slice none 0 0]) ?_ 0 _ rfl; (with_reducible repeat (first | refine z8 ?_ _ | refine z9 ?_ | refine z7 ?_ _)); exact BK335.out) Try.underlying31 rfl (by kernel_rfl)) rfl ?_
      exact ⟨_, by first | rfl | (simp [zm, zl] <;> rfl) | (simp [*, zm, zl] <;> rfl), by (with_reducible repeat (first | apply Kd.S_alloc | apply Kd.S_drewN | apply Kd.S_drew)); exact Kd.S_mono (Kd.S_far (p := ⟨gb335, 1, none⟩) (Kd.S_far (p := ⟨gb335, 0, none⟩) (Kd.S_types HO_340001.out BK335.out (by decide)) (fun _ hk => hk.2) (.string t336)) (fun _ hk => hk.2) (.slice Ao80 x340001_1.length co80)) (fun _ hk => trivial), yl, y13, y11⟩
end Go.Proofs.Ytndjodgcemgpfaa.Q
end
section
namespace Go.Proofs.Ytndjodgcemgpfaa.Q
open Go.RowKit Go.Proofs.YtndjodgcemgpfaaW.PrintWords Go.Proofs.YtndjodgcemgpfaaW.PrintLast Go.Proofs.YtndjodgcemgpfaaW.PrintMore
def spec_ReadDoc.f (k : Nat) (l0 : List Int) : Option (ByteArray × List S84 × Int) := if (l0.length : Int) > 1048576 then some (ByteArray.empty, [], 2) else (zx.f k l0 0 false).bind fun t => if t.2.2.2 = true then some (ByteArray.empty, [], 15) else if t.2.2.1 = (l0.length : Int) then some (t.1, t.2.1, 0) else some (ByteArray.empty, [], 15)
set_option maxHeartbeats 8000000 in
set_option maxRecDepth 100000 in
theorem spec_ReadDoc.calls (k : Nat) (A0 : Option Addr) (c0 : Nat) (l0 : List Int) (r1 : ByteArray) (r2 : List S84) (r3 : Int) (w : World) (hr0 : Kd.C (Kd.int .u8) w A0 l0.length l0) (hc0 : l0.length ≤ c0) (h : spec_ReadDoc.f k l0 = some (r1, r2, r3)) :
    Calls Try.prog 18 #[.slice A0 l0.length c0] w fun e w' => ∃ v1_ : Value, e = .returned (.tuple #[.agg #[.string r1, v1_], .int .i64 r3]) ∧ Kd.S k84 84 w' w.heap.size (fun _ => True) v1_ r2 ∧ Below w.heap.size w w' := by
  unfold spec_ReadDoc.f at h
  have HR := z1o.mk hr0
  have HC := z1o.mk hc0
  clear hr0 hc0
  have hu31 := Try.underlying31
  have hu92 := Try.underlying92
  have HB := z1o.mk (Below.refl w.heap.size w)
  by_cases k1 : (l0.length : Int) > 1048576
  · rw [if_pos k1] at h
    have k1' : decide (1048576 < (l0.length : Int)) = true := decide_eq_true k1
    clear k1
    simp only [Option.some.injEq, Prod.mk.injEq] at h
    obtain ⟨rfl, rfl, rfl⟩ := h
    go_enter Try.func18, Try.ntmps18
    go_wp2_with fail
    refine bodyPost_ret (results_list (rs := [.cell 2 31, .tmp 3]) rfl (by simp) (.cell w.heap.size 31 #[.string ⟨#[]⟩, .slice none 0 0] (0, 0) _ rfl (blk_new w _) Try.underlying31 rfl (by kernel_rfl) (.tmp .nil))) rfl ?_
    exact ⟨_, rfl, Kd.S_nil _ _ _ _ _, z2 HB.out _⟩
  · rw [if_neg k1] at h
    have k1' : decide (1048576 < (l0.length : Int)) = false := decide_eq_false k1
    clear k1
    obtain ⟨⟨t1, t2, t3, t4⟩, h1, h⟩ := ue.mp h
    have H1 := z1o.mk h1
    clear h1
    replace h : (if t4 = true then some (ByteArray.empty, [], 15) else if t3 = (l0.length : Int) then some (t1, t2, 0) else some (ByteArray.empty, [], 15)) = some (r1, r2, r3) := h
    have HH := z1o.mk h
    clear h
    go_enter Try.func18, Try.ntmps18
    go_wp2_with fail
    go_at_call 57
    refine (zx.calls k (w.heap.size + 1) l0 0 false t1 t2 t3 t4 w _ (by simpa using z1q.new w (w.alloc _) A0 c0 l0 0 false (z2 HB.out _) HR.out HC.out) (z2 (z2 HB.out _) _) H1.out).mono ?_
    rintro e w1 ⟨v1, rfl, hS, hI, hB, hK⟩
    have hb2 := hK.blk (z7 (blk_new w (.cells #[.string ⟨#[]⟩, .slice none 0 0] 31)) _) (show w.heap.size ≠ w.heap.size + 1 by omega) (by simp)
    have B2 := z1o.mk hb2
    have HS := z1o.mk (Kd.S_span hS (show w.heap.size ≤ ((w.alloc _).alloc _).heap.size by simp; omega))
    have HI := z1o.mk hI
    have HB1 := z1o.mk hB
    have h2 := hB.size
    obtain ⟨A1, c1, e1⟩ := Kd.S_slice hS
    subst e1
    clear hS hI hB hK hb2 HB H1
    obtain ⟨AX, cX, HG, _, _, _⟩ := z1q.alloc HI.out (.cells #[.string t1, .slice A1 t2.length c1] 31)
    have hx1 := cellS92_1 HG
    have hx2 := cellS92_2 HG
    clear HG
    have hy := z7 B2.out (.cells #[.string t1, .slice A1 t2.length c1] 31)
    have BY := z1o.mk hy
    have hy0 := (z6 hy 0).trans rfl
    have hy1 := (z6 hy 1).trans rfl
    have hyf := z5 hy
    clear hy
    cases t4 with
    | true =>
      have h := HH.out
      rw [if_pos rfl] at h
      simp only [Option.some.injEq, Prod.mk.injEq] at h
      obtain ⟨rfl, rfl, rfl⟩ := h
      go_wp2_with fail
      refine bodyPost_ret (results_list (rs := [.cell 2 31, .tmp 3]) rfl (by simp) (.cell w.heap.size 31 #[.string ⟨#[]⟩, .slice none 0 0] (0, 0) _ rfl (by simpa using blk_set (blk_set BY.out 0 _) 1 _) Try.underlying31 rfl (by kernel_rfl) (.tmp .nil))) rfl ?_
      exact ⟨_, rfl, Kd.S_nil _ _ _ _ _, z4 (z4 (z2 HB1.out _) (um _)) (um _)⟩
    | false =>
      have h := HH.out
      rw [if_neg (by simp)] at h
      by_cases k2 : t3 = (l0.length : Int)
      · rw [if_pos k2] at h
        simp only [Option.some.injEq, Prod.mk.injEq] at h
        obtain ⟨rfl, rfl, rfl⟩ := h
        clear HH
        subst k2
        go_wp2_with fail
        refine bodyPost_ret (results_list (rs := [.cell 2 31, .tmp 3]) rfl (by simp) (.cell w.heap.size 31 #[.string t1, .slice A1 t2.length c1] (0, 0) _ rfl (by simpa using blk_set (blk_set BY.out 0 _) 1 _) Try.underlying31 rfl (by kernel_rfl) (.tmp .nil))) rfl ?_
        exact ⟨_, rfl, Kd.S_mono (Kd.S_kept HS.out (((Kept.alloc (Kept.refl w1 (fun k_ => k_ = w.heap.size)) _).setCell (.inl rfl) _).setCell (.inl rfl) _) (fun k_ h1_ h2_ => by have h1_ := h1_.1; simp at h1_; omega)) (fun _ _ => trivial), z4 (z4 (z2 HB1.out _) (um _)) (um _)⟩
      · rw [if_neg k2] at h
        simp only [Option.some.injEq, Prod.mk.injEq] at h
        obtain ⟨rfl, rfl, rfl⟩ := h
        clear HH
        go_wp2_with fail
        all_goals first
          | (exfalso; omega)
          | (refine bodyPost_ret (results_list (rs := [.cell 2 31, .tmp 3]) rfl (by simp) (.cell w.heap.size 31 #[.string ⟨#[]⟩, .slice none 0 0] (0, 0) _ rfl (by simpa using blk_set (blk_set BY.out 0 _) 1 _) Try.underlying31 rfl (by kernel_rfl) (.tmp .nil))) rfl ?_
             exact ⟨_, rfl, Kd.S_nil _ _ _ _ _, z4 (z4 (z2 HB1.out _) (um _)) (um _)⟩)
end Go.Proofs.Ytndjodgcemgpfaa.Q
end
section
namespace Go.Proofs.Ytndjodgcemgpfaa.Q
open Go.RowKit Go.Proofs.YtndjodgcemgpfaaW.PrintWords Go.Proofs.YtndjodgcemgpfaaW.PrintLast Go.Proofs.YtndjodgcemgpfaaW.PrintMore
attribute [local go_sem] max2_int min2_int max_two min_two max_three min_three max_four min_four
def z1p (w0 W : World) (g : Nat) (f0 : List Int) (f1 : Int) (f2 : Bool) : Prop := ∃ A0 c0, W.heap[g]? = some (.cells #[.slice A0 f0.length c0, .int .i64 f1, .bool f2] 96 (0, 0)) ∧ w0.heap.size ≤ g ∧ Kd.C (Kd.int .u8) w0 A0 f0.length f0 ∧ f0.length ≤ c0
theorem z1p.grown {w0 W : World} {g : Nat} {f0 : List Int} {f1 : Int} {f2 : Bool} {W1 : World} {row : Option Nat} (h : z1p w0 W g f0 f1 f2) (hw : W.grownBy W1 row) (hne : some g ≠ row) : z1p w0 W1 g f0 f1 f2 := by
 obtain ⟨A0, c0, hb, hg, hr0, hz0⟩ := h
 exact ⟨A0, c0, zf hb hw hne, hg, hr0, hz0⟩
theorem z1p.kept {w0 W : World} {g : Nat} {f0 : List Int} {f1 : Int} {f2 : Bool} {W1 : World} {S : Nat → Prop} (h : z1p w0 W g f0 f1 f2) (hk : Kept W W1 S) (hne : ¬ S g) : z1p w0 W1 g f0 f1 f2 := by
 obtain ⟨A0, c0, hb, hg, hr0, hz0⟩ := h
 exact ⟨A0, c0, blk_kept hb hk hne, hg, hr0, hz0⟩
theorem z1p.below {w0 W : World} {g : Nat} {f0 : List Int} {f1 : Int} {f2 : Bool} {W1 : World} (h : z1p w0 W g f0 f1 f2) (hw : Below W.heap.size W W1) : z1p w0 W1 g f0 f1 f2 := h.grown (grown_of_below hw none) (by simp)
theorem z1p.alloc {w0 W : World} {g : Nat} {f0 : List Int} {f1 : Int} {f2 : Bool} (h : z1p w0 W g f0 f1 f2) (o : Obj) : z1p w0 (W.alloc o) g f0 f1 f2 := h.below (z2 (Below.refl _ _) o)
theorem z1p.drewN {w0 W : World} {g : Nat} {f0 : List Int} {f1 : Int} {f2 : Bool} (h : z1p w0 W g f0 f1 f2) (m : Nat) : z1p w0 (W.drewN m) g f0 f1 f2 := h
theorem z1p.drew {w0 W : World} {g : Nat} {f0 : List Int} {f1 : Int} {f2 : Bool} (h : z1p w0 W g f0 f1 f2) : z1p w0 W.drew g f0 f1 f2 := h
theorem z1p.at_ {w0 W : World} {g : Nat} {f0 : List Int} {f1 : Int} {f2 : Bool} {w' : World} {m : Nat} (hq : W.drewN m = w') (h : z1p w0 W g f0 f1 f2) : z1p w0 w' g f0 f1 f2 := by subst hq; exact z1p.drewN h m
theorem z1p.apart {w0 W : World} {g : Nat} {f0 : List Int} {f1 : Int} {f2 : Bool} {α : Type} {d : Kd α} {e : Nat} {base : Nat} {ok : Nat → Prop} {v : Value} {xs : List α} (h : z1p w0 W g f0 f1 f2) (ho : d.R e W base ok v xs) (ht : ∀ q, q ∈ e :: d.E → q ≠ 96) : d.R e W base (fun k => ok k ∧ k ≠ g) v xs := by
 obtain ⟨A0, c0, hb, hg, hr0, hz0⟩ := h
 exact Kd.R_types ho hb ht
theorem z1p.own_ne {w0 W : World} {g : Nat} {f0 : List Int} {f1 : Int} {f2 : Bool} {α : Type} {d : Kd α} {e : Nat} {base : Nat} {ok : Nat → Prop} {v : Value} {xs : List α} (h : z1p w0 W g f0 f1 f2) (ho : d.R e W base ok v xs) (ht : e ≠ 96) : some g ≠ v.ownBlock := by
 obtain ⟨A0, c0, hb, hg, hr0, hz0⟩ := h
 exact Kd.R_ne ho hb ht
theorem z1p.apartS {w0 W : World} {g : Nat} {f0 : List Int} {f1 : Int} {f2 : Bool} {α : Type} {d : Kd α} {e : Nat} {base : Nat} {ok : Nat → Prop} {v : Value} {xs : List α} (h : z1p w0 W g f0 f1 f2) (ho : d.S e W base ok v xs) (ht : ∀ q, q ∈ e :: d.E → q ≠ 96) : d.S e W base (fun k => ok k ∧ k ≠ g) v xs := by
 obtain ⟨A0, c0, hb, hg, hr0, hz0⟩ := h
 exact Kd.S_types ho hb ht
theorem z1p.own_neS {w0 W : World} {g : Nat} {f0 : List Int} {f1 : Int} {f2 : Bool} {α : Type} {d : Kd α} {e : Nat} {base : Nat} {ok : Nat → Prop} {v : Value} {xs : List α} (h : z1p w0 W g f0 f1 f2) (ho : d.S e W base ok v xs) (ht : e ≠ 96) : some g ≠ v.ownBlock := by
 obtain ⟨A0, c0, hb, hg, hr0, hz0⟩ := h
 exact Kd.S_ne ho hb ht
theorem z1p.lt {w0 W : World} {g : Nat} {f0 : List Int} {f1 : Int} {f2 : Bool} (h : z1p w0 W g f0 f1 f2) : g < W.heap.size := by
 obtain ⟨A0, c0, hb, hg, hr0, hz0⟩ := h
 exact zg hb
theorem z1p.ge {w0 W : World} {g : Nat} {f0 : List Int} {f1 : Int} {f2 : Bool} (h : z1p w0 W g f0 f1 f2) : w0.heap.size ≤ g := by
 obtain ⟨A0, c0, hb, hg, hr0, hz0⟩ := h
 exact hg
theorem z1p.far {w0 W : World} {g : Nat} {f0 : List Int} {f1 : Int} {f2 : Bool} {p : Addr} (h : z1p w0 W g f0 f1 f2) (hne : g ≠ p.block) (u : Value) : z1p w0 (W.setCell p u) g f0 f1 f2 := by
 obtain ⟨A0, c0, hb, hg, hr0, hz0⟩ := h
 exact ⟨A0, c0, ze hb hne u, hg, hr0, hz0⟩
theorem cellS96_0 {W : World} {g : Nat} {A0 : Option Addr} {c0 : Nat} {f0 : List Int} {f1 : Int} {f2 : Bool} (h : W.heap[g]? = some (.cells #[.slice A0 f0.length c0, .int .i64 f1, .bool f2] 96 (0, 0))) : W.cell? ⟨g, 0, none⟩ = some (.slice A0 f0.length c0) := (z6 h 0).trans rfl
theorem cellS96_1 {W : World} {g : Nat} {A0 : Option Addr} {c0 : Nat} {f0 : List Int} {f1 : Int} {f2 : Bool} (h : W.heap[g]? = some (.cells #[.slice A0 f0.length c0, .int .i64 f1, .bool f2] 96 (0, 0))) : W.cell? ⟨g, 1, none⟩ = some (.int .i64 f1) := (z6 h 1).trans rfl
theorem z1p.set_1 {w0 W : World} {g : Nat} {f0 : List Int} {f1 : Int} {f2 : Bool} (h : z1p w0 W g f0 f1 f2) (x : Int) : z1p w0 (W.setCell ⟨g, 1, none⟩ (.int .i64 x)) g f0 x f2 := by
 obtain ⟨A0, c0, hb, hg, hr0, hz0⟩ := h
 exact ⟨A0, c0, by simpa using blk_set hb 1 (.int .i64 x), hg, hr0, hz0⟩
theorem cellS96_2 {W : World} {g : Nat} {A0 : Option Addr} {c0 : Nat} {f0 : List Int} {f1 : Int} {f2 : Bool} (h : W.heap[g]? = some (.cells #[.slice A0 f0.length c0, .int .i64 f1, .bool f2] 96 (0, 0))) : W.cell? ⟨g, 2, none⟩ = some (.bool f2) := (z6 h 2).trans rfl
theorem z1p.set_2 {w0 W : World} {g : Nat} {f0 : List Int} {f1 : Int} {f2 : Bool} (h : z1p w0 W g f0 f1 f2) (x : Bool) : z1p w0 (W.setCell ⟨g, 2, none⟩ (.bool x)) g f0 f1 x := by
 obtain ⟨A0, c0, hb, hg, hr0, hz0⟩ := h
 exact ⟨A0, c0, by simpa using blk_set hb 2 (.bool x), hg, hr0, hz0⟩
theorem z1p.new (w0 W : World) (A0 : Option Addr) (c0 : Nat) (f0 : List Int) (f1 : Int) (f2 : Bool) (hB : Below w0.heap.size w0 W) (hr0 : Kd.C (Kd.int .u8) w0 A0 f0.length f0) (hz0 : f0.length ≤ c0) : z1p w0 (W.alloc (.cells #[.slice A0 f0.length c0, .int .i64 f1, .bool f2] 96)) W.heap.size f0 f1 f2 := ⟨A0, c0, by simpa using heap_alloc_new W _, hB.size, hr0, hz0⟩
mutual
def z1e.l0 : Nat → List Int → Int → Int → Int → Option (Int × Int × Int)
 | 0, _, _, _, _ => none
 | k + 1, x0, x1, x7, x8 => if x8 < 9 then (z1e.j1 k x0 x1 x7 x8 (decide ((wrap64 (x1 + x8)) < (x0.length : Int)))) else (z1e.j1 k x0 x1 x7 x8 false)
def z1e.j1 : Nat → List Int → Int → Int → Int → Bool → Option (Int × Int × Int)
 | 0, _, _, _, _, _ => none
 | k + 1, x0, x1, x7, x8, x27 => if x27 = true then (if 0 ≤ (wrap64 (x1 + x8)) then (if (wrap64 (x1 + x8)) < (x0.length : Int) then (if 0 ≤ (wrap64 (7 * x8)) then (if (rd x0 (wrap64 (x1 + x8))) < 128 then (if (Go.bits .or .i64 x7 (shl .i64 (wrap64 (Go.bits .and .u8 (rd x0 (wrap64 (x1 + x8))) 127)) (wrap64 (7 * x8)))) > 4611686018427387903 then (some (0, 0, 3)) else (if (Go.bits .or .i64 x7 (shl .i64 (wrap64 (Go.bits .and .u8 (rd x0 (wrap64 (x1 + x8))) 127)) (wrap64 (7 * x8)))) < 0 then (some (0, 0, 3)) else (if (rd x0 (wrap64 (x1 + x8))) = 0 then (if x8 > 0 then (some (0, 0, 3)) else (some (Go.bits .or .i64 x7 (shl .i64 (wrap64 (Go.bits .and .u8 (rd x0 (wrap64 (x1 + x8))) 127)) (wrap64 (7 * x8))), wrap64 ((wrap64 (x1 + x8)) + 1), 0))) else (some (Go.bits .or .i64 x7 (shl .i64 (wrap64 (Go.bits .and .u8 (rd x0 (wrap64 (x1 + x8))) 127)) (wrap64 (7 * x8))), wrap64 ((wrap64 (x1 + x8)) + 1), 0))))) else (z1e.l0 k x0 x1 (Go.bits .or .i64 x7 (shl .i64 (wrap64 (Go.bits .and .u8 (rd x0 (wrap64 (x1 + x8))) 127)) (wrap64 (7 * x8)))) (wrap64 (x8 + 1)))) else (none)) else (none)) else (none)) else (some (0, 0, 3))
end
def z1e.f (k : Nat) (l0 : List Int) (a1 : Int) : Option (Int × Int × Int) := if (l0.length : Int) > 1048576 then (some (0, 0, 2)) else ((impl_within.f a1 0 (l0.length : Int)).bind fun t376 => (if t376 = true then (z1e.l0 k l0 a1 0 0) else (some (0, 0, 1))))
set_option maxHeartbeats 8000000 in
set_option maxRecDepth 100000 in
theorem z1e.calls (k : Nat) (A0 : Option Addr) (c0 : Nat) (l0 : List Int) (a1 : Int) (r1 : Int) (r2 : Int) (r3 : Int) (w : World) (hr0 : Kd.C (Kd.int .u8) w A0 l0.length l0) (hc0 : l0.length ≤ c0) (h : z1e.f k l0 a1 = some (r1, r2, r3)) :
  Calls Try.prog 113 #[.slice A0 l0.length c0, .int .i64 a1] w fun e w' => e = .returned (.tuple #[.int .i64 r1, .int .i64 r2, .int .i64 r3]) ∧ Drawn0 w w' := by
 have HR0 := z1o.mk hr0
 have HC0 := z1o.mk hc0
 clear hr0 hc0
 have H : (if (l0.length : Int) > 1048576 then (some (0, 0, 2)) else ((impl_within.f a1 0 (l0.length : Int)).bind fun t376 => (if t376 = true then (z1e.l0 k l0 a1 0 0) else (some (0, 0, 1))))) = some (r1, r2, r3) := h
 clear h
 by_cases c3 : (l0.length : Int) > 1048576
 ·rw [if_pos c3] at H
  have c3b0 : decide (1048576 < (l0.length : Int)) = true := decide_eq_true c3
  have c3b1 : decide (1048576 < l0.length) = true := decide_eq_true (by omega)
  clear c3
  simp only [Option.some.injEq, Prod.mk.injEq] at H
  obtain ⟨rfl, rfl, rfl⟩ := H
  go_enter Try.func113, Try.ntmps113
  go_wp2
  go_ret3
  exact ⟨by first | rfl | (simp; done) | (simp [*]; done), yb⟩
 ·rw [if_neg c3] at H
  have c3b0 : decide (1048576 < (l0.length : Int)) = false := decide_eq_false c3
  have c3b1 : decide (1048576 < l0.length) = false := decide_eq_false (by omega)
  clear c3
  replace H := ue.mp H
  obtain ⟨t376, A40, H⟩ := H
  replace H : (if t376 = true then (z1e.l0 k l0 a1 0 0) else (some (0, 0, 1))) = some (r1, r2, r3) := H
  have A4 := z1o.mk A40
  clear A40
  by_cases c5 : t376 = true
  ·subst c5
   have H1 : (z1e.l0 k l0 a1 0 0) = some (r1, r2, r3) := by rw [if_pos rfl] at H; exact H
   clear H
   have H := H1
   clear H1
   have H' := z1o.mk H
   clear H
   go_enter Try.func113, Try.ntmps113
   go_wp2_with (first | ((with_reducible refine zp (f := 52) rfl ?_); refine goesL_ (some 16) rfl rfl Try.func52 (by kernel_rfl) rfl #[.int .i64 a1, .int .i64 0, .int .i64 (l0.length : Int)] rfl (by (try simp only [uh, ui, uj]); first | done | rfl | (simp only [uf, ug]; rfl)) ?_; (with_reducible refine (impl_within.calls a1 0 (l0.length : Int) true _ A4.out).mono ?_); rintro e w' ⟨rfl, ⟨nd, rfl⟩⟩; refine ⟨_, rfl, ?_⟩))
   go_loopg [7, 8] k (fun kq v7 v8 w' => ∃ (x7_1 : Int) (x8_1 : Int), v7 = .int .i64 x7_1 ∧ v8 = .int .i64 x8_1 ∧ z1o (z1e.l0 kq l0 a1 x7_1 x8_1 = some (r1, r2, r3)) ∧ z1o (kq ≤ k) ∧ Drawn0 w w')
   case atStart => exact ⟨(0), (0), (by first | rfl | (simp; done) | (simp [*]; done)), (by first | rfl | (simp; done) | (simp [*]; done)), H', ⟨um _⟩, yb⟩
   case round =>
    clear H'
    try clear c1
    try clear p2
    try clear c3
    try clear c3b0
    try clear c3b1
    try clear c5
    obtain ⟨x7_1, x8_1, rfl, rfl, HA, HK1, ⟨m1, rfl⟩⟩ := hrel
    cases gk with
    | zero => exact absurd HA.out (by simp [z1e.l0])
    | succ k1 =>
     have H := HA.out
     clear HA
     simp only [z1e.l0] at H
     have HC6 := z1o.mk H
     clear H
     go_upto_region 7 with (fail)
     go_cut [27] (fun v27 wc => ∃ (kq : Nat) (x27_5 : Bool), v27 = .bool x27_5 ∧ z1o (z1e.j1 kq l0 a1 x7_1 x8_1 x27_5 = some (r1, r2, r3)) ∧ z1o (kq ≤ k1) ∧ Drawn0 w wc)
     case first =>
      have H := HC6.out
      clear HC6
      by_cases c7 : x8_1 < 9
      ·rw [if_pos c7] at H
       have c7b0 : decide (x8_1 < 9) = true := decide_eq_true c7
       clear c7
       (first | rw [c7b0] | (simp only [zn, zo]; rw [c7b0]) | skip)
       have H' := z1o.mk H
       clear H
       go_wp2
       go_meet
       case rel => exact ⟨_, (decide ((wrap64 (a1 + x8_1)) < (l0.length : Int))), (by first | rfl | (simp; done) | (simp [*]; done)), H', ⟨by have := HK1.out; first | omega | exact um _⟩, yb⟩
      ·rw [if_neg c7] at H
       have c7b0 : decide (x8_1 < 9) = false := decide_eq_false c7
       clear c7
       (first | rw [c7b0] | (simp only [zn, zo]; rw [c7b0]) | skip)
       have H' := z1o.mk H
       clear H
       go_wp2
       go_meet
       case rel => exact ⟨_, (false), (by first | rfl | (simp; done) | (simp [*]; done)), H', ⟨by have := HK1.out; first | omega | exact um _⟩, yb⟩
     case rest =>
      clear HC6
      try clear c1
      try clear p2
      try clear c3
      try clear c3b0
      try clear c3b1
      try clear c5
      try clear p6
      try clear c7
      try clear c7b0
      try clear p2
      obtain ⟨kq, x27_5, rfl, HA, HJ5, ⟨mc5, rfl⟩⟩ := hcut
      cases kq with
      | zero => exact absurd HA.out (by simp [z1e.j1])
      | succ kj5 =>
       have H := HA.out
       clear HA
       simp only [z1e.j1] at H
       by_cases c8 : x27_5 = true
       ·subst c8
        have H1 : (if 0 ≤ (wrap64 (a1 + x8_1)) then (if (wrap64 (a1 + x8_1)) < (l0.length : Int) then (if 0 ≤ (wrap64 (7 * x8_1)) then (if (rd l0 (wrap64 (a1 + x8_1))) < 128 then (if (Go.bits .or .i64 x7_1 (shl .i64 (wrap64 (Go.bits .and .u8 (rd l0 (wrap64 (a1 + x8_1))) 127)) (wrap64 (7 * x8_1)))) > 4611686018427387903 then (some (0, 0, 3)) else (if (Go.bits .or .i64 x7_1 (shl .i64 (wrap64 (Go.bits .and .u8 (rd l0 (wrap64 (a1 + x8_1))) 127)) (wrap64 (7 * x8_1)))) < 0 then (some (0, 0, 3)) else (if (rd l0 (wrap64 (a1 + x8_1))) = 0 then (if x8_1 > 0 then (some (0, 0, 3)) else (some (Go.bits .or .i64 x7_1 (shl .i64 (wrap64 (Go.bits .and .u8 (rd l0 (wrap64 (a1 + x8_1))) 127)) (wrap64 (7 * x8_1))), wrap64 ((wrap64 (a1 + x8_1)) + 1), 0))) else (some (Go.bits .or .i64 x7_1 (shl .i64 (wrap64 (Go.bits .and .u8 (rd l0 (wrap64 (a1 + x8_1))) 127)) (wrap64 (7 * x8_1))), wrap64 ((wrap64 (a1 + x8_1)) + 1), 0))))) else (z1e.l0 kj5 l0 a1 (Go.bits .or .i64 x7_1 (shl .i64 (wrap64 (Go.bits .and .u8 (rd l0 (wrap64 (a1 + x8_1))) 127)) (wrap64 (7 * x8_1)))) (wrap64 (x8_1 + 1)))) else (none)) else (none)) else (none)) = some (r1, r2, r3) := by rw [if_pos rfl] at H; exact H
        clear H
        have H := H1
        clear H1
        obtain ⟨ji9, hji9⟩ : ∃ j_ : Int, (wrap64 (a1 + x8_1)) = j_ := ⟨_, rfl⟩
        replace H : (if 0 ≤ (ji9) then (if (ji9) < (l0.length : Int) then (if 0 ≤ (wrap64 (7 * x8_1)) then (if (rd l0 (ji9)) < 128 then (if (Go.bits .or .i64 x7_1 (shl .i64 (wrap64 (Go.bits .and .u8 (rd l0 (ji9)) 127)) (wrap64 (7 * x8_1)))) > 4611686018427387903 then (some (0, 0, 3)) else (if (Go.bits .or .i64 x7_1 (shl .i64 (wrap64 (Go.bits .and .u8 (rd l0 (ji9)) 127)) (wrap64 (7 * x8_1)))) < 0 then (some (0, 0, 3)) else (if (rd l0 (ji9)) = 0 then (if x8_1 > 0 then (some (0, 0, 3)) else (some (Go.bits .or .i64 x7_1 (shl .i64 (wrap64 (Go.bits .and .u8 (rd l0 (ji9)) 127)) (wrap64 (7 * x8_1))), wrap64 ((ji9) + 1), 0))) else (some (Go.bits .or .i64 x7_1 (shl .i64 (wrap64 (Go.bits .and .u8 (rd l0 (ji9)) 127)) (wrap64 (7 * x8_1))), wrap64 ((ji9) + 1), 0))))) else (z1e.l0 kj5 l0 a1 (Go.bits .or .i64 x7_1 (shl .i64 (wrap64 (Go.bits .and .u8 (rd l0 (ji9)) 127)) (wrap64 (7 * x8_1)))) (wrap64 (x8_1 + 1)))) else (none)) else (none)) else (none)) = some (r1, r2, r3) := by first | (rw [hji9] at H; exact H) | (simp only [hji9] at H ⊢; exact H)
        have hji9w : (IntKind.i64.wrap (a1 + x8_1)) = ji9 := (zn _).trans hji9
        by_cases c10 : 0 ≤ (ji9)
        ·rw [if_pos c10] at H
         have c10b0 : decide (0 ≤ (ji9)) = true := decide_eq_true c10
         clear c10
         by_cases c11 : (ji9) < (l0.length : Int)
         ·rw [if_pos c11] at H
          have c11b0 : decide ((ji9) < (l0.length : Int)) = true := decide_eq_true c11
          clear c11
          obtain ⟨ji12, hji12⟩ : ∃ j_ : Int, (wrap64 (7 * x8_1)) = j_ := ⟨_, rfl⟩
          replace H : (if 0 ≤ (ji12) then (if (rd l0 (ji9)) < 128 then (if (Go.bits .or .i64 x7_1 (shl .i64 (wrap64 (Go.bits .and .u8 (rd l0 (ji9)) 127)) (ji12))) > 4611686018427387903 then (some (0, 0, 3)) else (if (Go.bits .or .i64 x7_1 (shl .i64 (wrap64 (Go.bits .and .u8 (rd l0 (ji9)) 127)) (ji12))) < 0 then (some (0, 0, 3)) else (if (rd l0 (ji9)) = 0 then (if x8_1 > 0 then (some (0, 0, 3)) else (some (Go.bits .or .i64 x7_1 (shl .i64 (wrap64 (Go.bits .and .u8 (rd l0 (ji9)) 127)) (ji12)), wrap64 ((ji9) + 1), 0))) else (some (Go.bits .or .i64 x7_1 (shl .i64 (wrap64 (Go.bits .and .u8 (rd l0 (ji9)) 127)) (ji12)), wrap64 ((ji9) + 1), 0))))) else (z1e.l0 kj5 l0 a1 (Go.bits .or .i64 x7_1 (shl .i64 (wrap64 (Go.bits .and .u8 (rd l0 (ji9)) 127)) (ji12))) (wrap64 (x8_1 + 1)))) else (none)) = some (r1, r2, r3) := by first | (rw [hji12] at H; exact H) | (simp only [hji12] at H ⊢; exact H)
          have hji12w : (IntKind.i64.wrap (7 * x8_1)) = ji12 := (zn _).trans hji12
          by_cases c13 : 0 ≤ (ji12)
          ·rw [if_pos c13] at H
           have c13b0 := eq_true c13
           have c13b1 : decide (0 ≤ (ji12)) = true := decide_eq_true c13
           clear c13
           obtain ⟨ji14, hji14⟩ : ∃ j_ : Int, (shl .i64 (wrap64 (Go.bits .and .u8 (rd l0 (ji9)) 127)) (ji12)) = j_ := ⟨_, rfl⟩
           replace H : (if (rd l0 (ji9)) < 128 then (if (Go.bits .or .i64 x7_1 (ji14)) > 4611686018427387903 then (some (0, 0, 3)) else (if (Go.bits .or .i64 x7_1 (ji14)) < 0 then (some (0, 0, 3)) else (if (rd l0 (ji9)) = 0 then (if x8_1 > 0 then (some (0, 0, 3)) else (some (Go.bits .or .i64 x7_1 (ji14), wrap64 ((ji9) + 1), 0))) else (some (Go.bits .or .i64 x7_1 (ji14), wrap64 ((ji9) + 1), 0))))) else (z1e.l0 kj5 l0 a1 (Go.bits .or .i64 x7_1 (ji14)) (wrap64 (x8_1 + 1)))) = some (r1, r2, r3) := by first | (rw [hji14] at H; exact H) | (simp only [hji14] at H ⊢; exact H)
           have hji14_ : (IntKind.i64.wrap ((wrap64 (Go.bits .and .u8 (rd l0 (ji9)) 127)) * 2 ^ min (ji12).toNat 64)) = ji14 := hji14
           have hji14z : (ji12) ≤ 64 → (IntKind.i64.wrap ((wrap64 (Go.bits .and .u8 (rd l0 (ji9)) 127)) * 2 ^ (ji12).toNat)) = ji14 := shl_small hji14
           have hji14y : (wrap64 ((wrap64 (Go.bits .and .u8 (rd l0 (ji9)) 127)) * 2 ^ min (ji12).toNat 64)) = ji14 := (zn _).symm.trans hji14_
           have hji14x : (ji12) ≤ 64 → (wrap64 ((wrap64 (Go.bits .and .u8 (rd l0 (ji9)) 127)) * 2 ^ (ji12).toNat)) = ji14 := fun h_ => (zn _).symm.trans (hji14z h_)
           by_cases c15 : (rd l0 (ji9)) < 128
           ·rw [if_pos c15] at H
            have c15b0 : decide ((rd l0 (ji9)) < 128) = true := decide_eq_true c15
            clear c15
            by_cases c16 : (Go.bits .or .i64 x7_1 (ji14)) > 4611686018427387903
            ·rw [if_pos c16] at H
             have c16b0 : decide (4611686018427387903 < (Go.bits .or .i64 x7_1 (ji14))) = true := decide_eq_true c16
             clear c16
             simp only [Option.some.injEq, Prod.mk.injEq] at H
             obtain ⟨rfl, rfl, rfl⟩ := H
             have p377 : 0 ≤ ((ji9) : Int) := of_decide_eq_true (by first | (with_reducible assumption) | assumption)
             have q377 : (ji9) < (l0.length : Int) := of_decide_eq_true (by first | (with_reducible assumption) | assumption)
             obtain ⟨ad377, e377, hx377_0⟩ := Kd.at_int HR0.out (ji9) p377 q377
             cases e377
             replace p377 := eq_true p377
             replace q377 := eq_true q377
             go_wp2
             go_ret3
             exact ⟨by first | rfl | (simp; done) | (simp only [← hji9, ← hji12, ← hji14] <;> (first | rfl | simp)) | (simp [*]; done), yb⟩
            ·rw [if_neg c16] at H
             have c16b0 : decide (4611686018427387903 < (Go.bits .or .i64 x7_1 (ji14))) = false := decide_eq_false c16
             clear c16
             by_cases c17 : (Go.bits .or .i64 x7_1 (ji14)) < 0
             ·rw [if_pos c17] at H
              have c17b0 : decide ((Go.bits .or .i64 x7_1 (ji14)) < 0) = true := decide_eq_true c17
              clear c17
              simp only [Option.some.injEq, Prod.mk.injEq] at H
              obtain ⟨rfl, rfl, rfl⟩ := H
              have p377 : 0 ≤ ((ji9) : Int) := of_decide_eq_true (by first | (with_reducible assumption) | assumption)
              have q377 : (ji9) < (l0.length : Int) := of_decide_eq_true (by first | (with_reducible assumption) | assumption)
              obtain ⟨ad377, e377, hx377_0⟩ := Kd.at_int HR0.out (ji9) p377 q377
              cases e377
              replace p377 := eq_true p377
              replace q377 := eq_true q377
              go_wp2
              go_ret3
              exact ⟨by first | rfl | (simp; done) | (simp only [← hji9, ← hji12, ← hji14] <;> (first | rfl | simp)) | (simp [*]; done), yb⟩
             ·rw [if_neg c17] at H
              have c17b0 : decide ((Go.bits .or .i64 x7_1 (ji14)) < 0) = false := decide_eq_false c17
              clear c17
              by_cases c18 : (rd l0 (ji9)) = 0
              ·rw [if_pos c18] at H
               have c18b0 : ((rd l0 (ji9)) == 0) = true := beq_iff_eq.mpr c18
               have c18b1 : ((rd l0 (ji9)) != 0) = false := bne_eq_false_iff_eq.mpr c18
               clear c18
               by_cases c19 : x8_1 > 0
               ·rw [if_pos c19] at H
                have c19b0 : decide (0 < x8_1) = true := decide_eq_true c19
                clear c19
                simp only [Option.some.injEq, Prod.mk.injEq] at H
                obtain ⟨rfl, rfl, rfl⟩ := H
                have p377 : 0 ≤ ((ji9) : Int) := of_decide_eq_true (by first | (with_reducible assumption) | assumption)
                have q377 : (ji9) < (l0.length : Int) := of_decide_eq_true (by first | (with_reducible assumption) | assumption)
                obtain ⟨ad377, e377, hx377_0⟩ := Kd.at_int HR0.out (ji9) p377 q377
                cases e377
                replace p377 := eq_true p377
                replace q377 := eq_true q377
                go_wp2
                go_ret3
                exact ⟨by first | rfl | (simp; done) | (simp only [← hji9, ← hji12, ← hji14] <;> (first | rfl | simp)) | (simp [*]; done), yb⟩
               ·rw [if_neg c19] at H
                have c19b0 : decide (0 < x8_1) = false := decide_eq_false c19
                clear c19
                simp only [Option.some.injEq, Prod.mk.injEq] at H
                obtain ⟨rfl, rfl, rfl⟩ := H
                have p377 : 0 ≤ ((ji9) : Int) := of_decide_eq_true (by first | (with_reducible assumption) | assumption)
                have q377 : (ji9) < (l0.length : Int) := of_decide_eq_true (by first | (with_reducible assumption) | assumption)
                obtain ⟨ad377, e377, hx377_0⟩ := Kd.at_int HR0.out (ji9) p377 q377
                cases e377
                replace p377 := eq_true p377
                replace q377 := eq_true q377
                go_wp2
                go_ret3
                exact ⟨by first | rfl | (simp; done) | (simp only [← hji9, ← hji12, ← hji14] <;> (first | rfl | simp)) | (simp [*]; done), yb⟩
              ·rw [if_neg c18] at H
               have c18b0 : ((rd l0 (ji9)) == 0) = false := beq_eq_false_iff_ne.mpr c18
               have c18b1 : ((rd l0 (ji9)) != 0) = true := bne_iff_ne.mpr c18
               simp only [Option.some.injEq, Prod.mk.injEq] at H
               obtain ⟨rfl, rfl, rfl⟩ := H
               have p377 : 0 ≤ ((ji9) : Int) := of_decide_eq_true (by first | (with_reducible assumption) | assumption)
               have q377 : (ji9) < (l0.length : Int) := of_decide_eq_true (by first | (with_reducible assumption) | assumption)
               obtain ⟨ad377, e377, hx377_0⟩ := Kd.at_int HR0.out (ji9) p377 q377
               cases e377
               replace p377 := eq_true p377
               replace q377 := eq_true q377
               go_wp2
               go_ret3
               exact ⟨by first | rfl | (simp; done) | (simp only [← hji9, ← hji12, ← hji14] <;> (first | rfl | simp)) | (simp [*]; done), yb⟩
           ·rw [if_neg c15] at H
            have c15b0 : decide ((rd l0 (ji9)) < 128) = false := decide_eq_false c15
            clear c15
            have H' := z1o.mk H
            clear H
            have p377 : 0 ≤ ((ji9) : Int) := of_decide_eq_true (by first | (with_reducible assumption) | assumption)
            have q377 : (ji9) < (l0.length : Int) := of_decide_eq_true (by first | (with_reducible assumption) | assumption)
            obtain ⟨ad377, e377, hx377_0⟩ := Kd.at_int HR0.out (ji9) p377 q377
            cases e377
            replace p377 := eq_true p377
            replace q377 := eq_true q377
            go_wp2
            go_roundg kj5
            case measure => have := HK1.out; have := HJ5.out; omega
            case rel => exact ⟨(Go.bits .or .i64 x7_1 (ji14)), (wrap64 (x8_1 + 1)), (by first | rfl | (simp; done) | (simp only [← hji14] <;> (first | rfl | simp)) | (simp [*]; done)), (by first | rfl | (simp; done) | (simp [*]; done)), H', ⟨by have := HK1.out; have := HJ5.out; omega⟩, yb⟩
          ·rw [if_neg c13] at H
           exact absurd H (by simp)
         ·rw [if_neg c11] at H
          exact absurd H (by simp)
        ·rw [if_neg c10] at H
         exact absurd H (by simp)
       ·replace c8 := Bool.eq_false_iff.mpr c8
        subst c8
        have H1 : (some (0, 0, 3)) = some (r1, r2, r3) := by rw [if_neg (show ¬ (false = true) by decide)] at H; exact H
        clear H
        have H := H1
        clear H1
        simp only [Option.some.injEq, Prod.mk.injEq] at H
        obtain ⟨rfl, rfl, rfl⟩ := H
        go_wp2
        go_ret3
        exact ⟨by first | rfl | (simp; done) | (simp [*]; done), yb⟩
  ·replace c5 := Bool.eq_false_iff.mpr c5
   subst c5
   have H1 : (some (0, 0, 1)) = some (r1, r2, r3) := by rw [if_neg (show ¬ (false = true) by decide)] at H; exact H
   clear H
   have H := H1
   clear H1
   simp only [Option.some.injEq, Prod.mk.injEq] at H
   obtain ⟨rfl, rfl, rfl⟩ := H
   go_enter Try.func113, Try.ntmps113
   go_wp2_with (first | ((with_reducible refine zp (f := 52) rfl ?_); refine goesL_ (some 16) rfl rfl Try.func52 (by kernel_rfl) rfl #[.int .i64 a1, .int .i64 0, .int .i64 (l0.length : Int)] rfl (by (try simp only [uh, ui, uj]); first | done | rfl | (simp only [uf, ug]; rfl)) ?_; (with_reducible refine (impl_within.calls a1 0 (l0.length : Int) false _ A4.out).mono ?_); rintro e w' ⟨rfl, ⟨nd, rfl⟩⟩; refine ⟨_, rfl, ?_⟩))
   go_ret3
   exact ⟨by first | rfl | (simp; done) | (simp [*]; done), yb⟩
end Go.Proofs.Ytndjodgcemgpfaa.Q
end
section
namespace Go.Proofs.Ytndjodgcemgpfaa.Q
open Go.RowKit Go.Proofs.YtndjodgcemgpfaaW.PrintWords Go.Proofs.YtndjodgcemgpfaaW.PrintLast Go.Proofs.YtndjodgcemgpfaaW.PrintMore
def z17.f (k : Nat) (s0_0 : List Int) (s0_1 : Int) (s0_2 : Bool) (a1 : Int) : Option (Int × Int × Bool) := if s0_2 = true then some (0, s0_1, true) else (z1e.f k s0_0 s0_1).bind fun t => if t.2.2 = 0 then (if t.1 > a1 then some (0, s0_1, true) else some (t.1, t.2.1, false)) else some (0, s0_1, true)
theorem getInt_quiet (k : Nat) (A0 : Option Addr) (c0 : Nat) (l0 : List Int) (a1 : Int) (r1 : Int) (r2 : Int) (r3 : Int) (w : World) (n : Nat) (hr0 : Kd.C (Kd.int .u8) w A0 l0.length l0) (hc0 : l0.length ≤ c0) (h : z1e.f k l0 a1 = some (r1, r2, r3)) :
  Calls Try.prog 113 #[.slice A0 l0.length c0, .int .i64 a1] (w.drewN n) fun e w'' => e = .returned (.tuple #[.int .i64 r1, .int .i64 r2, .int .i64 r3]) ∧ ∃ m, w'' = w.drewN m := by
 refine Calls.quiet_of ((z1e.calls k A0 c0 l0 a1 r1 r2 r3 _ (Kd.C_drewN hr0 _) hc0 h).mono ?_)
 rintro e w' ⟨rfl, ⟨nd, rfl⟩⟩
 exact ⟨rfl, nd, rfl⟩
set_option maxHeartbeats 8000000 in
set_option maxRecDepth 100000 in
theorem z17.calls (k : Nat) (g : Nat) (s0_0 : List Int) (s0_1 : Int) (s0_2 : Bool) (a1 : Int) (r1 : Int) (r2 : Int) (r3 : Bool) (w0 w : World) (hI : z1p w0 w g s0_0 s0_1 s0_2) (hB : Below w0.heap.size w0 w) (h : z17.f k s0_0 s0_1 s0_2 a1 = some (r1, r2, r3)) :
    Calls Try.prog 100 #[.pointer (some ⟨g, 0, none⟩), .int .i64 a1] w fun e w' => e = .returned (.int .i64 r1) ∧ z1p w0 w' g s0_0 r2 r3 ∧ Below w0.heap.size w0 w' ∧ z1r w w' g none := by
  unfold z17.f at h
  have HI := z1o.mk hI
  have HB := z1o.mk hB
  have HK := z1o.mk (z1r.refl w g none)
  obtain ⟨A0, c0, HG, hg, HR0, HZ0⟩ := hI
  have HR := z1o.mk HR0
  have HZ := z1o.mk HZ0
  have hc0 := cellS96_0 HG
  have hc1 := cellS96_1 HG
  have hc2 := cellS96_2 HG
  have hf := z5 HG
  clear HG hg hB HR0 HZ0
  cases s0_2 with
  | true =>
    rw [if_pos rfl] at h
    simp only [Option.some.injEq, Prod.mk.injEq] at h
    obtain ⟨rfl, rfl, rfl⟩ := h
    go_enter Try.func100, Try.ntmps100
    go_wp2_with fail
    go_ret
    exact ⟨rfl, y1n, y1l, y9⟩
  | false =>
    rw [if_neg (by simp)] at h
    obtain ⟨⟨t1, t2, t3⟩, h1, h⟩ := ue.mp h
    have H1 := z1o.mk h1
    clear h1
    replace h : (if t3 = 0 then (if t1 > a1 then some ((0 : Int), s0_1, true) else some (t1, t2, false)) else some (0, s0_1, true)) = some (r1, r2, r3) := h
    by_cases k1 : t3 = 0
    · rw [if_pos k1] at h
      subst k1
      by_cases k2 : t1 > a1
      · rw [if_pos k2] at h
        have k2' : decide (a1 < t1) = true := decide_eq_true k2
        clear k2
        simp only [Option.some.injEq, Prod.mk.injEq] at h
        obtain ⟨rfl, rfl, rfl⟩ := h
        go_enter Try.func100, Try.ntmps100
        go_wp2_with fail
        go_quiet (exact getInt_quiet k A0 c0 s0_0 s0_1 t1 t2 0 _ _ (Kd.C_below HR.out HB.out) HZ.out H1.out)
        go_wp2_with fail
        go_ret
        exact ⟨rfl, y1n, y1l, y9⟩
      · rw [if_neg k2] at h
        have k2' : decide (a1 < t1) = false := decide_eq_false k2
        clear k2
        simp only [Option.some.injEq, Prod.mk.injEq] at h
        obtain ⟨rfl, rfl, rfl⟩ := h
        go_enter Try.func100, Try.ntmps100
        go_wp2_with fail
        go_quiet (exact getInt_quiet k A0 c0 s0_0 s0_1 t1 t2 0 _ _ (Kd.C_below HR.out HB.out) HZ.out H1.out)
        go_wp2_with fail
        go_ret
        exact ⟨rfl, y1n, y1l, y9⟩
    · rw [if_neg k1] at h
      simp only [Option.some.injEq, Prod.mk.injEq] at h
      obtain ⟨rfl, rfl, rfl⟩ := h
      go_enter Try.func100, Try.ntmps100
      go_wp2_with fail
      go_quiet (exact getInt_quiet k A0 c0 s0_0 s0_1 t1 t2 t3 _ _ (Kd.C_below HR.out HB.out) HZ.out H1.out)
      go_wp2_with fail
      all_goals first
        | (exfalso; omega)
        | (go_ret
           exact ⟨rfl, y1n, y1l, y9⟩)
def z18.f (k : Nat) (s0_0 : List Int) (s0_1 : Int) (s0_2 : Bool) : Option (ByteArray × Int × Bool) := (z17.f k s0_0 s0_1 s0_2 65536).bind fun t => if t.2.2 = true then some (ByteArray.empty, t.2.1, true) else if wrap64 (t.2.1 + t.1) > (s0_0.length : Int) then some (ByteArray.empty, t.2.1, true) else if 0 ≤ wrap64 (wrap64 (t.2.1 + t.1) - t.1) ∧ wrap64 (wrap64 (t.2.1 + t.1) - t.1) ≤ wrap64 (t.2.1 + t.1) then some (strOfNums ((s0_0.take (wrap64 (t.2.1 + t.1)).toNat).drop (wrap64 (wrap64 (t.2.1 + t.1) - t.1)).toNat), wrap64 (t.2.1 + t.1), false) else none
set_option maxHeartbeats 8000000 in
set_option maxRecDepth 100000 in
theorem z18.calls (k : Nat) (g : Nat) (s0_0 : List Int) (s0_1 : Int) (s0_2 : Bool) (r1 : ByteArray) (r2 : Int) (r3 : Bool) (w0 w : World) (hI : z1p w0 w g s0_0 s0_1 s0_2) (hB : Below w0.heap.size w0 w) (h : z18.f k s0_0 s0_1 s0_2 = some (r1, r2, r3)) :
  Calls Try.prog 99 #[.pointer (some ⟨g, 0, none⟩)] w fun e w' => e = .returned (.string r1) ∧ z1p w0 w' g s0_0 r2 r3 ∧ Below w0.heap.size w0 w' ∧ z1r w w' g none := by
 have HI0 := z1o.mk hI
 have HB0 := z1o.mk hB
 clear hI hB
 unfold z18.f at h
 obtain ⟨⟨t1, t2, t3⟩, h1, h⟩ := ue.mp h
 have H1 := z1o.mk h1
 clear h1
 have H := z1o.mk h
 clear h
 go_enter Try.func99, Try.ntmps99
 go_wp2_with fail
 go_at_call 100
 refine (z17.calls k g s0_0 s0_1 s0_2 65536 t1 t2 t3 w0 _ HI0.out HB0.out H1.out).mono ?_
 rintro e w1 ⟨rfl, hI, hB, hK⟩
 have HK := z1o.mk hK
 clear HI0 HB0 H1 hK
 have HI := z1o.mk hI
 have HB := z1o.mk hB
 obtain ⟨A0, c0, HG, hg, HR0, HZ0⟩ := hI
 have HR := z1o.mk HR0
 have HZ := z1o.mk HZ0
 have hc0 := cellS96_0 HG
 have hc1 := cellS96_1 HG
 have hc2 := cellS96_2 HG
 have hf := z5 HG
 clear HG hg hB HR0 HZ0
 have h := H.out
 clear H
 cases t3 with
 | true =>
  replace h : some (ByteArray.empty, t2, true) = some (r1, r2, r3) := h
  simp only [Option.some.injEq, Prod.mk.injEq] at h
  obtain ⟨rfl, rfl, rfl⟩ := h
  go_wp2_with fail
  go_quiet (fail)
  go_wp2_with fail
  go_ret
  exact ⟨rfl, y1n, y1l, y9⟩
 | false =>
  replace h : (if wrap64 (t2 + t1) > (s0_0.length : Int) then some (ByteArray.empty, t2, true) else if 0 ≤ wrap64 (wrap64 (t2 + t1) - t1) ∧ wrap64 (wrap64 (t2 + t1) - t1) ≤ wrap64 (t2 + t1) then some (strOfNums ((s0_0.take (wrap64 (t2 + t1)).toNat).drop (wrap64 (wrap64 (t2 + t1) - t1)).toNat), wrap64 (t2 + t1), false) else none) = some (r1, r2, r3) := h
  obtain ⟨a2, e1⟩ : ∃ a2, wrap64 (t2 + t1) = a2 := ⟨_, rfl⟩
  rw [e1] at h
  by_cases k1 : a2 > (s0_0.length : Int)
  ·rw [if_pos k1] at h
   have k1' : decide ((s0_0.length : Int) < a2) = true := decide_eq_true k1
   clear k1
   simp only [Option.some.injEq, Prod.mk.injEq] at h
   obtain ⟨rfl, rfl, rfl⟩ := h
   go_wp2_with fail
   go_quiet (fail)
   go_wp2_with fail
   go_ret
   exact ⟨rfl, y1n, y1l, y9⟩
  ·rw [if_neg k1] at h
   have k1' : decide ((s0_0.length : Int) < a2) = false := decide_eq_false k1
   obtain ⟨lo, e2⟩ : ∃ lo, wrap64 (a2 - t1) = lo := ⟨_, rfl⟩
   rw [e2] at h
   by_cases k3 : 0 ≤ lo ∧ lo ≤ a2
   ·rw [if_pos k3] at h
    obtain ⟨k3, k4⟩ := k3
    have k5 : a2 ≤ (s0_0.length : Int) := by omega
    clear k1
    obtain ⟨i0, hi0, _, hs0, _⟩ := info_parts info5
    have hcut := cut_mid (P := Try.prog) 26 5 .i64 .i64 Try.underlying26 hi0 1 hs0 A0 s0_0.length c0 _ _ k3 k4 k5 HZ.out
    have hC := Kd.C_mid (c := c0) HR.out (lo := lo.toNat) (hi := a2.toNat) (by omega) (by omega) HZ.out
    obtain ⟨ys, hys⟩ : ∃ ys, (s0_0.take a2.toNat).drop lo.toNat = ys := ⟨_, rfl⟩
    rw [hys] at hC h
    simp only [Option.some.injEq, Prod.mk.injEq] at h
    obtain ⟨rfl, rfl, rfl⟩ := h
    have hyl : a2.toNat - lo.toNat = ys.length := by rw [← hys, uf, ug]; omega
    obtain ⟨A1, hA1⟩ : ∃ A1, (if c0 = lo.toNat then A0 else A0.map (·.add (lo.toNat * 1))) = A1 := ⟨_, rfl⟩
    obtain ⟨c1, hc1'⟩ : ∃ c1, c0 - lo.toNat = c1 := ⟨_, rfl⟩
    rw [hA1, hc1', hyl] at hcut
    replace hC : Kd.C (Kd.int .u8) w0 A1 ys.length ys := hA1 ▸ hC
    have HCC := z1o.mk hC
    clear hC hA1 hc1' hyl hys hi0 hs0 k3 k4 k5
    go_wp2_with fail
    go_quiet (fail)
    go_wp2_with fail
    have hcv : ∀ n, (convert 26 9 (.slice A1 ys.length c1)).run Try.prog (((w1.drewN nq).setCell ⟨g, 1, none⟩ (.int .i64 a2)).drewN n) = .ok (.string (strOfNums ys)) (((w1.drewN nq).setCell ⟨g, 1, none⟩ (.int .i64 a2)).drewN n) := fun n => Kd.C_string Try.underlying26 Try.underlying5 Try.underlying9 (Kd.C_drewN (Kd.C_below HCC.out (z4 (z1 HB.out _) (z1p.ge HI.out))) n)
    go_quiet (fail)
    go_wp2_with fail
    go_ret
    exact ⟨rfl, y1n, y1l, y9⟩
   ·rw [if_neg k3] at h
    cases h
end Go.Proofs.Ytndjodgcemgpfaa.Q
end
