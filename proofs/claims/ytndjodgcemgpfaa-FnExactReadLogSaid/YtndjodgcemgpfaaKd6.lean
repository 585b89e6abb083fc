/- A part of the proof: the texts Qpdoc, Qpdoc2, Qxf102, Qxf103, Qxf60, Qxf104, Qxf105, Qxf61, Qxf62, Qxf63, Qxf64, Qxf65, Qxf66, Qxf25, Qxf26, packed. -/
import Derived.Laws.BitsAllLaws
import Derived.Test.YtndjodgcemgpfaaKd5

open List renaming setIfInBounds_toArray → ub, set_cons_zero → uc, set_cons_succ → ud, length_drop → uf, length_take → ug, map_toArray → uh, map_cons → ui, map_nil → uj, length_append → ul
open Option renaming bind_eq_some_iff → ue, bind_some → uk
open Nat renaming le_refl → um
set_option linter.unusedVariables false
set_option linter.unusedSimpArgs false
section
namespace Go.Proofs.Ytndjodgcemgpfaa.Q
open Go.RowKit Go.Proofs.YtndjodgcemgpfaaW.PrintWords Go.Proofs.YtndjodgcemgpfaaW.PrintLast Go.Proofs.YtndjodgcemgpfaaW.PrintMore
def putL (n : Nat) : List Int := if h : n < 128 then [(n : Int)] else ((128 + n % 128 : Nat) : Int) :: putL (n / 128)
termination_by n
decreasing_by omega
theorem putL_small {n : Nat} (h : n < 128) : putL n = [(n : Int)] := by rw [putL, dif_pos h]
theorem putL_big {n : Nat} (h : ¬ n < 128) : putL n = ((128 + n % 128 : Nat) : Int) :: putL (n / 128) := by rw [putL, dif_neg h]
theorem putL_length : ∀ (d n : Nat), n < 128 ^ (d + 1) → (putL n).length ≤ d + 1
 | 0, n, h => by rw [putL_small (by simpa using h)]; simp
 | d + 1, n, h => by
  by_cases hn : n < 128
  ·rw [putL_small hn]; simp
  ·rw [putL_big hn, List.length_cons]
   have := putL_length d (n / 128) (by rw [Nat.pow_succ] at h; omega)
   omega
theorem putL_len (n : Nat) (h : n ≤ 9223372036854775807) : (putL n).length ≤ 9 := putL_length 8 n (by omega)
theorem l03Put_ev : ∀ (d n : Nat), n < 128 ^ (d + 1) → n ≤ 9223372036854775807 → Ev (fun k => z16.f k (n : Int)) (putL n) := by
 intro d
 induction d with
 | zero =>
  intro n h hb
  have hn : n < 128 := by simpa using h
  refine Ev.step (fun k => z16.f.eq_2 _ k) (Ev.ite_pos (by omega) (Ev.eq (Ev.now _) ?_))
  rw [putL_small hn]
  congr 1
  omega
 | succ d ih =>
  intro n h hb
  by_cases hn : n < 128
  ·refine Ev.step (fun k => z16.f.eq_2 _ k) (Ev.ite_pos (by omega) (Ev.eq (Ev.now _) ?_))
   rw [putL_small hn]
   congr 1
   omega
  ·have h1 : wrap64 (Int.tdiv (n : Int) 128) = ((n / 128 : Nat) : Int) := by
    rw [Int.tdiv_eq_ediv_of_nonneg (by omega), z1s (by omega) (by omega)]
    omega
   have h2 : (wrap64 (128 + (Int.tmod (n : Int) 128))) % 256 = ((128 + n % 128 : Nat) : Int) := by
    rw [Int.tmod_eq_emod_of_nonneg (by omega), z1s (by omega) (by omega)]
    omega
   have hlt : n / 128 < 128 ^ (d + 1) := by rw [Nat.pow_succ] at h; omega
   refine Ev.step (fun k => z16.f.eq_2 _ k) (Ev.ite_neg (by omega) (Ev.some_bind ?_))
   rw [h1, h2]
   refine Ev.bind (ih (n / 128) hlt (by omega)) (Ev.ite_pos ?_ (Ev.eq (Ev.now _) (by rw [putL_big hn]; rfl)))
   have := putL_len (n / 128) (by omega)
   simp only [List.length_singleton]
   omega
theorem l03Put (n : Nat) (hb : n ≤ 9223372036854775807) : Ev (fun k => z16.f k (n : Int)) (putL n) := l03Put_ev 8 n (by omega) hb
theorem or128 : ∀ a : Nat, a < 256 → a ||| 128 = 128 + a % 128 := by decide +kernel
theorem putInt_l0 : ∀ (d n : Nat) (acc : List Int), n < 128 ^ (d + 1) → n ≤ 9223372036854775807 → acc.length + (putL n).length < 140737488355328 → Ev (fun k => z1f.l0 k acc (n : Int)) (acc ++ putL n) := by
 intro d
 induction d with
 | zero =>
  intro n acc h hb hl
  have hn : n < 128 := by simpa using h
  refine Ev.step (fun k => z1f.l0.eq_2 _ _ k) (Ev.ite_neg (by omega) (Ev.ite_pos (by omega) (Ev.eq (Ev.now _) ?_)))
  rw [putL_small hn]
  congr 2
  omega
 | succ d ih =>
  intro n acc h hb hl
  by_cases hn : n < 128
  ·refine Ev.step (fun k => z1f.l0.eq_2 _ _ k) (Ev.ite_neg (by omega) (Ev.ite_pos (by omega) (Ev.eq (Ev.now _) ?_)))
   rw [putL_small hn]
   congr 2
   omega
  ·have h1 : (n : Int) / 128 = ((n / 128 : Nat) : Int) := by omega
   have h2 : Go.bits .or .u8 ((n : Int) % 256) 128 = ((128 + n % 128 : Nat) : Int) := by
    have e : (n : Int) % 256 = ((n % 256 : Nat) : Int) := by omega
    have := or128 (n % 256) (by omega)
    rw [e]
    have hb8 := u8_or_nat (n % 256) 128 (by omega) (by omega)
    have e2 : ((128 : Nat) : Int) = 128 := rfl
    rw [e2] at hb8
    rw [hb8, this]
    omega
   have hlt : n / 128 < 128 ^ (d + 1) := by rw [Nat.pow_succ] at h; omega
   rw [putL_big hn, List.length_cons] at hl
   refine Ev.step (fun k => z1f.l0.eq_2 _ _ k) (Ev.ite_pos (by omega) (Ev.ite_pos (by omega) ?_))
   rw [h1, h2, putL_big hn]
   refine Ev.eq (ih (n / 128) _ hlt (by omega) (by rw [ul, List.length_singleton]; omega)) (by simp)
theorem putInt_ev (acc : List Int) (n : Nat) (hb : n ≤ 9223372036854775807) (hl : acc.length + (putL n).length < 140737488355328) : Ev (fun k => z1f.f k acc (n : Int)) (acc ++ putL n) := putInt_l0 8 n acc (by omega) hb hl
def txtL (s : ByteArray) : List Int := putL s.size ++ bytesOf s
theorem putText_ev (acc : List Int) (s : ByteArray) (hb : s.size ≤ 9223372036854775807) (hl : acc.length + (txtL s).length < 140737488355328) : Ev (fun k => impl_putText.f k acc s) (acc ++ txtL s) := by
 unfold txtL at hl ⊢
 rw [ul, bytesOf_length] at hl
 refine Ev.bind (putInt_ev acc s.size hb (by omega)) (Ev.ite_pos (by rw [ul]; omega) (Ev.eq (Ev.now _) (by simp)))
theorem l06PutText_ev (acc : List Int) (s : ByteArray) (hb : s.size ≤ 9223372036854775807) (hl : acc.length + (txtL s).length < 140737488355328) : Ev (fun k => spec_l06PutText.f k acc s) (acc ++ txtL s) := by
 unfold txtL at hl ⊢
 rw [ul, bytesOf_length] at hl
 refine Ev.bind (l03Put s.size hb) (Ev.ite_pos (by omega) (Ev.some_bind (Ev.ite_pos (by rw [ul]; omega) (Ev.eq (Ev.now _) (by simp)))))
def numN (n : Int) : Nat := if n < 0 then (-2 * n - 1).toNat else (2 * n).toNat
def numL (n : Int) : List Int := putL (numN n)
def OkN (n : Int) : Prop := -1000000000000 ≤ n ∧ n ≤ 1000000000000
theorem l06PutNumber_ev (acc : List Int) (n : Int) (hb : OkN n) (hl : acc.length + (numL n).length < 140737488355328) : Ev (fun k => spec_l06PutNumber.f k acc n) (acc ++ numL n) := by
 obtain ⟨h0, h1⟩ := hb
 unfold numL numN at hl ⊢
 unfold spec_l06PutNumber.f
 by_cases h : n < 0
 ·rw [if_pos h] at hl ⊢
  have e : wrap64 ((wrap64 ((-2) * n)) - 1) = (((-2 * n - 1).toNat : Nat) : Int) := by
   rw [z1s (x := (-2) * n) (by omega) (by omega), z1s (by omega) (by omega)]
   omega
  refine Ev.ite_pos h ?_
  rw [e]
  exact Ev.bind (l03Put _ (by omega)) (Ev.ite_pos (by omega) (Ev.now _))
 ·rw [if_neg h] at hl ⊢
  have e : wrap64 (2 * n) = (((2 * n).toNat : Nat) : Int) := by
   rw [z1s (by omega) (by omega)]
   omega
  refine Ev.ite_neg h ?_
  rw [e]
  exact Ev.bind (l03Put _ (by omega)) (Ev.ite_pos (by omega) (Ev.now _))
def FitT (t : ByteArray) : Prop := t.size ≤ 65536
def FitV (x : S84) : Prop := x.f0.size ≤ 65536 ∧ x.f1.length ≤ 4096 ∧ x.f2.length ≤ 4096 ∧ (∀ t ∈ x.f1, FitT t) ∧ ∀ n ∈ x.f2, OkN n
def FitD (id : ByteArray) (ds : List S84) : Prop := id.size ≤ 65536 ∧ ds.length ≤ 4096 ∧ ∀ x ∈ ds, FitV x
section
variable (id : ByteArray) (ds : List S84)
theorem fits_l2 (i : Nat) (hi : i < 1048576) (x : S84) (hl : x.f2.length ≤ 1048576) : ∀ (rest pre : List Int), x.f2 = pre ++ rest →
  ((∀ n ∈ rest, OkN n) → ∀ r, Ev (fun k => z10.l0 k ((i + 1 : Nat) : Int) id ds) r → Ev (fun k => z10.l2 k (i : Int) (pre.length : Int) id ds x.f0 x.f1 x.f2) r) ∧
  ((¬ ∀ n ∈ rest, OkN n) → Ev (fun k => z10.l2 k (i : Int) (pre.length : Int) id ds x.f0 x.f1 x.f2) false)
 | [], pre, hx => by
  refine ⟨fun _ r hr => ?_, fun h => absurd (by simp) h⟩
  refine Ev.step (fun k => z10.l2.eq_2 _ _ _ _ _ _ _ k) (Ev.ite_neg (by rw [hx]; exact end_lt) ?_)
  rw [z1s (by omega) (by omega)]
  exact hr
 | n :: rest, pre, hx => by
  have hlt : pre.length < 1048576 := by rw [hx] at hl; simp at hl; omega
  have hrd : rd x.f2 (pre.length : Int) = n := by rw [hx]; exact mid_getD _
  have ih := fits_l2 i hi x hl rest (pre ++ [n]) (by rw [hx]; simp)
  refine ⟨fun h r hr => ?_, fun h => ?_⟩
  ·have hn := h n (by simp)
   refine Ev.step (fun k => z10.l2.eq_2 _ _ _ _ _ _ _ k) (Ev.ite_pos (by rw [hx]; exact mid_lt) (Ev.ite_pos (by omega) ?_))
   rw [hrd, wrap_next (x := n) (by omega)]
   exact Ev.ite_neg (by have := hn.1; omega) (Ev.ite_neg (by have := hn.2; omega) (ih.1 (fun m hm => h m (by simp [hm])) r hr))
  ·refine Ev.step (fun k => z10.l2.eq_2 _ _ _ _ _ _ _ k) (Ev.ite_pos (by rw [hx]; exact mid_lt) (Ev.ite_pos (by omega) ?_))
   rw [hrd, wrap_next (x := n) (by omega)]
   by_cases h0 : n < -1000000000000
   ·exact Ev.ite_pos h0 (Ev.now _)
   ·refine Ev.ite_neg h0 ?_
    by_cases h1 : n > 1000000000000
    ·exact Ev.ite_pos h1 (Ev.now _)
    ·exact Ev.ite_neg h1 (ih.2 (fun h2 => h (fun m hm => by
      rcases List.mem_cons.1 hm with rfl | hm
      ·exact ⟨by omega, by omega⟩
      ·exact h2 m hm)))
theorem fits_l1 (i : Nat) (hi : i < 1048576) (x : S84) (hl : x.f1.length ≤ 1048576) (hl2 : x.f2.length ≤ 1048576) : ∀ (rest pre : List ByteArray), x.f1 = pre ++ rest →
  (((∀ t ∈ rest, FitT t) ∧ ∀ n ∈ x.f2, OkN n) → ∀ r, Ev (fun k => z10.l0 k ((i + 1 : Nat) : Int) id ds) r → Ev (fun k => z10.l1 k (i : Int) (pre.length : Int) id ds x.f0 x.f1 x.f2) r) ∧
  ((¬ ((∀ t ∈ rest, FitT t) ∧ ∀ n ∈ x.f2, OkN n)) → Ev (fun k => z10.l1 k (i : Int) (pre.length : Int) id ds x.f0 x.f1 x.f2) false)
 | [], pre, hx => by
  have h2 := fits_l2 id ds i hi x hl2 x.f2 [] rfl
  refine ⟨fun h r hr => ?_, fun h => ?_⟩
  ·exact Ev.step (fun k => z10.l1.eq_2 _ _ _ _ _ _ _ k) (Ev.ite_neg (by rw [hx]; exact end_lt) (h2.1 h.2 r hr))
  ·exact Ev.step (fun k => z10.l1.eq_2 _ _ _ _ _ _ _ k) (Ev.ite_neg (by rw [hx]; exact end_lt) (h2.2 (fun h3 => h ⟨by simp, h3⟩)))
 | t :: rest, pre, hx => by
  have hlt : pre.length < 1048576 := by rw [hx] at hl; simp at hl; omega
  have hrd : rdOf ByteArray.empty x.f1 (pre.length : Int) = t := by rw [hx]; exact mid_getD _
  have ih := fits_l1 i hi x hl hl2 rest (pre ++ [t]) (by rw [hx]; simp)
  refine ⟨fun h r hr => ?_, fun h => ?_⟩
  ·have hn : t.size ≤ 65536 := h.1 t (by simp)
   refine Ev.step (fun k => z10.l1.eq_2 _ _ _ _ _ _ _ k) (Ev.ite_pos (by rw [hx]; exact mid_lt) (Ev.ite_pos (by omega) ?_))
   rw [hrd, wrap_next (x := t) (by omega)]
   exact Ev.ite_neg (by omega) (ih.1 ⟨fun m hm => h.1 m (by simp [hm]), h.2⟩ r hr)
  ·refine Ev.step (fun k => z10.l1.eq_2 _ _ _ _ _ _ _ k) (Ev.ite_pos (by rw [hx]; exact mid_lt) (Ev.ite_pos (by omega) ?_))
   rw [hrd, wrap_next (x := t) (by omega)]
   by_cases h0 : (t.size : Int) > 65536
   ·exact Ev.ite_pos h0 (Ev.now _)
   ·refine Ev.ite_neg h0 (ih.2 (fun h2 => h ⟨fun m hm => ?_, h2.2⟩))
    rcases List.mem_cons.1 hm with rfl | hm
    ·show m.size ≤ 65536
     omega
    ·exact h2.1 m hm
theorem fits_l0 (hl : ds.length ≤ 1048576) (hv : ∀ x ∈ ds, x.f1.length ≤ 1048576 ∧ x.f2.length ≤ 1048576) : ∀ (rest pre : List S84), ds = pre ++ rest →
  ((∀ x ∈ rest, FitV x) → Ev (fun k => z10.l0 k (pre.length : Int) id ds) true) ∧ ((¬ ∀ x ∈ rest, FitV x) → Ev (fun k => z10.l0 k (pre.length : Int) id ds) false)
 | [], pre, hx => by
  refine ⟨fun h => ?_, fun h => absurd (by simp) h⟩
  exact Ev.step (fun k => z10.l0.eq_2 _ _ _ k) (Ev.ite_neg (by rw [hx]; exact end_lt) (Ev.now _))
 | x :: rest, pre, hx => by
  have hlt : pre.length < 1048576 := by rw [hx] at hl; simp at hl; omega
  have hrd : rd_T84 ds (pre.length : Int) = x := by rw [hx]; exact mid_getD _
  have hvx := hv x (by rw [hx]; simp)
  have ih := fits_l0 hl hv rest (pre ++ [x]) (by rw [hx]; simp)
  have e : ((pre ++ [x]).length : Int) = ((pre.length + 1 : Nat) : Int) := by simp
  rw [e] at ih
  have h1 := fits_l1 id ds pre.length hlt x hvx.1 hvx.2 x.f1 [] rfl
  refine ⟨fun h => ?_, fun h => ?_⟩
  ·obtain ⟨ha, hb, hc, hd, he⟩ := h x (by simp)
   refine Ev.step (fun k => z10.l0.eq_2 _ _ _ k) (Ev.ite_pos (by rw [hx]; exact mid_lt) (Ev.ite_pos (by omega) ?_))
   rw [hrd]
   refine Ev.ite_neg (by omega) (Ev.ite_neg (by omega) (Ev.step (fun k => z10.j2.eq_2 _ _ _ _ _ _ _ k) (Ev.ite_neg (by simp; omega) (h1.1 ⟨hd, he⟩ true (ih.1 (fun y hy => h y (by simp [hy])))))))
  ·refine Ev.step (fun k => z10.l0.eq_2 _ _ _ k) (Ev.ite_pos (by rw [hx]; exact mid_lt) (Ev.ite_pos (by omega) ?_))
   rw [hrd]
   have big : Ev (fun k => z10.j2 k (pre.length : Int) true id ds x.f0 x.f1 x.f2) false := Ev.step (fun k => z10.j2.eq_2 _ _ _ _ _ _ _ k) (Ev.ite_pos rfl (Ev.now _))
   by_cases ha : (x.f0.size : Int) > 65536
   ·exact Ev.ite_pos ha big
   ·refine Ev.ite_neg ha ?_
    by_cases hb : (x.f1.length : Int) > 4096
    ·exact Ev.ite_pos hb big
    ·refine Ev.ite_neg hb ?_
     by_cases hc : (x.f2.length : Int) > 4096
     ·exact Ev.step (fun k => z10.j2.eq_2 _ _ _ _ _ _ _ k) (Ev.ite_pos (by simpa using hc) (Ev.now _))
     ·refine Ev.step (fun k => z10.j2.eq_2 _ _ _ _ _ _ _ k) (Ev.ite_neg (by simp; omega) ?_)
      by_cases hd : (∀ t ∈ x.f1, FitT t) ∧ ∀ n ∈ x.f2, OkN n
      ·refine h1.1 hd false (ih.2 (fun h2 => h (fun y hy => ?_)))
       rcases List.mem_cons.1 hy with rfl | hy
       ·exact ⟨by omega, by omega, by omega, hd.1, hd.2⟩
       ·exact h2 y hy
      ·exact h1.2 hd
theorem fits_ev (hl : ds.length ≤ 1048576) (hv : ∀ x ∈ ds, x.f1.length ≤ 1048576 ∧ x.f2.length ≤ 1048576) :
  (FitD id ds → Ev (fun k => z10.f k id ds) true) ∧ (¬ FitD id ds → Ev (fun k => z10.f k id ds) false) := by
 have h0 := fits_l0 id ds hl hv ds [] rfl
 refine ⟨fun h => ?_, fun h => ?_⟩
 ·obtain ⟨ha, hb, hc⟩ := h
  exact Ev.ite_neg (by omega) (Ev.step (fun k => z10.j0.eq_2 _ _ _ k) (Ev.ite_neg (by simp; omega) (h0.1 hc)))
 ·unfold z10.f
  by_cases ha : (id.size : Int) > 65536
  ·exact Ev.ite_pos ha (Ev.step (fun k => z10.j0.eq_2 _ _ _ k) (Ev.ite_pos rfl (Ev.now _)))
  ·refine Ev.ite_neg ha ?_
   by_cases hb : (ds.length : Int) > 4096
   ·exact Ev.step (fun k => z10.j0.eq_2 _ _ _ k) (Ev.ite_pos (by simpa using hb) (Ev.now _))
   ·exact Ev.step (fun k => z10.j0.eq_2 _ _ _ k) (Ev.ite_neg (by simp; omega) (h0.2 (fun h2 => h ⟨by omega, by omega, h2⟩)))
end
end Go.Proofs.Ytndjodgcemgpfaa.Q
end
section
namespace Go.Proofs.Ytndjodgcemgpfaa.Q
open Go.RowKit Go.Proofs.YtndjodgcemgpfaaW.PrintWords Go.Proofs.YtndjodgcemgpfaaW.PrintLast Go.Proofs.YtndjodgcemgpfaaW.PrintMore
instance : DecidablePred OkN := fun n => inferInstanceAs (Decidable (_ ∧ _))
def valL (x : S84) : List Int := txtL x.f0 ++ (putL x.f1.length ++ (x.f1.flatMap txtL ++ (putL x.f2.length ++ x.f2.flatMap numL)))
def docL (id : ByteArray) (ds : List S84) : List Int := txtL id ++ (putL ds.length ++ ds.flatMap valL)
section
variable (id : ByteArray) (ds : List S84)
theorem bytes_l2 (i : Nat) (hi : i < 1048576) (x : S84) (hl : x.f2.length ≤ 1048576) (r : List Int) : ∀ (rest pre : List Int) (acc : List Int), x.f2 = pre ++ rest → (∀ n ∈ rest, OkN n) → acc.length + (rest.flatMap numL).length < 140737488355328 →
  Ev (fun k => z11.l0 k (acc ++ rest.flatMap numL) ((i + 1 : Nat) : Int) id ds) r → Ev (fun k => z11.l2 k acc (i : Int) (pre.length : Int) id ds x.f0 x.f1 x.f2) r
 | [], pre, acc, hx, ho, hb, hr => by
  refine Ev.step (fun k => z11.l2.eq_2 _ _ _ _ _ _ _ _ k) (Ev.ite_neg (by rw [hx]; exact end_lt) ?_)
  rw [z1s (by omega) (by omega)]
  simpa using hr
 | n :: rest, pre, acc, hx, ho, hb, hr => by
  have hlt : pre.length < 1048576 := by rw [hx] at hl; simp at hl; omega
  have hrd : rd x.f2 (pre.length : Int) = n := by rw [hx]; exact mid_getD _
  rw [List.flatMap_cons, ul] at hb
  rw [List.flatMap_cons, ← List.append_assoc] at hr
  refine Ev.step (fun k => z11.l2.eq_2 _ _ _ _ _ _ _ _ k) (Ev.ite_pos (by rw [hx]; exact mid_lt) (Ev.ite_pos (by omega) ?_))
  rw [hrd, wrap_next (x := n) (by omega)]
  exact Ev.bind (l06PutNumber_ev acc n (ho n (by simp)) (by omega)) (bytes_l2 i hi x hl r rest (pre ++ [n]) (acc ++ numL n) (by rw [hx]; simp) (fun m hm => ho m (by simp [hm])) (by rw [ul]; omega) hr)
theorem bytes_l1 (i : Nat) (hi : i < 1048576) (x : S84) (hl : x.f1.length ≤ 1048576) (hl2 : x.f2.length ≤ 1048576) (r : List Int) : ∀ (rest pre : List ByteArray) (acc : List Int), x.f1 = pre ++ rest → (∀ t ∈ rest, FitT t) → (∀ n ∈ x.f2, OkN n) → acc.length + (rest.flatMap txtL).length + (putL x.f2.length).length + (x.f2.flatMap numL).length < 140737488355328 →
  Ev (fun k => z11.l0 k (acc ++ (rest.flatMap txtL ++ (putL x.f2.length ++ x.f2.flatMap numL))) ((i + 1 : Nat) : Int) id ds) r → Ev (fun k => z11.l1 k acc (i : Int) (pre.length : Int) id ds x.f0 x.f1 x.f2) r
 | [], pre, acc, hx, ho, ho2, hb, hr => by
  refine Ev.step (fun k => z11.l1.eq_2 _ _ _ _ _ _ _ _ k) (Ev.ite_neg (by rw [hx]; exact end_lt) (Ev.bind (l03Put x.f2.length (by omega)) (Ev.ite_pos (by omega) ?_)))
  exact bytes_l2 id ds i hi x hl2 r x.f2 [] _ rfl ho2 (by rw [ul]; omega) (by simpa using hr)
 | t :: rest, pre, acc, hx, ho, ho2, hb, hr => by
  have hlt : pre.length < 1048576 := by rw [hx] at hl; simp at hl; omega
  have hrd : rdOf ByteArray.empty x.f1 (pre.length : Int) = t := by rw [hx]; exact mid_getD _
  have ht : t.size ≤ 65536 := ho t (by simp)
  rw [List.flatMap_cons, ul] at hb
  refine Ev.step (fun k => z11.l1.eq_2 _ _ _ _ _ _ _ _ k) (Ev.ite_pos (by rw [hx]; exact mid_lt) (Ev.ite_pos (by omega) ?_))
  rw [hrd, wrap_next (x := t) (by omega)]
  exact Ev.bind (l06PutText_ev acc t (by omega) (by omega)) (bytes_l1 i hi x hl hl2 r rest (pre ++ [t]) (acc ++ txtL t) (by rw [hx]; simp) (fun m hm => ho m (by simp [hm])) ho2 (by rw [ul]; omega) (by simpa [List.append_assoc] using hr))
theorem bytes_l0 (hl : ds.length ≤ 1048576) : ∀ (rest pre : List S84) (acc : List Int), ds = pre ++ rest → (∀ x ∈ rest, FitV x) → acc.length + (rest.flatMap valL).length < 140737488355328 →
  Ev (fun k => z11.l0 k acc (pre.length : Int) id ds) (acc ++ rest.flatMap valL)
 | [], pre, acc, hx, ho, hb => by
  refine Ev.step (fun k => z11.l0.eq_2 _ _ _ _ k) (Ev.ite_neg (by rw [hx]; exact end_lt) (Ev.eq (Ev.now _) (by simp)))
 | x :: rest, pre, acc, hx, ho, hb => by
  have hlt : pre.length < 1048576 := by rw [hx] at hl; simp at hl; omega
  have hrd : rd_T84 ds (pre.length : Int) = x := by rw [hx]; exact mid_getD _
  obtain ⟨ha, hb1, hc, hd, he⟩ := ho x (by simp)
  have hv : (valL x).length = (txtL x.f0).length + (putL x.f1.length).length + (x.f1.flatMap txtL).length + (putL x.f2.length).length + (x.f2.flatMap numL).length := by
   unfold valL
   simp only [ul]
   omega
  rw [List.flatMap_cons, ul] at hb
  refine Ev.step (fun k => z11.l0.eq_2 _ _ _ _ k) (Ev.ite_pos (by rw [hx]; exact mid_lt) (Ev.ite_pos (by omega) ?_))
  rw [hrd]
  refine Ev.bind (l06PutText_ev acc x.f0 (by omega) (by omega)) (Ev.bind (l03Put x.f1.length (by omega)) (Ev.ite_pos (by rw [ul]; omega) ?_))
  refine bytes_l1 id ds pre.length hlt x (by omega) (by omega) _ x.f1 [] _ rfl hd he (by simp only [ul]; omega) ?_
  have e : (pre.length + 1 : Nat) = (pre ++ [x]).length := by simp
  rw [e]
  refine Ev.eq (Ev.congr (fun k => ?_) (bytes_l0 hl rest (pre ++ [x]) (acc ++ valL x) (by rw [hx]; simp) (fun y hy => ho y (by simp [hy])) (by rw [ul]; omega))) (by simp)
  simp [valL, List.append_assoc]
theorem l06Bytes_ev (hf : FitD id ds) (hb : (docL id ds).length < 140737488355328) : Ev (fun k => z11.f k id ds) (docL id ds) := by
 obtain ⟨h1, h2, h3⟩ := hf
 unfold docL at hb ⊢
 simp only [ul] at hb
 refine Ev.bind (l06PutText_ev [] id (by omega) (by simp only [List.length_nil]; omega)) (Ev.bind (l03Put ds.length (by omega)) (Ev.ite_pos (by simp only [List.nil_append]; omega) ?_))
 refine Ev.eq (bytes_l0 id ds (by omega) ds [] _ rfl h3 (by simp only [List.nil_append, ul]; omega)) (by simp)
theorem impl_l2 (i : Nat) (hi : i < 1048576) (xs : List Int) (hl : xs.length ≤ 1048576) : ∀ (rest pre : List Int), xs = pre ++ rest →
  ((∀ n ∈ rest, OkN n) → ∀ r, Ev (fun k => zz.l0 k ds (ds.length : Int) ((i + 1 : Nat) : Int) id ds) r → Ev (fun k => zz.l2 k ds (ds.length : Int) (i : Int) xs (xs.length : Int) (pre.length : Int) id ds) r) ∧
  ((¬ ∀ n ∈ rest, OkN n) → Ev (fun k => zz.l2 k ds (ds.length : Int) (i : Int) xs (xs.length : Int) (pre.length : Int) id ds) ([], 12))
 | [], pre, hx => by
  refine ⟨fun _ r hr => ?_, fun h => absurd (by simp) h⟩
  refine Ev.step (fun k => zz.l2.eq_2 _ _ _ _ _ _ _ _ k) (Ev.ite_neg (by rw [hx]; exact end_lt) ?_)
  rw [z1s (by omega) (by omega)]
  exact hr
 | n :: rest, pre, hx => by
  have hlt : pre.length < 1048576 := by rw [hx] at hl; simp at hl; omega
  have hrd : rd xs (pre.length : Int) = n := by rw [hx]; exact mid_getD _
  have hm : (pre.length : Int) < (xs.length : Int) := by rw [hx]; exact mid_lt
  have ih := impl_l2 i hi xs hl rest (pre ++ [n]) (by rw [hx]; simp)
  have hw : impl_within.f n (-1000000000000) 1000000000000 = some (decide (OkN n)) := by
   unfold impl_within.f OkN
   by_cases h : n ≥ -1000000000000
   ·rw [if_pos h]
    congr 1
    simp [show -1000000000000 ≤ n from h]
   ·rw [if_neg h]
    congr 1
    simp [show ¬ -1000000000000 ≤ n from h]
  refine ⟨fun h r hr => ?_, fun h => ?_⟩
  ·refine Ev.step (fun k => zz.l2.eq_2 _ _ _ _ _ _ _ _ k) (Ev.ite_pos hm (Ev.ite_pos (by omega) (Ev.ite_pos hm ?_)))
   rw [hrd, wrap_next (x := n) (by omega)]
   exact Ev.const hw (Ev.ite_pos (by simpa using h n (by simp)) (ih.1 (fun m hm => h m (by simp [hm])) r hr))
  ·refine Ev.step (fun k => zz.l2.eq_2 _ _ _ _ _ _ _ _ k) (Ev.ite_pos hm (Ev.ite_pos (by omega) (Ev.ite_pos hm ?_)))
   rw [hrd, wrap_next (x := n) (by omega)]
   refine Ev.const hw ?_
   by_cases h0 : OkN n
   ·refine Ev.ite_pos (by simpa using h0) (ih.2 (fun h2 => h (fun m hm => ?_)))
    rcases List.mem_cons.1 hm with rfl | hm
    ·exact h0
    ·exact h2 m hm
   ·exact Ev.ite_neg (by simpa using h0) (Ev.now _)
theorem impl_l1 (i : Nat) (hi : i < 1048576) (x : S84) (hl : x.f1.length ≤ 1048576) (hl2 : x.f2.length ≤ 1048576) : ∀ (rest pre : List ByteArray), x.f1 = pre ++ rest →
  (((∀ t ∈ rest, FitT t) ∧ ∀ n ∈ x.f2, OkN n) → ∀ r, Ev (fun k => zz.l0 k ds (ds.length : Int) ((i + 1 : Nat) : Int) id ds) r → Ev (fun k => zz.l1 k ds (ds.length : Int) (i : Int) x.f1 (x.f1.length : Int) (pre.length : Int) id ds x.f0 x.f1 x.f2) r) ∧
  ((¬ ((∀ t ∈ rest, FitT t) ∧ ∀ n ∈ x.f2, OkN n)) → Ev (fun k => zz.l1 k ds (ds.length : Int) (i : Int) x.f1 (x.f1.length : Int) (pre.length : Int) id ds x.f0 x.f1 x.f2) ([], 12))
 | [], pre, hx => by
  have h2 := impl_l2 id ds i hi x.f2 hl2 x.f2 [] rfl
  refine ⟨fun h r hr => ?_, fun h => ?_⟩
  ·exact Ev.step (fun k => zz.l1.eq_2 _ _ _ _ _ _ _ _ _ _ _ k) (Ev.ite_neg (by rw [hx]; exact end_lt) (h2.1 h.2 r hr))
  ·exact Ev.step (fun k => zz.l1.eq_2 _ _ _ _ _ _ _ _ _ _ _ k) (Ev.ite_neg (by rw [hx]; exact end_lt) (h2.2 (fun h3 => h ⟨by simp, h3⟩)))
 | t :: rest, pre, hx => by
  have hlt : pre.length < 1048576 := by rw [hx] at hl; simp at hl; omega
  have hrd : rdOf ByteArray.empty x.f1 (pre.length : Int) = t := by rw [hx]; exact mid_getD _
  have hm : (pre.length : Int) < (x.f1.length : Int) := by rw [hx]; exact mid_lt
  have ih := impl_l1 i hi x hl hl2 rest (pre ++ [t]) (by rw [hx]; simp)
  refine ⟨fun h r hr => ?_, fun h => ?_⟩
  ·have hn : t.size ≤ 65536 := h.1 t (by simp)
   refine Ev.step (fun k => zz.l1.eq_2 _ _ _ _ _ _ _ _ _ _ _ k) (Ev.ite_pos hm (Ev.ite_pos (by omega) (Ev.ite_pos hm ?_)))
   rw [hrd, wrap_next (x := t) (by omega)]
   exact Ev.ite_neg (by omega) (ih.1 ⟨fun m hm => h.1 m (by simp [hm]), h.2⟩ r hr)
  ·refine Ev.step (fun k => zz.l1.eq_2 _ _ _ _ _ _ _ _ _ _ _ k) (Ev.ite_pos hm (Ev.ite_pos (by omega) (Ev.ite_pos hm ?_)))
   rw [hrd, wrap_next (x := t) (by omega)]
   by_cases h0 : (t.size : Int) > 65536
   ·exact Ev.ite_pos h0 (Ev.now _)
   ·refine Ev.ite_neg h0 (ih.2 (fun h2 => h ⟨fun m hm => ?_, h2.2⟩))
    rcases List.mem_cons.1 hm with rfl | hm
    ·show m.size ≤ 65536
     omega
    ·exact h2.1 m hm
theorem impl_l5 (i : Nat) (hi : i < 1048576) (xs : List Int) (hl : xs.length ≤ 1048576) (r : List Int × Int) : ∀ (rest pre : List Int) (acc : List Int), xs = pre ++ rest → (∀ n ∈ rest, OkN n) → acc.length + (rest.flatMap numL).length < 140737488355328 →
  Ev (fun k => zz.l3 k (acc ++ rest.flatMap numL) ds (ds.length : Int) ((i + 1 : Nat) : Int)) r → Ev (fun k => zz.l5 k acc ds (ds.length : Int) (i : Int) xs (xs.length : Int) (pre.length : Int)) r
 | [], pre, acc, hx, ho, hb, hr => by
  refine Ev.step (fun k => zz.l5.eq_2 _ _ _ _ _ _ _ k) (Ev.ite_neg (by rw [hx]; exact end_lt) ?_)
  rw [z1s (by omega) (by omega)]
  simpa using hr
 | n :: rest, pre, acc, hx, ho, hb, hr => by
  have hlt : pre.length < 1048576 := by rw [hx] at hl; simp at hl; omega
  have hrd : rd xs (pre.length : Int) = n := by rw [hx]; exact mid_getD _
  have hm : (pre.length : Int) < (xs.length : Int) := by rw [hx]; exact mid_lt
  obtain ⟨h0, h1⟩ := ho n (by simp)
  rw [List.flatMap_cons, ul] at hb
  rw [List.flatMap_cons, ← List.append_assoc] at hr
  have next := impl_l5 i hi xs hl r rest (pre ++ [n]) (acc ++ numL n) (by rw [hx]; simp) (fun m hm => ho m (by simp [hm])) (by rw [ul]; omega) hr
  refine Ev.step (fun k => zz.l5.eq_2 _ _ _ _ _ _ _ k) (Ev.ite_pos hm (Ev.ite_pos (by omega) (Ev.ite_pos hm ?_)))
  rw [hrd, wrap_next (x := n) (by omega)]
  unfold numL numN at hb next
  by_cases h : n < 0
  ·rw [if_pos h] at hb next
   have e : wrap64 ((wrap64 ((-2) * n)) - 1) = (((-2 * n - 1).toNat : Nat) : Int) := by
    rw [z1s (x := (-2) * n) (by omega) (by omega), z1s (by omega) (by omega)]
    omega
   refine Ev.ite_pos h ?_
   rw [e]
   exact Ev.bind (putInt_ev acc _ (by omega) (by omega)) next
  ·rw [if_neg h] at hb next
   have e : wrap64 (2 * n) = (((2 * n).toNat : Nat) : Int) := by
    rw [z1s (by omega) (by omega)]
    omega
   refine Ev.ite_neg h ?_
   rw [e]
   exact Ev.bind (putInt_ev acc _ (by omega) (by omega)) next
theorem impl_l4 (i : Nat) (hi : i < 1048576) (x : S84) (hl : x.f1.length ≤ 1048576) (hl2 : x.f2.length ≤ 1048576) (r : List Int × Int) : ∀ (rest pre : List ByteArray) (acc : List Int), x.f1 = pre ++ rest → (∀ t ∈ rest, FitT t) → (∀ n ∈ x.f2, OkN n) → acc.length + (rest.flatMap txtL).length + (putL x.f2.length).length + (x.f2.flatMap numL).length < 140737488355328 →
  Ev (fun k => zz.l3 k (acc ++ (rest.flatMap txtL ++ (putL x.f2.length ++ x.f2.flatMap numL))) ds (ds.length : Int) ((i + 1 : Nat) : Int)) r → Ev (fun k => zz.l4 k acc ds (ds.length : Int) (i : Int) x.f1 (x.f1.length : Int) (pre.length : Int) x.f0 x.f1 x.f2) r
 | [], pre, acc, hx, ho, ho2, hb, hr => by
  refine Ev.step (fun k => zz.l4.eq_2 _ _ _ _ _ _ _ _ _ _ k) (Ev.ite_neg (by rw [hx]; exact end_lt) (Ev.bind (putInt_ev acc x.f2.length (by omega) (by omega)) ?_))
  exact impl_l5 ds i hi x.f2 hl2 r x.f2 [] _ rfl ho2 (by rw [ul]; omega) (by simpa using hr)
 | t :: rest, pre, acc, hx, ho, ho2, hb, hr => by
  have hlt : pre.length < 1048576 := by rw [hx] at hl; simp at hl; omega
  have hrd : rdOf ByteArray.empty x.f1 (pre.length : Int) = t := by rw [hx]; exact mid_getD _
  have hm : (pre.length : Int) < (x.f1.length : Int) := by rw [hx]; exact mid_lt
  have ht : t.size ≤ 65536 := ho t (by simp)
  rw [List.flatMap_cons, ul] at hb
  refine Ev.step (fun k => zz.l4.eq_2 _ _ _ _ _ _ _ _ _ _ k) (Ev.ite_pos hm (Ev.ite_pos (by omega) (Ev.ite_pos hm ?_)))
  rw [hrd, wrap_next (x := t) (by omega)]
  exact Ev.bind (putText_ev acc t (by omega) (by omega)) (impl_l4 i hi x hl hl2 r rest (pre ++ [t]) (acc ++ txtL t) (by rw [hx]; simp) (fun m hm => ho m (by simp [hm])) ho2 (by rw [ul]; omega) (by simpa [List.append_assoc] using hr))
theorem impl_l3 (hl : ds.length ≤ 1048576) : ∀ (rest pre : List S84) (acc : List Int), ds = pre ++ rest → (∀ x ∈ rest, FitV x) → acc.length + (rest.flatMap valL).length < 140737488355328 →
  Ev (fun k => zz.l3 k acc ds (ds.length : Int) (pre.length : Int)) (acc ++ rest.flatMap valL, 0)
 | [], pre, acc, hx, ho, hb => by
  refine Ev.step (fun k => zz.l3.eq_2 _ _ _ _ k) (Ev.ite_neg (by rw [hx]; exact end_lt) (Ev.eq (Ev.now _) (by simp)))
 | x :: rest, pre, acc, hx, ho, hb => by
  have hlt : pre.length < 1048576 := by rw [hx] at hl; simp at hl; omega
  have hrd : rd_T84 ds (pre.length : Int) = x := by rw [hx]; exact mid_getD _
  have hm : (pre.length : Int) < (ds.length : Int) := by rw [hx]; exact mid_lt
  obtain ⟨ha, hb1, hc, hd, he⟩ := ho x (by simp)
  have hv : (valL x).length = (txtL x.f0).length + (putL x.f1.length).length + (x.f1.flatMap txtL).length + (putL x.f2.length).length + (x.f2.flatMap numL).length := by
   unfold valL
   simp only [ul]
   omega
  rw [List.flatMap_cons, ul] at hb
  refine Ev.step (fun k => zz.l3.eq_2 _ _ _ _ k) (Ev.ite_pos hm (Ev.ite_pos (by omega) (Ev.ite_pos hm ?_)))
  rw [hrd]
  refine Ev.bind (putText_ev acc x.f0 (by omega) (by omega)) (Ev.bind (putInt_ev _ x.f1.length (by omega) (by rw [ul]; omega)) ?_)
  refine impl_l4 ds pre.length hlt x (by omega) (by omega) _ x.f1 [] _ rfl hd he (by simp only [ul]; omega) ?_
  have e : (pre.length + 1 : Nat) = (pre ++ [x]).length := by simp
  rw [e]
  refine Ev.eq (Ev.congr (fun k => ?_) (impl_l3 hl rest (pre ++ [x]) (acc ++ valL x) (by rw [hx]; simp) (fun y hy => ho y (by simp [hy])) (by rw [ul]; omega))) (by simp)
  simp [valL, List.append_assoc]
theorem impl_l0 (hl : ds.length ≤ 4096) (hid : id.size ≤ 65536) (hv : ∀ x ∈ ds, x.f1.length ≤ 1048576 ∧ x.f2.length ≤ 1048576) (hb : (docL id ds).length < 140737488355328) : ∀ (rest pre : List S84), ds = pre ++ rest →
  ((∀ x ∈ rest, FitV x) → (∀ x ∈ pre, FitV x) → Ev (fun k => zz.l0 k ds (ds.length : Int) (pre.length : Int) id ds) (docL id ds, 0)) ∧ ((¬ ∀ x ∈ rest, FitV x) → Ev (fun k => zz.l0 k ds (ds.length : Int) (pre.length : Int) id ds) ([], 12))
 | [], pre, hx => by
  refine ⟨fun _ h => ?_, fun h => absurd (by simp) h⟩
  have hall : ∀ x ∈ ds, FitV x := by rw [hx]; simpa using h
  unfold docL at hb ⊢
  simp only [ul] at hb
  refine Ev.step (fun k => zz.l0.eq_2 _ _ _ _ _ k) (Ev.ite_neg (by rw [hx]; exact end_lt) ?_)
  refine Ev.bind (putText_ev [] id (by omega) (by simp only [List.length_nil]; omega)) (Ev.bind (putInt_ev _ ds.length (by omega) (by simp only [List.nil_append]; omega)) ?_)
  refine Ev.eq (impl_l3 ds (by omega) ds [] _ rfl hall (by simp only [List.nil_append, ul]; omega)) (by simp)
 | x :: rest, pre, hx => by
  have hlt : pre.length < 1048576 := by rw [hx] at hl; simp at hl; omega
  have hrd : rd_T84 ds (pre.length : Int) = x := by rw [hx]; exact mid_getD _
  have hm : (pre.length : Int) < (ds.length : Int) := by rw [hx]; exact mid_lt
  have hvx := hv x (by rw [hx]; simp)
  have ih := impl_l0 hl hid hv hb rest (pre ++ [x]) (by rw [hx]; simp)
  have e : ((pre ++ [x]).length : Int) = ((pre.length + 1 : Nat) : Int) := by simp
  rw [e] at ih
  have h1 := impl_l1 id ds pre.length hlt x hvx.1 hvx.2 x.f1 [] rfl
  refine ⟨fun h hp => ?_, fun h => ?_⟩
  ·have hfx := h x (by simp)
   obtain ⟨ha, hb1, hc, hd, he⟩ := hfx
   refine Ev.step (fun k => zz.l0.eq_2 _ _ _ _ _ k) (Ev.ite_pos hm (Ev.ite_pos (by omega) (Ev.ite_pos hm ?_)))
   rw [hrd]
   refine Ev.ite_neg (by omega) (Ev.ite_neg (by omega) (Ev.step (fun k => zz.j2.eq_2 _ _ _ _ _ _ _ _ _ k) (Ev.ite_neg (by simp; omega) (h1.1 ⟨hd, he⟩ _ (ih.1 (fun y hy => h y (by simp [hy])) (fun y hy => ?_))))))
   rcases List.mem_append.1 hy with hy | hy
   ·exact hp y hy
   ·rw [List.mem_singleton.1 hy]
    exact h x (by simp)
  ·refine Ev.step (fun k => zz.l0.eq_2 _ _ _ _ _ k) (Ev.ite_pos hm (Ev.ite_pos (by omega) (Ev.ite_pos hm ?_)))
   rw [hrd]
   have big : Ev (fun k => zz.j2 k ds (ds.length : Int) (pre.length : Int) true id ds x.f0 x.f1 x.f2) ([], 12) := Ev.step (fun k => zz.j2.eq_2 _ _ _ _ _ _ _ _ _ k) (Ev.ite_pos rfl (Ev.now _))
   by_cases ha : (x.f0.size : Int) > 65536
   ·exact Ev.ite_pos ha big
   ·refine Ev.ite_neg ha ?_
    by_cases hb1 : (x.f1.length : Int) > 4096
    ·exact Ev.ite_pos hb1 big
    ·refine Ev.ite_neg hb1 ?_
     by_cases hc : (x.f2.length : Int) > 4096
     ·exact Ev.step (fun k => zz.j2.eq_2 _ _ _ _ _ _ _ _ _ k) (Ev.ite_pos (by simpa using hc) (Ev.now _))
     ·refine Ev.step (fun k => zz.j2.eq_2 _ _ _ _ _ _ _ _ _ k) (Ev.ite_neg (by simp; omega) ?_)
      by_cases hd : (∀ t ∈ x.f1, FitT t) ∧ ∀ n ∈ x.f2, OkN n
      ·refine h1.1 hd _ (ih.2 (fun h2 => h (fun y hy => ?_)))
       rcases List.mem_cons.1 hy with rfl | hy
       ·exact ⟨by omega, by omega, by omega, hd.1, hd.2⟩
       ·exact h2 y hy
      ·exact h1.2 hd
open Classical in

noncomputable def docR (id : ByteArray) (ds : List S84) : List Int × Int := if FitD id ds then (docL id ds, 0) else ([], 12)
theorem impl_DocBytes_ev (hv : ∀ x ∈ ds, x.f1.length ≤ 1048576 ∧ x.f2.length ≤ 1048576) (hb : (docL id ds).length < 140737488355328) : Ev (fun k => zz.f k id ds) (docR id ds) := by
 unfold docR zz.f
 by_cases ha : (id.size : Int) > 65536
 ·rw [if_neg (fun h => by have := h.1; omega)]
  exact Ev.ite_pos ha (Ev.step (fun k => zz.j0.eq_2 _ _ _ k) (Ev.ite_pos rfl (Ev.now _)))
 ·refine Ev.ite_neg ha ?_
  by_cases hc : (ds.length : Int) > 4096
  ·rw [if_neg (fun h => by have := h.2.1; omega)]
   exact Ev.step (fun k => zz.j0.eq_2 _ _ _ k) (Ev.ite_pos (by simpa using hc) (Ev.now _))
  ·refine Ev.step (fun k => zz.j0.eq_2 _ _ _ k) (Ev.ite_neg (by simp; omega) ?_)
   have h0 := impl_l0 id ds (by omega) (by omega) hv hb ds [] rfl
   by_cases hd : ∀ x ∈ ds, FitV x
   ·rw [if_pos ⟨by omega, by omega, hd⟩]
    exact h0.1 hd (by simp)
   ·rw [if_neg (fun h => hd h.2.2)]
    exact h0.2 hd
end
theorem txtL_le (s : ByteArray) (h : s.size ≤ 9223372036854775807) : (txtL s).length ≤ 9 + s.size := by
 unfold txtL
 rw [ul, bytesOf_length]
 have := putL_len s.size h
 omega
theorem numL_le (n : Int) : (numN n) ≤ 9223372036854775807 → (numL n).length ≤ 9 := putL_len _
end Go.Proofs.Ytndjodgcemgpfaa.Q
end
section
namespace Go.Proofs.Ytndjodgcemgpfaa.Q
open Go.RowKit Go.Proofs.YtndjodgcemgpfaaW.PrintWords Go.Proofs.YtndjodgcemgpfaaW.PrintLast Go.Proofs.YtndjodgcemgpfaaW.PrintMore
attribute [local go_sem] max2_int min2_int max_two min_two max_three min_three max_four min_four
def spec_l06Id.l0 : Nat → ByteArray → Int → Option (Bool)
 | 0, _, _ => none
 | k + 1, x0, x3 => if x3 < (x0.size : Int) then (if 0 ≤ x3 then (if (bt x0 x3) < 33 then (some false) else (if (bt x0 x3) > 126 then (some false) else (spec_l06Id.l0 k x0 (wrap64 (x3 + 1))))) else (none)) else (if (x0.size : Int) ≥ 1 then (some (decide ((x0.size : Int) ≤ 30))) else (some false))
def spec_l06Id.f (k : Nat) (a0 : ByteArray) : Option (Bool) := spec_l06Id.l0 k a0 0
set_option maxHeartbeats 8000000 in
set_option maxRecDepth 100000 in
theorem spec_l06Id.calls (k : Nat) (a0 : ByteArray) (r : Bool) (w : World) (h : spec_l06Id.f k a0 = some r) :
  Calls Try.prog 102 #[.string a0] w fun e w' => e = .returned (.bool r) ∧ Drawn0 w w' := by
 have H : (spec_l06Id.l0 k a0 0) = some r := h
 clear h
 have H' := z1o.mk H
 clear H
 go_enter Try.func102, Try.ntmps102
 go_wp2
 go_loopg [3] k (fun kq v3 w' => ∃ (x3_1 : Int), v3 = .int .i64 x3_1 ∧ z1o (spec_l06Id.l0 kq a0 x3_1 = some r) ∧ z1o (kq ≤ k) ∧ Drawn0 w w')
 case atStart => exact ⟨(0), (by first | rfl | (simp; done) | (simp [*]; done)), H', ⟨um _⟩, yb⟩
 case round =>
  clear H'
  try clear c1
  obtain ⟨x3_1, rfl, HA, HK1, ⟨m1, rfl⟩⟩ := hrel
  cases gk with
  | zero => exact absurd HA.out (by simp [spec_l06Id.l0])
  | succ k1 =>
   have H := HA.out
   clear HA
   simp only [spec_l06Id.l0] at H
   by_cases c2 : x3_1 < (a0.size : Int)
   ·rw [if_pos c2] at H
    have c2b0 : decide (x3_1 < (a0.size : Int)) = true := decide_eq_true c2
    clear c2
    by_cases c3 : 0 ≤ x3_1
    ·rw [if_pos c3] at H
     have c3b0 : decide (0 ≤ x3_1) = true := decide_eq_true c3
     clear c3
     by_cases c5 : (bt a0 x3_1) < 33
     ·rw [if_pos c5] at H
      have c5b0 : decide ((bt a0 x3_1) < 33) = true := decide_eq_true c5
      clear c5
      obtain rfl := Option.some.inj H
      have p4 : 0 ≤ (x3_1 : Int) := of_decide_eq_true (by first | (with_reducible assumption) | assumption)
      have q4 : x3_1 < (a0.size : Int) := of_decide_eq_true (by first | (with_reducible assumption) | assumption)
      have hx4 := bt_at a0 x3_1
      replace p4 := eq_true p4
      replace q4 := eq_true q4
      go_wp2
      go_ret
      exact ⟨by first | rfl | (simp; done) | (simp [*]; done), yb⟩
     ·rw [if_neg c5] at H
      have c5b0 : decide ((bt a0 x3_1) < 33) = false := decide_eq_false c5
      clear c5
      by_cases c7 : (bt a0 x3_1) > 126
      ·rw [if_pos c7] at H
       have c7b0 : decide (126 < (bt a0 x3_1)) = true := decide_eq_true c7
       clear c7
       obtain rfl := Option.some.inj H
       have p4 : 0 ≤ (x3_1 : Int) := of_decide_eq_true (by first | (with_reducible assumption) | assumption)
       have q4 : x3_1 < (a0.size : Int) := of_decide_eq_true (by first | (with_reducible assumption) | assumption)
       have hx4 := bt_at a0 x3_1
       replace p4 := eq_true p4
       replace q4 := eq_true q4
       have p6 : 0 ≤ (x3_1 : Int) := of_decide_eq_true (by first | (with_reducible assumption) | assumption)
       have q6 : x3_1 < (a0.size : Int) := of_decide_eq_true (by first | (with_reducible assumption) | assumption)
       have hx6 := bt_at a0 x3_1
       replace p6 := eq_true p6
       replace q6 := eq_true q6
       go_wp2
       go_ret
       exact ⟨by first | rfl | (simp; done) | (simp [*]; done), yb⟩
      ·rw [if_neg c7] at H
       have c7b0 : decide (126 < (bt a0 x3_1)) = false := decide_eq_false c7
       clear c7
       have H' := z1o.mk H
       clear H
       have p4 : 0 ≤ (x3_1 : Int) := of_decide_eq_true (by first | (with_reducible assumption) | assumption)
       have q4 : x3_1 < (a0.size : Int) := of_decide_eq_true (by first | (with_reducible assumption) | assumption)
       have hx4 := bt_at a0 x3_1
       replace p4 := eq_true p4
       replace q4 := eq_true q4
       have p6 : 0 ≤ (x3_1 : Int) := of_decide_eq_true (by first | (with_reducible assumption) | assumption)
       have q6 : x3_1 < (a0.size : Int) := of_decide_eq_true (by first | (with_reducible assumption) | assumption)
       have hx6 := bt_at a0 x3_1
       replace p6 := eq_true p6
       replace q6 := eq_true q6
       go_wp2
       go_roundg k1
       case measure => have := HK1.out; omega
       case rel => exact ⟨(wrap64 (x3_1 + 1)), (by first | rfl | (simp; done) | (simp [*]; done)), H', ⟨by have := HK1.out; omega⟩, yb⟩
    ·rw [if_neg c3] at H
     exact absurd H (by simp)
   ·rw [if_neg c2] at H
    have c2b0 : decide (x3_1 < (a0.size : Int)) = false := decide_eq_false c2
    clear c2
    by_cases c8 : (a0.size : Int) ≥ 1
    ·rw [if_pos c8] at H
     have c8b0 : decide (1 ≤ (a0.size : Int)) = true := decide_eq_true c8
     have c8b1 : decide (1 ≤ a0.size) = true := decide_eq_true (by omega)
     clear c8
     obtain rfl := Option.some.inj H
     go_wp2
     go_ret
     exact ⟨by first | rfl | (simp; done) | (simp [*]; done), yb⟩
    ·rw [if_neg c8] at H
     have c8b0 : decide (1 ≤ (a0.size : Int)) = false := decide_eq_false c8
     have c8b1 : decide (1 ≤ a0.size) = false := decide_eq_false (by omega)
     clear c8
     obtain rfl := Option.some.inj H
     go_wp2
     go_ret
     exact ⟨by first | rfl | (simp; done) | (simp [*]; done), yb⟩
def spec_l14EmptyDoc.f (a0_0 : ByteArray) (l0_1 : List (S84)) : Option (Bool) := if a0_0.toList = ([] : List UInt8) then (some ((l0_1.length : Int) == 0)) else (some false)
set_option maxHeartbeats 8000000 in
set_option maxRecDepth 100000 in
theorem spec_l14EmptyDoc.calls (a0_0 : ByteArray) (A0_1 : Option Addr) (c0_1 : Nat) (l0_1 : List (S84)) (r : Bool) (w : World) (hr0_1 : Kd.C k84 w A0_1 l0_1.length l0_1) (hc0_1 : l0_1.length ≤ c0_1) (h : spec_l14EmptyDoc.f a0_0 l0_1 = some r) :
  Calls Try.prog 103 #[.agg #[.string a0_0, .slice A0_1 l0_1.length c0_1]] w fun e w' => e = .returned (.bool r) ∧ Below w.heap.size w w' := by
 have hu31 := Try.underlying31
 have HR0_1 := z1o.mk hr0_1
 have HC0_1 := z1o.mk hc0_1
 clear hr0_1 hc0_1
 have HB := z1o.mk (Below.refl w.heap.size w)
 have H : (if a0_0.toList = ([] : List UInt8) then (some ((l0_1.length : Int) == 0)) else (some false)) = some r := h
 clear h
 by_cases c2 : a0_0.toList = ([] : List UInt8)
 ·rw [if_pos c2] at H
  have c2b0 : (a0_0.toList == ([] : List UInt8)) = true := beq_iff_eq.mpr c2
  have c2b1 : (a0_0.toList != ([] : List UInt8)) = false := bne_eq_false_iff_eq.mpr c2
  clear c2
  obtain rfl := Option.some.inj H
  go_enter Try.func103, Try.ntmps103
  go_wp2_with (first | ((with_reducible refine zq (N := 1) rfl ?_); (try (refine zu (by rfl) ?_; dsimp only)); refine zv ?hg (N := 1) ?hd (cs := #[.string a0_0, .slice A0_1 l0_1.length c0_1]) (t := 31) ?hr ?_; (case hd => rfl); (case hg => rfl); (case hr => first | (go_simp; done) | (go_simp; rfl)); intro gb453 hg w3 hbox hb; have n0_ := z1o.mk (za y0 hb); have n1_ := z1o.mk (hbox); have n2_ := z1o.mk ((by rw [hg]; exact (zc y0) : w.heap.size ≤ gb453)); have n3_ := z1o.mk ((by rw [hg]; exact (zc y0) : w.heap.size ≤ gb453)); clear HB; have HB := n0_; have BK453 := n1_; have GW453 := n2_; have GE453 := n3_; clear n0_ n1_ n2_ n3_; clear hb hbox hg; obtain ⟨hcz4_0, hcz4_1⟩ := cbk2 BK453.out; obtain ⟨hfz4_0, hfz4_1⟩ := cbf2 BK453.out))
  go_ret
  exact ⟨by first | rfl | (simp [zm, zl] <;> rfl) | (simp [*, zm, zl] <;> rfl), y2z⟩
 ·rw [if_neg c2] at H
  have c2b0 : (a0_0.toList == ([] : List UInt8)) = false := beq_eq_false_iff_ne.mpr c2
  have c2b1 : (a0_0.toList != ([] : List UInt8)) = true := bne_iff_ne.mpr c2
  obtain rfl := Option.some.inj H
  go_enter Try.func103, Try.ntmps103
  go_wp2_with (first | ((with_reducible refine zq (N := 1) rfl ?_); (try (refine zu (by rfl) ?_; dsimp only)); refine zv ?hg (N := 1) ?hd (cs := #[.string a0_0, .slice A0_1 l0_1.length c0_1]) (t := 31) ?hr ?_; (case hd => rfl); (case hg => rfl); (case hr => first | (go_simp; done) | (go_simp; rfl)); intro gb453 hg w5 hbox hb; have n0_ := z1o.mk (za y0 hb); have n1_ := z1o.mk (hbox); have n2_ := z1o.mk ((by rw [hg]; exact (zc y0) : w.heap.size ≤ gb453)); have n3_ := z1o.mk ((by rw [hg]; exact (zc y0) : w.heap.size ≤ gb453)); clear HB; have HB := n0_; have BK453 := n1_; have GW453 := n2_; have GE453 := n3_; clear n0_ n1_ n2_ n3_; clear hb hbox hg; obtain ⟨hcz6_0, hcz6_1⟩ := cbk2 BK453.out; obtain ⟨hfz6_0, hfz6_1⟩ := cbf2 BK453.out))
  go_ret
  exact ⟨by first | rfl | (simp [zm, zl] <;> rfl) | (simp [*, zm, zl] <;> rfl), y2z⟩
def z1j.j0 : Nat → Bool → Int → Int → ByteArray → ByteArray → List (S84) → Option (Bool)
 | 0, _, _, _, _, _, _ => none
 | k + 1, x10, x455000, x455001, x455002, x455003, x455004 => if x10 = true then (some false) else (if x455000 = 1 then (if x455002.toList = ([] : List UInt8) then ((spec_l06Id.f k x455003).bind fun t455 => (if t455 = true then ((z10.f k x455003 x455004).bind fun t456 => (some t456)) else (some false))) else (some false)) else (if x455000 = 2 then ((spec_l06Id.f k x455002).bind fun t457 => (if t457 = true then ((spec_l14EmptyDoc.f x455003 x455004).bind fun t458 => (some t458)) else (some false))) else (some false)))
def z1j.f (k : Nat) (a0_0 : Int) (a0_1 : Int) (a0_2 : ByteArray) (a0_3 : ByteArray) (l0_4 : List (S84)) : Option (Bool) := if a0_1 < 1 then (z1j.j0 k true a0_0 a0_1 a0_2 a0_3 l0_4) else (z1j.j0 k (decide (a0_1 > 4611686018427387903)) a0_0 a0_1 a0_2 a0_3 l0_4)
set_option maxHeartbeats 8000000 in
set_option maxRecDepth 100000 in
theorem z1j.calls (k : Nat) (a0_0 : Int) (a0_1 : Int) (a0_2 : ByteArray) (a0_3 : ByteArray) (A0_4 : Option Addr) (c0_4 : Nat) (l0_4 : List (S84)) (r : Bool) (w : World) (hr0_4 : Kd.C k84 w A0_4 l0_4.length l0_4) (hc0_4 : l0_4.length ≤ c0_4) (h : z1j.f k a0_0 a0_1 a0_2 a0_3 l0_4 = some r) :
  Calls Try.prog 60 #[.agg #[.int .i64 a0_0, .int .i64 a0_1, .string a0_2, .string a0_3, .slice A0_4 l0_4.length c0_4]] w fun e w' => e = .returned (.bool r) ∧ Below w.heap.size w w' := by
 have hu47 := Try.underlying47
 have hu31 := Try.underlying31
 have HR0_4 := z1o.mk hr0_4
 have HC0_4 := z1o.mk hc0_4
 clear hr0_4 hc0_4
 have HB := z1o.mk (Below.refl w.heap.size w)
 have H : (if a0_1 < 1 then (z1j.j0 k true a0_0 a0_1 a0_2 a0_3 l0_4) else (z1j.j0 k (decide (a0_1 > 4611686018427387903)) a0_0 a0_1 a0_2 a0_3 l0_4)) = some r := h
 clear h
 have HC2 := z1o.mk H
 clear H
 go_enter Try.func60, Try.ntmps60
 go_upto_region 1 with (first | ((with_reducible refine zq (N := 1) rfl ?_); refine zv ?hg (N := 1) ?hd (cs := #[.int .i64 a0_0, .int .i64 a0_1, .string a0_2, .string a0_3, .slice A0_4 l0_4.length c0_4]) (t := 47) ?hr ?_; (case hd => rfl); (case hg => rfl); (case hr => first | (go_simp; done) | (go_simp; rfl)); intro gb454 hg w3 hbox hb; have n0_ := z1o.mk (za y0 hb); have n1_ := z1o.mk (hbox); have n2_ := z1o.mk ((by rw [hg]; exact (zc y0) : w.heap.size ≤ gb454)); have n3_ := z1o.mk ((by rw [hg]; exact (zc y0) : w.heap.size ≤ gb454)); clear HB; have HB := n0_; have BK454 := n1_; have GW454 := n2_; have GE454 := n3_; clear n0_ n1_ n2_ n3_; clear hb hbox hg))
 (try simp only [Act.put, ub, uc, ud])
 go_cut [10] (fun v10 wc => ∃ (kq : Nat) (x10_1 : Bool), v10 = .bool x10_1 ∧ z1o (z1j.j0 kq x10_1 a0_0 a0_1 a0_2 a0_3 l0_4 = some r) ∧ z1o (kq ≤ k) ∧ z1o (wc.heap[gb454]? = some (.cells #[.int .i64 a0_0, .int .i64 a0_1, .string a0_2, .string a0_3, (.slice A0_4 l0_4.length c0_4)] 47 (0, 0))) ∧ z1o (Below w.heap.size w wc))
 case first =>
  have H := HC2.out
  clear HC2
  by_cases c4 : a0_1 < 1
  ·rw [if_pos c4] at H
   have c4b0 : decide (a0_1 < 1) = true := decide_eq_true c4
   clear c4
   (first | rw [c4b0] | (simp only [zn, zo]; rw [c4b0]) | skip)
   have H' := z1o.mk H
   clear H
   obtain ⟨hcz5_0, hcz5_1, hcz5_2, hcz5_3, hcz5_4⟩ := cbk5 BK454.out
   obtain ⟨hfz5_0, hfz5_1, hfz5_2, hfz5_3, hfz5_4⟩ := cbf5 BK454.out
   go_wp2
   go_meet
   case rel => exact ⟨_, (true), (by first | rfl | (simp; done) | (simp [*]; done)), H', ⟨by first | omega | exact um _⟩, ⟨y2b⟩, ⟨yu⟩⟩
  ·rw [if_neg c4] at H
   have c4b0 : decide (a0_1 < 1) = false := decide_eq_false c4
   clear c4
   (first | rw [c4b0] | (simp only [zn, zo]; rw [c4b0]) | skip)
   have H' := z1o.mk H
   clear H
   obtain ⟨hcz6_0, hcz6_1, hcz6_2, hcz6_3, hcz6_4⟩ := cbk5 BK454.out
   obtain ⟨hfz6_0, hfz6_1, hfz6_2, hfz6_3, hfz6_4⟩ := cbf5 BK454.out
   go_wp2
   go_meet
   case rel => exact ⟨_, (decide (a0_1 > 4611686018427387903)), (by first | rfl | (simp; done) | (simp [*]; done)), H', ⟨by first | omega | exact um _⟩, ⟨y2b⟩, ⟨yu⟩⟩
 case rest =>
  clear HC2
  try clear p2
  try clear c4
  try clear c4b0
  try clear c6
  try clear hcz5_0
  try clear hcz5_1
  try clear hcz5_2
  try clear hcz5_3
  try clear hcz5_4
  try clear hcz6_0
  try clear hcz6_1
  try clear hcz6_2
  try clear hcz6_3
  try clear hcz6_4
  try clear hfz5_0
  try clear hfz5_1
  try clear hfz5_2
  try clear hfz5_3
  try clear hfz5_4
  try clear hfz6_0
  try clear hfz6_1
  try clear hfz6_2
  try clear hfz6_3
  try clear hfz6_4
  obtain ⟨kq, x10_1, rfl, HA, HJ1, BK454, HB⟩ := hcut
  cases kq with
  | zero => exact absurd HA.out (by simp [z1j.j0])
  | succ kj1 =>
   have H := HA.out
   clear HA
   simp only [z1j.j0] at H
   by_cases c7 : x10_1 = true
   ·subst c7
    have H1 : (some false) = some r := by rw [if_pos rfl] at H; exact H
    clear H
    have H := H1
    clear H1
    obtain rfl := Option.some.inj H
    go_wp2
    go_ret
    exact ⟨by first | rfl | (simp [zm, zl] <;> rfl) | (simp [*, zm, zl] <;> rfl), yu⟩
   ·replace c7 := Bool.eq_false_iff.mpr c7
    subst c7
    have H1 : (if a0_0 = 1 then (if a0_2.toList = ([] : List UInt8) then ((spec_l06Id.f kj1 a0_3).bind fun t455 => (if t455 = true then ((z10.f kj1 a0_3 l0_4).bind fun t456 => (some t456)) else (some false))) else (some false)) else (if a0_0 = 2 then ((spec_l06Id.f kj1 a0_2).bind fun t457 => (if t457 = true then ((spec_l14EmptyDoc.f a0_3 l0_4).bind fun t458 => (some t458)) else (some false))) else (some false))) = some r := by rw [if_neg (show ¬ (false = true) by decide)] at H; exact H
    clear H
    have H := H1
    clear H1
    by_cases c8 : a0_0 = 1
    ·rw [if_pos c8] at H
     have c8b0 : (a0_0 == 1) = true := beq_iff_eq.mpr c8
     have c8b1 : (a0_0 != 1) = false := bne_eq_false_iff_eq.mpr c8
     clear c8
     by_cases c9 : a0_2.toList = ([] : List UInt8)
     ·rw [if_pos c9] at H
      have c9b0 : (a0_2.toList == ([] : List UInt8)) = true := beq_iff_eq.mpr c9
      have c9b1 : (a0_2.toList != ([] : List UInt8)) = false := bne_eq_false_iff_eq.mpr c9
      clear c9
      replace H := ue.mp H
      obtain ⟨t455, A100, H⟩ := H
      replace H : (if t455 = true then ((z10.f kj1 a0_3 l0_4).bind fun t456 => (some t456)) else (some false)) = some r := H
      have A10 := z1o.mk A100
      clear A100
      by_cases c11 : t455 = true
      ·subst c11
       have H1 : ((z10.f kj1 a0_3 l0_4).bind fun t456 => (some t456)) = some r := by rw [if_pos rfl] at H; exact H
       clear H
       have H := H1
       clear H1
       replace H := ue.mp H
       obtain ⟨t456, A120, H⟩ := H
       replace H : (some t456) = some r := H
       have A12 := z1o.mk A120
       clear A120
       obtain rfl := Option.some.inj H
       obtain ⟨hcz13_0, hcz13_1, hcz13_2, hcz13_3, hcz13_4⟩ := cbk5 BK454.out
       obtain ⟨hfz13_0, hfz13_1, hfz13_2, hfz13_3, hfz13_4⟩ := cbf5 BK454.out
       go_wp2_with (first | (go_at_call 102; (with_reducible refine (spec_l06Id.calls kj1 a0_3 true _ A10.out).mono ?_); rintro e w' ⟨rfl, ⟨nd, rfl⟩⟩) | (go_at_call 49; (with_reducible refine (z10.calls kj1 a0_3 _ _ l0_4 t456 _ ?side1 ?side2 A12.out).mono ?_); (case side1 => repeat (first | exact (Kd.C_below HR0_4.out yu) | (with_reducible refine Kd.C_alloc ?_ _) | (with_reducible refine Kd.C_drewN ?_ _) | (with_reducible refine Kd.C_drew ?_))); (case side2 => exact HC0_4.out); rintro e w14 ⟨rfl, hb⟩; have n0_ := z1o.mk (zb (g := gb454) (o := .cells #[.int .i64 a0_0, .int .i64 a0_1, .string a0_2, .string a0_3, .slice A0_4 l0_4.length c0_4] 47 (0, 0)) y2b hb); have n1_ := z1o.mk (za yu hb); clear BK454; clear HB; have BK454 := n0_; have HB := n1_; clear n0_ n1_; (try clear hb); (try clear hb2); (try clear hk); (try clear hi)))
       go_ret
       exact ⟨by first | rfl | (simp [zm, zl] <;> rfl) | (simp [*, zm, zl] <;> rfl), yu⟩
      ·replace c11 := Bool.eq_false_iff.mpr c11
       subst c11
       have H1 : (some false) = some r := by rw [if_neg (show ¬ (false = true) by decide)] at H; exact H
       clear H
       have H := H1
       clear H1
       obtain rfl := Option.some.inj H
       obtain ⟨hcz15_0, hcz15_1, hcz15_2, hcz15_3, hcz15_4⟩ := cbk5 BK454.out
       obtain ⟨hfz15_0, hfz15_1, hfz15_2, hfz15_3, hfz15_4⟩ := cbf5 BK454.out
       go_wp2_with (first | (go_at_call 102; (with_reducible refine (spec_l06Id.calls kj1 a0_3 false _ A10.out).mono ?_); rintro e w' ⟨rfl, ⟨nd, rfl⟩⟩))
       go_ret
       exact ⟨by first | rfl | (simp [zm, zl] <;> rfl) | (simp [*, zm, zl] <;> rfl), yu⟩
     ·rw [if_neg c9] at H
      have c9b0 : (a0_2.toList == ([] : List UInt8)) = false := beq_eq_false_iff_ne.mpr c9
      have c9b1 : (a0_2.toList != ([] : List UInt8)) = true := bne_iff_ne.mpr c9
      obtain rfl := Option.some.inj H
      obtain ⟨hcz16_0, hcz16_1, hcz16_2, hcz16_3, hcz16_4⟩ := cbk5 BK454.out
      obtain ⟨hfz16_0, hfz16_1, hfz16_2, hfz16_3, hfz16_4⟩ := cbf5 BK454.out
      go_wp2
      go_ret
      exact ⟨by first | rfl | (simp [zm, zl] <;> rfl) | (simp [*, zm, zl] <;> rfl), yu⟩
    ·rw [if_neg c8] at H
     have c8b0 : (a0_0 == 1) = false := beq_eq_false_iff_ne.mpr c8
     have c8b1 : (a0_0 != 1) = true := bne_iff_ne.mpr c8
     by_cases c17 : a0_0 = 2
     ·rw [if_pos c17] at H
      have c17b0 : (a0_0 == 2) = true := beq_iff_eq.mpr c17
      have c17b1 : (a0_0 != 2) = false := bne_eq_false_iff_eq.mpr c17
      clear c17
      replace H := ue.mp H
      obtain ⟨t457, A180, H⟩ := H
      replace H : (if t457 = true then ((spec_l14EmptyDoc.f a0_3 l0_4).bind fun t458 => (some t458)) else (some false)) = some r := H
      have A18 := z1o.mk A180
      clear A180
      by_cases c19 : t457 = true
      ·subst c19
       have H1 : ((spec_l14EmptyDoc.f a0_3 l0_4).bind fun t458 => (some t458)) = some r := by rw [if_pos rfl] at H; exact H
       clear H
       have H := H1
       clear H1
       replace H := ue.mp H
       obtain ⟨t458, A200, H⟩ := H
       replace H : (some t458) = some r := H
       have A20 := z1o.mk A200
       clear A200
       obtain rfl := Option.some.inj H
       obtain ⟨hcz21_0, hcz21_1, hcz21_2, hcz21_3, hcz21_4⟩ := cbk5 BK454.out
       obtain ⟨hfz21_0, hfz21_1, hfz21_2, hfz21_3, hfz21_4⟩ := cbf5 BK454.out
       go_wp2_with (first | (go_at_call 102; (with_reducible refine (spec_l06Id.calls kj1 a0_2 true _ A18.out).mono ?_); rintro e w' ⟨rfl, ⟨nd, rfl⟩⟩) | (go_at_call 103; (with_reducible refine (spec_l14EmptyDoc.calls a0_3 _ _ l0_4 t458 _ ?side1 ?side2 A20.out).mono ?_); (case side1 => repeat (first | exact (Kd.C_below HR0_4.out yu) | (with_reducible refine Kd.C_alloc ?_ _) | (with_reducible refine Kd.C_drewN ?_ _) | (with_reducible refine Kd.C_drew ?_))); (case side2 => exact HC0_4.out); rintro e w22 ⟨rfl, hb⟩; have n0_ := z1o.mk (zb (g := gb454) (o := .cells #[.int .i64 a0_0, .int .i64 a0_1, .string a0_2, .string a0_3, .slice A0_4 l0_4.length c0_4] 47 (0, 0)) y2b hb); have n1_ := z1o.mk (za yu hb); clear BK454; clear HB; have BK454 := n0_; have HB := n1_; clear n0_ n1_; (try clear hb); (try clear hb2); (try clear hk); (try clear hi)))
       go_ret
       exact ⟨by first | rfl | (simp [zm, zl] <;> rfl) | (simp [*, zm, zl] <;> rfl), yu⟩
      ·replace c19 := Bool.eq_false_iff.mpr c19
       subst c19
       have H1 : (some false) = some r := by rw [if_neg (show ¬ (false = true) by decide)] at H; exact H
       clear H
       have H := H1
       clear H1
       obtain rfl := Option.some.inj H
       obtain ⟨hcz23_0, hcz23_1, hcz23_2, hcz23_3, hcz23_4⟩ := cbk5 BK454.out
       obtain ⟨hfz23_0, hfz23_1, hfz23_2, hfz23_3, hfz23_4⟩ := cbf5 BK454.out
       go_wp2_with (first | (go_at_call 102; (with_reducible refine (spec_l06Id.calls kj1 a0_2 false _ A18.out).mono ?_); rintro e w' ⟨rfl, ⟨nd, rfl⟩⟩))
       go_ret
       exact ⟨by first | rfl | (simp [zm, zl] <;> rfl) | (simp [*, zm, zl] <;> rfl), yu⟩
     ·rw [if_neg c17] at H
      have c17b0 : (a0_0 == 2) = false := beq_eq_false_iff_ne.mpr c17
      have c17b1 : (a0_0 != 2) = true := bne_iff_ne.mpr c17
      obtain rfl := Option.some.inj H
      obtain ⟨hcz24_0, hcz24_1, hcz24_2, hcz24_3, hcz24_4⟩ := cbk5 BK454.out
      obtain ⟨hfz24_0, hfz24_1, hfz24_2, hfz24_3, hfz24_4⟩ := cbf5 BK454.out
      go_wp2
      go_ret
      exact ⟨by first | rfl | (simp [zm, zl] <;> rfl) | (simp [*, zm, zl] <;> rfl), yu⟩
def spec_l04Four.f (a0 : Int) : Option (List Int) := some (([(wrap64 (Int.tdiv a0 16777216)) % 256, (Int.tmod (wrap64 (Int.tdiv a0 65536)) 256) % 256, (Int.tmod (wrap64 (Int.tdiv a0 256)) 256) % 256, (Int.tmod a0 256) % 256] : List Int))
set_option maxHeartbeats 8000000 in
set_option maxRecDepth 100000 in
theorem spec_l04Four.calls (a0 : Int) (r : List Int) (w : World) (h : spec_l04Four.f a0 = some r) :
  Calls Try.prog 104 #[.int .i64 a0] w fun e w' => ∃ v0_ : Value, e = .returned (v0_) ∧ Kd.R (Kd.int .u8) 5 w' w.heap.size (fun _ => True) v0_ r ∧ Below w.heap.size w w' := by
 have HB := z1o.mk (Below.refl w.heap.size w)
 have H : (some (([(wrap64 (Int.tdiv a0 16777216)) % 256, (Int.tmod (wrap64 (Int.tdiv a0 65536)) 256) % 256, (Int.tmod (wrap64 (Int.tdiv a0 256)) 256) % 256, (Int.tmod a0 256) % 256] : List Int))) = some r := h
 clear h
 obtain ⟨y459, hy459⟩ : ∃ y_ : List Int, y_ = (([(wrap64 (Int.tdiv a0 16777216)) % 256, (Int.tmod (wrap64 (Int.tdiv a0 65536)) 256) % 256, (Int.tmod (wrap64 (Int.tdiv a0 256)) 256) % 256, (Int.tmod a0 256) % 256] : List Int)) := ⟨_, rfl⟩
 replace H : (some y459) = some r := by first | (rw [hy459]; with_reducible exact H) | (have H2_ := (uk _ _).symm.trans H; rw [hy459]; with_reducible exact H2_) | (have H2_ := (uk _ _).symm.trans H; with_reducible exact H2_) | with_reducible exact H | (rw [hy459]; exact H) | exact H
 have Ny459 := z1o.mk hy459
 clear hy459
 obtain rfl := Option.some.inj H
 go_enter Try.func104, Try.ntmps104
 go_wp2_with (first | ((with_reducible refine zq (N := 17) rfl ?_); refine Kd.R_lit (Kd.int .u8) _ 5 ?hg (N := 17) ?hd (xs := ([(wrap64 (Int.tdiv a0 16777216)) % 256, (Int.tmod (wrap64 (Int.tdiv a0 65536)) 256) % 256, (Int.tmod (wrap64 (Int.tdiv a0 256)) 256) % 256, (Int.tmod a0 256) % 256] : List Int)) (inner := [.int .u8 ((wrap64 (Int.tdiv a0 16777216)) % 256), .int .u8 ((Int.tmod (wrap64 (Int.tdiv a0 65536)) 256) % 256), .int .u8 ((Int.tmod (wrap64 (Int.tdiv a0 256)) 256) % 256), .int .u8 ((Int.tmod a0 256) % 256)]) (ok := fun _ => True) (okp := fun _ => True) ?hr ?hp (fun _ hk => hk) trivial (Below.refl _ _) (um _) (by simp) ?_; (case hd => rfl); (case hg => rfl); (case hr => first | (go_simp; done) | (go_simp; rfl)); (case hp => exact (Reps.one (show Kd.M (Kd.int .u8) _ _ _ ((wrap64 (Int.tdiv a0 16777216)) % 256) [.int .u8 ((wrap64 (Int.tdiv a0 16777216)) % 256)] from rfl) (Reps.one (show Kd.M (Kd.int .u8) _ _ _ ((Int.tmod (wrap64 (Int.tdiv a0 65536)) 256) % 256) [.int .u8 ((Int.tmod (wrap64 (Int.tdiv a0 65536)) 256) % 256)] from rfl) (Reps.one (show Kd.M (Kd.int .u8) _ _ _ ((Int.tmod (wrap64 (Int.tdiv a0 256)) 256) % 256) [.int .u8 ((Int.tmod (wrap64 (Int.tdiv a0 256)) 256) % 256)] from rfl) (Reps.one (show Kd.M (Kd.int .u8) _ _ _ ((Int.tmod a0 256) % 256) [.int .u8 ((Int.tmod a0 256) % 256)] from rfl) (Reps.none _ _)))))); intro v460 w2 ho3 hb hg_ hnew_; clear hg_ hnew_; (first | rw [← Ny459.out] at ho3 | (simp only [Int.reduceToNat] at ho3; rw [← Ny459.out] at ho3)); have n0_ := z1o.mk (Kd.R_lower ho3 (zc y0)); have n1_ := z1o.mk (za y0 hb); clear HB; have HO461 := n0_; have HB := n1_; clear n0_ n1_; clear hb ho3))
 go_ret
 exact ⟨_, by first | rfl | (simp [zm, zl] <;> rfl) | (simp [*, zm, zl] <;> rfl), by (with_reducible repeat (first | apply Kd.R_alloc | apply Kd.R_drewN | apply Kd.R_drew)); exact HO461.out, y0⟩
def spec_Sum32.l0 : Nat → List Int → Int → Int → Option (Int)
 | 0, _, _, _ => none
 | k + 1, x0, x3, x4 => if x4 < (x0.length : Int) then (if 0 ≤ x4 then (spec_Sum32.l0 k x0 (Int.tmod (wrap64 ((Go.bits .xor .i64 x3 (wrap64 (rd x0 x4))) * 16777619)) 4294967296) (wrap64 (x4 + 1))) else (none)) else (some x3)
def spec_Sum32.f (k : Nat) (l0 : List Int) : Option (Int) := if (l0.length : Int) > 1048576 then (some 0) else (spec_Sum32.l0 k l0 2166136261 0)
set_option maxHeartbeats 8000000 in
set_option maxRecDepth 100000 in
theorem spec_Sum32.calls (k : Nat) (A0 : Option Addr) (c0 : Nat) (l0 : List Int) (r : Int) (w : World) (hr0 : Kd.C (Kd.int .u8) w A0 l0.length l0) (hc0 : l0.length ≤ c0) (h : spec_Sum32.f k l0 = some r) :
  Calls Try.prog 105 #[.slice A0 l0.length c0] w fun e w' => e = .returned (.int .i64 r) ∧ Drawn0 w w' := by
 have HR0 := z1o.mk hr0
 have HC0 := z1o.mk hc0
 clear hr0 hc0
 have H : (if (l0.length : Int) > 1048576 then (some 0) else (spec_Sum32.l0 k l0 2166136261 0)) = some r := h
 clear h
 by_cases c2 : (l0.length : Int) > 1048576
 ·rw [if_pos c2] at H
  have c2b0 : decide (1048576 < (l0.length : Int)) = true := decide_eq_true c2
  have c2b1 : decide (1048576 < l0.length) = true := decide_eq_true (by omega)
  clear c2
  obtain rfl := Option.some.inj H
  go_enter Try.func105, Try.ntmps105
  go_wp2
  go_ret
  exact ⟨by first | rfl | (simp; done) | (simp [*]; done), yb⟩
 ·rw [if_neg c2] at H
  have c2b0 : decide (1048576 < (l0.length : Int)) = false := decide_eq_false c2
  have c2b1 : decide (1048576 < l0.length) = false := decide_eq_false (by omega)
  clear c2
  have H' := z1o.mk H
  clear H
  go_enter Try.func105, Try.ntmps105
  go_wp2
  go_loopg [3, 4] k (fun kq v3 v4 w' => ∃ (x3_1 : Int) (x4_1 : Int), v3 = .int .i64 x3_1 ∧ v4 = .int .i64 x4_1 ∧ z1o (spec_Sum32.l0 kq l0 x3_1 x4_1 = some r) ∧ z1o (kq ≤ k) ∧ Drawn0 w w')
  case atStart => exact ⟨(2166136261), (0), (by first | rfl | (simp; done) | (simp [*]; done)), (by first | rfl | (simp; done) | (simp [*]; done)), H', ⟨um _⟩, yb⟩
  case round =>
   clear H'
   try clear c1
   try clear c2
   try clear c2b0
   try clear c2b1
   try clear p2
   obtain ⟨x3_1, x4_1, rfl, rfl, HA, HK1, ⟨m1, rfl⟩⟩ := hrel
   cases gk with
   | zero => exact absurd HA.out (by simp [spec_Sum32.l0])
   | succ k1 =>
    have H := HA.out
    clear HA
    simp only [spec_Sum32.l0] at H
    by_cases c3 : x4_1 < (l0.length : Int)
    ·rw [if_pos c3] at H
     have c3b0 : decide (x4_1 < (l0.length : Int)) = true := decide_eq_true c3
     clear c3
     by_cases c4 : 0 ≤ x4_1
     ·rw [if_pos c4] at H
      have c4b0 : decide (0 ≤ x4_1) = true := decide_eq_true c4
      clear c4
      have H' := z1o.mk H
      clear H
      have p462 : 0 ≤ (x4_1 : Int) := of_decide_eq_true (by first | (with_reducible assumption) | assumption)
      have q462 : x4_1 < (l0.length : Int) := of_decide_eq_true (by first | (with_reducible assumption) | assumption)
      obtain ⟨ad462, e462, hx462_0⟩ := Kd.at_int HR0.out x4_1 p462 q462
      cases e462
      replace p462 := eq_true p462
      replace q462 := eq_true q462
      go_wp2
      go_roundg k1
      case measure => have := HK1.out; omega
      case rel => exact ⟨(Int.tmod (wrap64 ((Go.bits .xor .i64 x3_1 (wrap64 (rd l0 x4_1))) * 16777619)) 4294967296), (wrap64 (x4_1 + 1)), (by first | rfl | (simp; done) | (simp [*]; done)), (by first | rfl | (simp; done) | (simp [*]; done)), H', ⟨by have := HK1.out; omega⟩, yb⟩
     ·rw [if_neg c4] at H
      exact absurd H (by simp)
    ·rw [if_neg c3] at H
     have c3b0 : decide (x4_1 < (l0.length : Int)) = false := decide_eq_false c3
     clear c3
     obtain rfl := Option.some.inj H
     go_wp2
     go_ret
     exact ⟨by first | rfl | (simp; done) | (simp [*]; done), yb⟩
def z1k.f (k : Nat) (a0_0 : Int) (a0_1 : Int) (a0_2 : ByteArray) (a0_3 : ByteArray) (l0_4 : List (S84)) : Option (List Int) := (some (([(a0_0) % 256] : List Int) : List Int)).bind fun y464 => ((z16.f k a0_1).bind fun t467 => (if y464.length + t467.length < 140737488355328 then ((some (y464 ++ t467 : List Int)).bind fun y470 => (if a0_0 = 1 then ((z11.f k a0_3 l0_4).bind fun t473 => (if y470.length + t473.length < 140737488355328 then ((some (y470 ++ t473 : List Int)).bind fun y476 => ((z16.f k (y476.length : Int)).bind fun t479 => (if t479.length + y476.length < 140737488355328 then ((some (t479 ++ y476 : List Int)).bind fun y482 => ((spec_Sum32.f k y476).bind fun t485 => ((spec_l04Four.f t485).bind fun t486 => (if y482.length + t486.length < 140737488355328 then (some (y482 ++ t486)) else (none))))) else (none)))) else (none))) else (if y470.length + a0_2.size < 140737488355328 then ((some (y470 ++ bytesOf a0_2 : List Int)).bind fun y492 => ((z16.f k (y492.length : Int)).bind fun t495 => (if t495.length + y492.length < 140737488355328 then ((some (t495 ++ y492 : List Int)).bind fun y498 => ((spec_Sum32.f k y492).bind fun t501 => ((spec_l04Four.f t501).bind fun t502 => (if y498.length + t502.length < 140737488355328 then (some (y498 ++ t502)) else (none))))) else (none)))) else (none)))) else (none)))
def z1k.T1 : Bool × List (List Nat × List Nat) := (true, [([], []), ([0], [0]), ([1], [1]), ([2], [2]), ([], []), ([4], [4]), ([5], [5]), ([3, 6, 6], [3, 6]), ([7, 7, 0, 1, 2, 3, 4, 5, 6, 7], [7])])
def z1k.B1 : List Nat := [0, 1, 3, 7, 0, 16, 48, 127, 255]
theorem z1k.tab1 : rtab .any (opsOf Try.f61 1) = z1k.T1 := by kernel_rfl
theorem z1k.bits1 : waitsOk z1k.T1.2 z1k.B1 = true := by kernel_rfl
set_option maxHeartbeats 8000000 in
set_option maxRecDepth 100000 in
theorem z1k.calls (k : Nat) (a0_0 : Int) (a0_1 : Int) (a0_2 : ByteArray) (a0_3 : ByteArray) (A0_4 : Option Addr) (c0_4 : Nat) (l0_4 : List (S84)) (r : List Int) (w : World) (hr0_4 : Kd.C k84 w A0_4 l0_4.length l0_4) (hc0_4 : l0_4.length ≤ c0_4) (h : z1k.f k a0_0 a0_1 a0_2 a0_3 l0_4 = some r) :
  Calls Try.prog 61 #[.agg #[.int .i64 a0_0, .int .i64 a0_1, .string a0_2, .string a0_3, .slice A0_4 l0_4.length c0_4]] w fun e w' => ∃ v0_ : Value, e = .returned (v0_) ∧ Kd.R (Kd.int .u8) 5 w' w.heap.size (fun _ => True) v0_ r ∧ Below w.heap.size w w' := by
 have hu47 := Try.underlying47
 have hu31 := Try.underlying31
 have HR0_4 := z1o.mk hr0_4
 have HC0_4 := z1o.mk hc0_4
 clear hr0_4 hc0_4
 have HB := z1o.mk (Below.refl w.heap.size w)
 have H : ((some (([(a0_0) % 256] : List Int) : List Int)).bind fun y464 => ((z16.f k a0_1).bind fun t467 => (if y464.length + t467.length < 140737488355328 then ((some (y464 ++ t467 : List Int)).bind fun y470 => (if a0_0 = 1 then ((z11.f k a0_3 l0_4).bind fun t473 => (if y470.length + t473.length < 140737488355328 then ((some (y470 ++ t473 : List Int)).bind fun y476 => ((z16.f k (y476.length : Int)).bind fun t479 => (if t479.length + y476.length < 140737488355328 then ((some (t479 ++ y476 : List Int)).bind fun y482 => ((spec_Sum32.f k y476).bind fun t485 => ((spec_l04Four.f t485).bind fun t486 => (if y482.length + t486.length < 140737488355328 then (some (y482 ++ t486)) else (none))))) else (none)))) else (none))) else (if y470.length + a0_2.size < 140737488355328 then ((some (y470 ++ bytesOf a0_2 : List Int)).bind fun y492 => ((z16.f k (y492.length : Int)).bind fun t495 => (if t495.length + y492.length < 140737488355328 then ((some (t495 ++ y492 : List Int)).bind fun y498 => ((spec_Sum32.f k y492).bind fun t501 => ((spec_l04Four.f t501).bind fun t502 => (if y498.length + t502.length < 140737488355328 then (some (y498 ++ t502)) else (none))))) else (none)))) else (none)))) else (none)))) = some r := h
 clear h
 obtain ⟨y464, hy464⟩ : ∃ y_ : List Int, y_ = (([(a0_0) % 256] : List Int)) := ⟨_, rfl⟩
 replace H : ((z16.f k a0_1).bind fun t467 => (if y464.length + t467.length < 140737488355328 then ((some (y464 ++ t467 : List Int)).bind fun y470 => (if a0_0 = 1 then ((z11.f k a0_3 l0_4).bind fun t473 => (if y470.length + t473.length < 140737488355328 then ((some (y470 ++ t473 : List Int)).bind fun y476 => ((z16.f k (y476.length : Int)).bind fun t479 => (if t479.length + y476.length < 140737488355328 then ((some (t479 ++ y476 : List Int)).bind fun y482 => ((spec_Sum32.f k y476).bind fun t485 => ((spec_l04Four.f t485).bind fun t486 => (if y482.length + t486.length < 140737488355328 then (some (y482 ++ t486)) else (none))))) else (none)))) else (none))) else (if y470.length + a0_2.size < 140737488355328 then ((some (y470 ++ bytesOf a0_2 : List Int)).bind fun y492 => ((z16.f k (y492.length : Int)).bind fun t495 => (if t495.length + y492.length < 140737488355328 then ((some (t495 ++ y492 : List Int)).bind fun y498 => ((spec_Sum32.f k y492).bind fun t501 => ((spec_l04Four.f t501).bind fun t502 => (if y498.length + t502.length < 140737488355328 then (some (y498 ++ t502)) else (none))))) else (none)))) else (none)))) else (none))) = some r := by first | (rw [hy464]; with_reducible exact H) | (have H2_ := (uk _ _).symm.trans H; rw [hy464]; with_reducible exact H2_) | (have H2_ := (uk _ _).symm.trans H; with_reducible exact H2_) | with_reducible exact H | (rw [hy464]; exact H) | exact H
 have Ny464 := z1o.mk hy464
 clear hy464
 replace H := ue.mp H
 obtain ⟨t467, A20, H⟩ := H
 replace H : (if y464.length + t467.length < 140737488355328 then ((some (y464 ++ t467 : List Int)).bind fun y470 => (if a0_0 = 1 then ((z11.f k a0_3 l0_4).bind fun t473 => (if y470.length + t473.length < 140737488355328 then ((some (y470 ++ t473 : List Int)).bind fun y476 => ((z16.f k (y476.length : Int)).bind fun t479 => (if t479.length + y476.length < 140737488355328 then ((some (t479 ++ y476 : List Int)).bind fun y482 => ((spec_Sum32.f k y476).bind fun t485 => ((spec_l04Four.f t485).bind fun t486 => (if y482.length + t486.length < 140737488355328 then (some (y482 ++ t486)) else (none))))) else (none)))) else (none))) else (if y470.length + a0_2.size < 140737488355328 then ((some (y470 ++ bytesOf a0_2 : List Int)).bind fun y492 => ((z16.f k (y492.length : Int)).bind fun t495 => (if t495.length + y492.length < 140737488355328 then ((some (t495 ++ y492 : List Int)).bind fun y498 => ((spec_Sum32.f k y492).bind fun t501 => ((spec_l04Four.f t501).bind fun t502 => (if y498.length + t502.length < 140737488355328 then (some (y498 ++ t502)) else (none))))) else (none)))) else (none)))) else (none)) = some r := H
 have A2 := z1o.mk A20
 clear A20
 by_cases c3 : y464.length + t467.length < 140737488355328
 ·rw [if_pos c3] at H
  have LMc3 := z1o.mk c3
  clear c3
  obtain ⟨y470, hy470⟩ : ∃ y_ : List Int, y_ = (y464 ++ t467) := ⟨_, rfl⟩
  replace H : (if a0_0 = 1 then ((z11.f k a0_3 l0_4).bind fun t473 => (if y470.length + t473.length < 140737488355328 then ((some (y470 ++ t473 : List Int)).bind fun y476 => ((z16.f k (y476.length : Int)).bind fun t479 => (if t479.length + y476.length < 140737488355328 then ((some (t479 ++ y476 : List Int)).bind fun y482 => ((spec_Sum32.f k y476).bind fun t485 => ((spec_l04Four.f t485).bind fun t486 => (if y482.length + t486.length < 140737488355328 then (some (y482 ++ t486)) else (none))))) else (none)))) else (none))) else (if y470.length + a0_2.size < 140737488355328 then ((some (y470 ++ bytesOf a0_2 : List Int)).bind fun y492 => ((z16.f k (y492.length : Int)).bind fun t495 => (if t495.length + y492.length < 140737488355328 then ((some (t495 ++ y492 : List Int)).bind fun y498 => ((spec_Sum32.f k y492).bind fun t501 => ((spec_l04Four.f t501).bind fun t502 => (if y498.length + t502.length < 140737488355328 then (some (y498 ++ t502)) else (none))))) else (none)))) else (none))) = some r := by first | (rw [hy470]; with_reducible exact H) | (have H2_ := (uk _ _).symm.trans H; rw [hy470]; with_reducible exact H2_) | (have H2_ := (uk _ _).symm.trans H; with_reducible exact H2_) | with_reducible exact H | (rw [hy470]; exact H) | exact H
  have Ny470 := z1o.mk hy470
  clear hy470
  by_cases c4 : a0_0 = 1
  ·rw [if_pos c4] at H
   have c4b0 : (a0_0 == 1) = true := beq_iff_eq.mpr c4
   have c4b1 : (a0_0 != 1) = false := bne_eq_false_iff_eq.mpr c4
   clear c4
   replace H := ue.mp H
   obtain ⟨t473, A50, H⟩ := H
   replace H : (if y470.length + t473.length < 140737488355328 then ((some (y470 ++ t473 : List Int)).bind fun y476 => ((z16.f k (y476.length : Int)).bind fun t479 => (if t479.length + y476.length < 140737488355328 then ((some (t479 ++ y476 : List Int)).bind fun y482 => ((spec_Sum32.f k y476).bind fun t485 => ((spec_l04Four.f t485).bind fun t486 => (if y482.length + t486.length < 140737488355328 then (some (y482 ++ t486)) else (none))))) else (none)))) else (none)) = some r := H
   have A5 := z1o.mk A50
   clear A50
   by_cases c6 : y470.length + t473.length < 140737488355328
   ·rw [if_pos c6] at H
    have LMc6 := z1o.mk c6
    clear c6
    obtain ⟨y476, hy476⟩ : ∃ y_ : List Int, y_ = (y470 ++ t473) := ⟨_, rfl⟩
    replace H : ((z16.f k (y476.length : Int)).bind fun t479 => (if t479.length + y476.length < 140737488355328 then ((some (t479 ++ y476 : List Int)).bind fun y482 => ((spec_Sum32.f k y476).bind fun t485 => ((spec_l04Four.f t485).bind fun t486 => (if y482.length + t486.length < 140737488355328 then (some (y482 ++ t486)) else (none))))) else (none))) = some r := by first | (rw [hy476]; with_reducible exact H) | (have H2_ := (uk _ _).symm.trans H; rw [hy476]; with_reducible exact H2_) | (have H2_ := (uk _ _).symm.trans H; with_reducible exact H2_) | with_reducible exact H | (rw [hy476]; exact H) | exact H
    have Ny476 := z1o.mk hy476
    clear hy476
    replace H := ue.mp H
    obtain ⟨t479, A70, H⟩ := H
    replace H : (if t479.length + y476.length < 140737488355328 then ((some (t479 ++ y476 : List Int)).bind fun y482 => ((spec_Sum32.f k y476).bind fun t485 => ((spec_l04Four.f t485).bind fun t486 => (if y482.length + t486.length < 140737488355328 then (some (y482 ++ t486)) else (none))))) else (none)) = some r := H
    have A7 := z1o.mk A70
    clear A70
    by_cases c8 : t479.length + y476.length < 140737488355328
    ·rw [if_pos c8] at H
     have LMc8 := z1o.mk c8
     clear c8
     obtain ⟨y482, hy482⟩ : ∃ y_ : List Int, y_ = (t479 ++ y476) := ⟨_, rfl⟩
     replace H : ((spec_Sum32.f k y476).bind fun t485 => ((spec_l04Four.f t485).bind fun t486 => (if y482.length + t486.length < 140737488355328 then (some (y482 ++ t486)) else (none)))) = some r := by first | (rw [hy482]; with_reducible exact H) | (have H2_ := (uk _ _).symm.trans H; rw [hy482]; with_reducible exact H2_) | (have H2_ := (uk _ _).symm.trans H; with_reducible exact H2_) | with_reducible exact H | (rw [hy482]; exact H) | exact H
     have Ny482 := z1o.mk hy482
     clear hy482
     replace H := ue.mp H
     obtain ⟨t485, A90, H⟩ := H
     replace H : ((spec_l04Four.f t485).bind fun t486 => (if y482.length + t486.length < 140737488355328 then (some (y482 ++ t486)) else (none))) = some r := H
     have A9 := z1o.mk A90
     clear A90
     replace H := ue.mp H
     obtain ⟨t486, A100, H⟩ := H
     replace H : (if y482.length + t486.length < 140737488355328 then (some (y482 ++ t486)) else (none)) = some r := H
     have A10 := z1o.mk A100
     clear A100
     by_cases c11 : y482.length + t486.length < 140737488355328
     ·rw [if_pos c11] at H
      have LMc11 := z1o.mk c11
      clear c11
      obtain ⟨y489, hy489⟩ : ∃ y_ : List Int, y_ = (y482 ++ t486) := ⟨_, rfl⟩
      replace H : (some y489) = some r := by first | (rw [hy489]; with_reducible exact H) | (have H2_ := (uk _ _).symm.trans H; rw [hy489]; with_reducible exact H2_) | (have H2_ := (uk _ _).symm.trans H; with_reducible exact H2_) | with_reducible exact H | (rw [hy489]; exact H) | exact H
      have Ny489 := z1o.mk hy489
      clear hy489
      obtain rfl := Option.some.inj H
      go_enter Try.func61, Try.ntmps61
      try go_wp2_with (first | ((with_reducible refine zq (N := 1) rfl ?_); refine zv ?hg (N := 1) ?hd (cs := #[.int .i64 a0_0, .int .i64 a0_1, .string a0_2, .string a0_3, .slice A0_4 l0_4.length c0_4]) (t := 47) ?hr ?_; (case hd => rfl); (case hg => rfl); (case hr => first | (go_simp; done) | (go_simp; rfl)); intro gb463 hg w12 hbox hb; have n0_ := z1o.mk (za y0 hb); have n1_ := z1o.mk (hbox); have n2_ := z1o.mk ((by rw [hg]; exact (zc y0) : w.heap.size ≤ gb463)); have n3_ := z1o.mk ((by rw [hg]; exact (zc y0) : w.heap.size ≤ gb463)); clear HB; have HB := n0_; have BK463 := n1_; have GW463 := n2_; have GE463 := n3_; clear n0_ n1_ n2_ n3_; clear hb hbox hg))
      have n0_ := z1o.mk (z9 BK463.out)
      have n1_ := z1o.mk (z3 HB.out)
      clear BK463
      clear HB
      have BK463 := n0_
      have HB := n1_
      clear n0_ n1_
      refine start_ (n := 9) (S := fun w' => w'.cell? ⟨gb463, 0, none⟩ = some (.int .i64 a0_0) ∧ w'.cell? ⟨gb463, 1, none⟩ = some (.int .i64 a0_1) ∧ w'.cell? ⟨gb463, 2, none⟩ = some (.string a0_2) ∧ w'.cell? ⟨gb463, 3, none⟩ = some (.string a0_3) ∧ w'.cell? ⟨gb463, 4, none⟩ = some (.slice A0_4 l0_4.length c0_4)) (ds := []) #[false, false, false, false, false, false, false, false, false] (by kernel_rfl) rfl rfl ⟨(z6 BK463.out 0).trans rfl, (z6 BK463.out 1).trans rfl, (z6 BK463.out 2).trans rfl, (z6 BK463.out 3).trans rfl, (z6 BK463.out 4).trans rfl⟩ (fun hHeld => ?_); refine with_tabW z1k.tab1 z1k.bits1 (fun HT_ HW_ => ?_)
      generalize w12.drew = w13 at BK463 HB hHeld ⊢
      refine pure_ (i := 0) (N := some 4) (v := ?_) (a' := ?_) #[true, false, false, false, false, false, false, false, false] rfl rfl (any_of HT_.out (by kernel_rfl)) (fun _ _ _ h => h) (Or.inl ⟨by rfl, ?_⟩) ?_ ?_
      rotate_left
      ·intro w'
       go_simp
       with_reducible rfl
      rotate_left
      ·simp only [Act.put, ub, uc, ud, zn, zo]
       rfl
      refine pure_ (i := 4) (N := some 8) (v := ?_) (a' := ?_) #[true, false, false, false, true, false, false, false, false] rfl rfl (any_of HT_.out (by kernel_rfl)) (fun _ _ _ h => h) (Or.inl ⟨by rfl, ?_⟩) ?_ ?_
      rotate_left
      ·intro w'
       go_simp
       with_reducible rfl
      rotate_left
      ·simp only [Act.put, ub, uc, ud, zn, zo]
       rfl
      refine take_ (i := 1) (N := some 5) (v := ?_) (a' := ?_) #[true, true, false, false, true, false, false, false, false] rfl rfl (take_ofW HT_.out HW_.out (by kernel_rfl)) (fun _ _ _ h => h) (Or.inl ⟨by rfl, ?_⟩) hHeld ?_ ?_
      rotate_left
      ·rintro w' ⟨s0, s1, s2, s3, s4⟩
       go_simp
       with_reducible rfl
      rotate_left
      ·simp only [Act.put, ub, uc, ud, zn, zo]
       rfl
      refine pure_ (i := 2) (N := some 6) (v := ?_) (a' := ?_) #[true, true, true, false, true, false, false, false, false] rfl rfl (any_of HT_.out (by kernel_rfl)) (fun _ _ _ h => h) (Or.inl ⟨by rfl, ?_⟩) ?_ ?_
      rotate_left
      ·intro w'
       go_simp
       with_reducible rfl
      rotate_left
      ·simp only [Act.put, ub, uc, ud, zn, zo]
       rfl
      refine take_ (i := 5) (N := some 9) (v := ?_) (a' := ?_) #[true, true, true, false, true, true, false, false, false] rfl rfl (take_ofW HT_.out HW_.out (by kernel_rfl)) (fun _ _ _ h => h) (Or.inl ⟨by rfl, ?_⟩) hHeld ?_ ?_
      rotate_left
      ·rintro w' ⟨s0, s1, s2, s3, s4⟩
       go_simp
       with_reducible rfl
      rotate_left
      ·simp only [Act.put, ub, uc, ud, zn, zo]
       rfl
      refine join_ (σ := Value × Value) 2 #[true, true, true, true, true, true, true, false, false] (fun s_ => [(7, s_.1), (10, s_.2)]) (fun s_ w' => (w'.cell? ⟨gb463, 0, none⟩ = some (.int .i64 a0_0) ∧ w'.cell? ⟨gb463, 1, none⟩ = some (.int .i64 a0_1) ∧ w'.cell? ⟨gb463, 2, none⟩ = some (.string a0_2) ∧ w'.cell? ⟨gb463, 3, none⟩ = some (.string a0_3) ∧ w'.cell? ⟨gb463, 4, none⟩ = some (.slice A0_4 l0_4.length c0_4)) ∧ (Kd.R (Kd.int .u8) 5 w' w.heap.size (fun k_ => some k_ ≠ (s_.2 : Value).ownBlock) s_.1 y464) ∧ (Kd.R (Kd.int .u8) 5 w' w.heap.size (fun k_ => some k_ ≠ (s_.1 : Value).ownBlock) s_.2 t467) ∧ (w'.heap[gb463]? = some (.cells #[.int .i64 a0_0, .int .i64 a0_1, .string a0_2, .string a0_3, .slice A0_4 l0_4.length c0_4] 47 (0, 0))) ∧ (Below w.heap.size w w')) ?_ ?_
      rotate_left
      ·intro hCont
       refine two_ (i := 3) (j := 6) (Ni := some 7) (Nj := some 10) #[true, true, true, true, true, true, false, false, false] #[true, true, true, false, true, true, true, false, false] rfl rfl rfl rfl (two_of HT_.out (by kernel_rfl)) (by decide) (by decide) (fun K hK => ?_) (fun K hK => ?_)
       ·skip
        refine Kd.R_lit_step (Kd.int .u8) _ 5 ?hg (N := 7) ?hd (xs := ([(a0_0) % 256] : List Int)) (inner := [.int .u8 ((a0_0) % 256)]) (ok := fun _ => True) (okp := fun _ => True) ?hr ?hp (fun _ hk => hk) trivial (Below.refl _ _) (um _) (by simp) ?_; (case hd => rfl); (case hg => rfl); (case hr => first | (go_simp; done) | (go_simp; rfl)); (case hp => exact (Reps.one (show Kd.M (Kd.int .u8) _ _ _ ((a0_0) % 256) [.int .u8 ((a0_0) % 256)] from rfl) (Reps.none _ _)))
        intro v465 w14 ho15 hb hg_ hnew_
        clear hg_ hnew_
        (first | rw [← Ny464.out] at ho15 | (simp only [Int.reduceToNat] at ho15; rw [← Ny464.out] at ho15))
        have n0_ := z1o.mk (Kd.R_lower ho15 (zc y3))
        have n1_ := z1o.mk (zb (g := gb463) (o := .cells #[.int .i64 a0_0, .int .i64 a0_1, .string a0_2, .string a0_3, .slice A0_4 l0_4.length c0_4] 47 (0, 0)) yf hb)
        have n2_ := z1o.mk (za y3 hb)
        clear BK463
        clear HB
        have HO466 := n0_
        have BK463 := n1_
        have HB := n2_
        clear n0_ n1_ n2_
        clear hb ho15
        refine hK.out _ _ ⟨(z6 BK463.out 0).trans rfl, (z6 BK463.out 1).trans rfl, (z6 BK463.out 2).trans rfl, (z6 BK463.out 3).trans rfl, (z6 BK463.out 4).trans rfl⟩ (fun hHeld => ?_)
        clear hK K
        refine norm_ (a' := ?_) ?_ ?_
        rotate_left
        ·show Act.put _ (some 7) _ = _
         simp only [Act.put, ub, uc, ud, zn, zo]
         rfl
        refine one_ (i := 6) (N := some 10) #[true, true, true, true, true, true, true, false, false] rfl rfl (one_of HT_.out (by kernel_rfl)) (by decide) (fun K hK => ?_)
        refine goes_ Try.func91 (by kernel_rfl) rfl #[.int .i64 a0_1] (by rfl) rfl rfl (by (try simp only [uh, ui, uj]); first | done | rfl | (simp only [uf, ug]; rfl)) ?_
        with_reducible refine (z16.calls k a0_1 t467 _ A2.out).mono ?_
        rintro e w16 ⟨v468, rfl, ho0, hb⟩
        refine ⟨_, rfl, ?_⟩
        have n0_ := z1o.mk (Kd.R_elder' y25 (Kd.R_base ho0) hb)
        have n1_ := z1o.mk (Kd.R_lower (Kd.R_new' ho0 (Kd.R_lt y25)) (zc y3))
        have n2_ := z1o.mk (zb (g := gb463) (o := .cells #[.int .i64 a0_0, .int .i64 a0_1, .string a0_2, .string a0_3, .slice A0_4 l0_4.length c0_4] 47 (0, 0)) yf hb)
        have n3_ := z1o.mk (za y3 hb)
        clear HO466
        clear BK463
        clear HB
        have HO466 := n0_
        have HO469 := n1_
        have BK463 := n2_
        have HB := n3_
        clear n0_ n1_ n2_ n3_
        (try clear hb)
        (try clear hb2)
        (try clear hk)
        (try clear hi)
        (try clear ho0)
        refine hK.out _ _ ⟨(z6 BK463.out 0).trans rfl, (z6 BK463.out 1).trans rfl, (z6 BK463.out 2).trans rfl, (z6 BK463.out 3).trans rfl, (z6 BK463.out 4).trans rfl⟩ (fun hHeld => ?_)
        clear hK K
        refine norm_ (a' := ?_) ?_ ?_
        rotate_left
        ·show Act.put _ (some 10) _ = _
         simp only [Act.put, ub, uc, ud, zn, zo]
         rfl
        exact norm_ (by simp only [putAll, Act.put, ub, uc, ud]) (hCont (v465, v468) _ ⟨hHeld, (by (with_reducible repeat (first | apply Kd.R_alloc | apply Kd.R_drewN | apply Kd.R_drew)); exact Kd.R_mono HO466.out (fun _ hk => hk.2)), (by (with_reducible repeat (first | apply Kd.R_alloc | apply Kd.R_drewN | apply Kd.R_drew)); exact Kd.R_mono HO469.out (fun _ hk => hk.2)), yf, y3⟩)
       ·skip
        refine goes_ Try.func91 (by kernel_rfl) rfl #[.int .i64 a0_1] (by rfl) rfl rfl (by (try simp only [uh, ui, uj]); first | done | rfl | (simp only [uf, ug]; rfl)) ?_
        with_reducible refine (z16.calls k a0_1 t467 _ A2.out).mono ?_
        rintro e w14 ⟨v468, rfl, ho0, hb⟩
        refine ⟨_, rfl, ?_⟩
        have n0_ := z1o.mk (Kd.R_lower ho0 (zc y3))
        have n1_ := z1o.mk (zb (g := gb463) (o := .cells #[.int .i64 a0_0, .int .i64 a0_1, .string a0_2, .string a0_3, .slice A0_4 l0_4.length c0_4] 47 (0, 0)) yf hb)
        have n2_ := z1o.mk (za y3 hb)
        clear BK463
        clear HB
        have HO469 := n0_
        have BK463 := n1_
        have HB := n2_
        clear n0_ n1_ n2_
        (try clear hb)
        (try clear hb2)
        (try clear hk)
        (try clear hi)
        (try clear ho0)
        refine hK.out _ _ ⟨(z6 BK463.out 0).trans rfl, (z6 BK463.out 1).trans rfl, (z6 BK463.out 2).trans rfl, (z6 BK463.out 3).trans rfl, (z6 BK463.out 4).trans rfl⟩ (fun hHeld => ?_)
        clear hK K
        refine norm_ (a' := ?_) ?_ ?_
        rotate_left
        ·show Act.put _ (some 10) _ = _
         simp only [Act.put, ub, uc, ud, zn, zo]
         rfl
        refine one_ (i := 3) (N := some 7) #[true, true, true, true, true, true, true, false, false] rfl rfl (one_of HT_.out (by kernel_rfl)) (by decide) (fun K hK => ?_)
        refine Kd.R_lit_step (Kd.int .u8) _ 5 ?hg (N := 7) ?hd (xs := ([(a0_0) % 256] : List Int)) (inner := [.int .u8 ((a0_0) % 256)]) (ok := fun _ => True) (okp := fun _ => True) ?hr ?hp (fun _ hk => hk) trivial (Below.refl _ _) (um _) (by simp) ?_; (case hd => rfl); (case hg => rfl); (case hr => first | (go_simp; done) | (go_simp; rfl)); (case hp => exact (Reps.one (show Kd.M (Kd.int .u8) _ _ _ ((a0_0) % 256) [.int .u8 ((a0_0) % 256)] from rfl) (Reps.none _ _)))
        intro v465 w15 ho16 hb hg_ hnew_
        clear hg_ hnew_
        (first | rw [← Ny464.out] at ho16 | (simp only [Int.reduceToNat] at ho16; rw [← Ny464.out] at ho16))
        have n0_ := z1o.mk (Kd.R_elder' yj (Kd.R_base ho16) hb)
        have n1_ := z1o.mk (Kd.R_lower (Kd.R_new' ho16 (Kd.R_lt yj)) (zc y3))
        have n2_ := z1o.mk (zb (g := gb463) (o := .cells #[.int .i64 a0_0, .int .i64 a0_1, .string a0_2, .string a0_3, .slice A0_4 l0_4.length c0_4] 47 (0, 0)) yf hb)
        have n3_ := z1o.mk (za y3 hb)
        clear HO469
        clear BK463
        clear HB
        have HO469 := n0_
        have HO466 := n1_
        have BK463 := n2_
        have HB := n3_
        clear n0_ n1_ n2_ n3_
        clear hb ho16
        refine hK.out _ _ ⟨(z6 BK463.out 0).trans rfl, (z6 BK463.out 1).trans rfl, (z6 BK463.out 2).trans rfl, (z6 BK463.out 3).trans rfl, (z6 BK463.out 4).trans rfl⟩ (fun hHeld => ?_)
        clear hK K
        refine norm_ (a' := ?_) ?_ ?_
        rotate_left
        ·show Act.put _ (some 7) _ = _
         simp only [Act.put, ub, uc, ud, zn, zo]
         rfl
        exact norm_ (by simp only [putAll, Act.put, ub, uc, ud]) (hCont (v465, v468) _ ⟨hHeld, (by (with_reducible repeat (first | apply Kd.R_alloc | apply Kd.R_drewN | apply Kd.R_drew)); exact Kd.R_mono HO466.out (fun _ hk => hk.2)), (by (with_reducible repeat (first | apply Kd.R_alloc | apply Kd.R_drewN | apply Kd.R_drew)); exact Kd.R_mono HO469.out (fun _ hk => hk.2)), yf, y3⟩)
      rintro ⟨v465, v468⟩ w17 ⟨hS_, h0_, h1_, h2_, h3_⟩
      have n0_ : z1o (Kd.R (Kd.int .u8) 5 w17 w.heap.size (fun k_ => some k_ ≠ (v468 : Value).ownBlock) v465 y464) := ⟨h0_⟩
      have n1_ : z1o (Kd.R (Kd.int .u8) 5 w17 w.heap.size (fun k_ => some k_ ≠ (v465 : Value).ownBlock) v468 t467) := ⟨h1_⟩
      have n2_ : z1o (w17.heap[gb463]? = some (.cells #[.int .i64 a0_0, .int .i64 a0_1, .string a0_2, .string a0_3, .slice A0_4 l0_4.length c0_4] 47 (0, 0))) := ⟨h2_⟩
      have n3_ : z1o (Below w.heap.size w w17) := ⟨h3_⟩
      clear BK463
      clear HB
      clear h0_ h1_ h2_ h3_
      have HO466 := n0_
      have HO469 := n1_
      have BK463 := n2_
      have HB := n3_
      clear n0_ n1_ n2_ n3_
      have hHeld : w17.cell? ⟨gb463, 0, none⟩ = some (.int .i64 a0_0) ∧ w17.cell? ⟨gb463, 1, none⟩ = some (.int .i64 a0_1) ∧ w17.cell? ⟨gb463, 2, none⟩ = some (.string a0_2) ∧ w17.cell? ⟨gb463, 3, none⟩ = some (.string a0_3) ∧ w17.cell? ⟨gb463, 4, none⟩ = some (.slice A0_4 l0_4.length c0_4) := hS_
      obtain ⟨Ao19, co19, eo19⟩ := Kd.R_slice HO469.out
      (first | subst eo19 | (injection eo19 with f1_ f2_ f3_; have f4_ := f1_.symm; have f5_ := f3_.symm; clear f1_ f2_ f3_; subst f4_; subst f5_))
      refine norm_ (a' := ?_) ?_ ?_
      rotate_left
      ·simp only [putAll, Act.put, ub, uc, ud]
       rfl
      refine one_ (i := 7) (N := some 11) #[true, true, true, true, true, true, true, true, false] rfl rfl (one_of HT_.out (by kernel_rfl)) (by decide) (fun K hK => ?_)
      refine Kd.R_append_rows_step (Kd.int .u8) (w0 := w) w.heap.size (by rfl) (.tmp 7) (.tmp 10) 26 5 (.int .u8 0) 1 rfl Try.underlying26 info5 rfl (by decide) (by omega) v465 y464 t467 _ _ _ (fun k_ => some k_ ≠ (.slice Ao19 t467.length co19 : Value).ownBlock) (fun _ => False) rfl rfl ?aO ?aR (fun _ _ h => h) (fun _ h => h.elim) ?aF ?aB ?aS ?aL ?_
      (case aR => exact y2v)
      (case aB => exact y3)
      (case aF => exact (fun k_ hk => Kd.fresh' (Kd.R_lt yj) k_ hk))
      (case aO => exact y25)
      (case aS => exact (zc y3))
      (case aL => have := LMc3.out; omega)
      intro v471 w18 ho hb hg hat
      rw [← Ny470.out] at ho
      have n0_ := z1o.mk (zf (g := gb463) (o := .cells #[.int .i64 a0_0, .int .i64 a0_1, .string a0_2, .string a0_3, .slice A0_4 l0_4.length c0_4] 47 (0, 0)) yf hg (Kd.R_ne HO466.out BK463.out (by decide)))
      have n1_ := z1o.mk (Kd.R_after (ok := (fun _ => True)) (by (with_reducible repeat (first | apply Kd.R_alloc | apply Kd.R_drewN | apply Kd.R_drew)); exact Kd.R_mono HO469.out (fun _ hk => ⟨trivial, hk⟩)) hg hat)
      have n2_ := z1o.mk (hb)
      have n3_ := z1o.mk (ho)
      clear BK463
      clear HO469
      clear HB
      clear HO466
      have BK463 := n0_
      have HO469 := n1_
      have HB := n2_
      have HO472 := n3_
      clear n0_ n1_ n2_ n3_
      clear ho hb hg hat
      refine hK.out _ _ ⟨(z6 BK463.out 0).trans rfl, (z6 BK463.out 1).trans rfl, (z6 BK463.out 2).trans rfl, (z6 BK463.out 3).trans rfl, (z6 BK463.out 4).trans rfl⟩ (fun hHeld => ?_)
      clear hK K
      refine norm_ (a' := ?_) ?_ ?_
      rotate_left
      ·show Act.put _ (some 11) _ = _
       simp only [Act.put, ub, uc, ud, zn, zo]
       rfl
      refine pure_ (i := 8) (N := some 3) (v := ?_) (a' := ?_) #[true, true, true, true, true, true, true, true, true] rfl rfl (any_of HT_.out (by kernel_rfl)) (fun _ _ _ h => h) (Or.inl ⟨by rfl, ?_⟩) ?_ ?_
      rotate_left
      ·intro w'
       go_simp
       with_reducible rfl
      rotate_left
      ·simp only [Act.put, ub, uc, ud, zn, zo]
       rfl
      refine done_ (done_of HT_.out (by kernel_rfl)) ?_
      obtain ⟨hcz20_0, hcz20_1, hcz20_2, hcz20_3, hcz20_4⟩ := cbk5 BK463.out
      obtain ⟨hfz20_0, hfz20_1, hfz20_2, hfz20_3, hfz20_4⟩ := cbf5 BK463.out
      try go_wp2_with (first | ((with_reducible refine zp (f := 50) rfl ?_); refine goesL_ (some 18) rfl rfl Try.func50 (by kernel_rfl) rfl #[.agg #[.string a0_3, .slice A0_4 l0_4.length c0_4]] rfl (by (try simp only [uh, ui, uj]); first | done | rfl | (simp only [uf, ug]; rfl)) ?_; (with_reducible refine (z11.calls k a0_3 _ _ l0_4 t473 _ ?side1 ?side2 A5.out).mono ?_); (case side1 => exact y1j); (case side2 => exact HC0_4.out); rintro e w21 ⟨v474, rfl, ho0, hb⟩; refine ⟨_, rfl, ?_⟩; have n0_ := z1o.mk (Kd.R_elder' yj (Kd.R_base ho0) hb); have n1_ := z1o.mk (Kd.R_elder' y2f (Kd.R_base ho0) hb); have n2_ := z1o.mk (Kd.R_lower (Kd.R_new' (Kd.R_new' ho0 (Kd.R_lt yj)) (Kd.R_lt y2f)) (zc y3)); have n3_ := z1o.mk (zb (g := gb463) (o := .cells #[.int .i64 a0_0, .int .i64 a0_1, .string a0_2, .string a0_3, .slice A0_4 l0_4.length c0_4] 47 (0, 0)) yf hb); have n4_ := z1o.mk (za y3 hb); clear HO469; clear HO472; clear BK463; clear HB; have HO469 := n0_; have HO472 := n1_; have HO475 := n2_; have BK463 := n3_; have HB := n4_; clear n0_ n1_ n2_ n3_ n4_; (try clear hb); (try clear hb2); (try clear hk); (try clear hi); (try clear ho0); obtain ⟨Ao23, co23, eo23⟩ := Kd.R_slice HO475.out; subst eo23) | ((with_reducible refine zr (b := .append) (xs := #[.tmp 15, .tmp 18]) rfl ?_); at_builtin; refine Kd.R_append_rows (Kd.int .u8) (w0 := w) w.heap.size rfl (.tmp 15) (.tmp 18) 26 5 (.int .u8 0) 1 rfl Try.underlying26 info5 rfl (by decide) (by omega) v471 y470 t473 _ _ _ (fun k_ => some k_ ≠ (.slice Ao19 t467.length co19 : Value).ownBlock ∧ some k_ ≠ (.slice Ao23 t473.length co23 : Value).ownBlock) (fun _ => False) rfl rfl ?aO ?aR (fun _ _ h => h) (fun _ h => h.elim) ?aF ?aB ?aS ?aL ?_; (case aR => repeat (first | exact (Kd.R_reads' HO475.out).2.2 | (with_reducible refine Kd.C_alloc ?_ _) | (with_reducible refine Kd.C_drewN ?_ _) | (with_reducible refine Kd.C_drew ?_))); (case aB => exact y3); (case aF => exact (fun k_ hk => ⟨Kd.fresh' (Kd.R_lt yj) k_ hk, Kd.fresh' (Kd.R_lt y1v) k_ hk⟩)); (case aO => exact y2f); (case aS => exact (zc y3)); (case aL => have := LMc6.out; omega); intro v477 w22 ho hb hg hat; rw [← Ny476.out] at ho; have n0_ := z1o.mk (zf (g := gb463) (o := .cells #[.int .i64 a0_0, .int .i64 a0_1, .string a0_2, .string a0_3, .slice A0_4 l0_4.length c0_4] 47 (0, 0)) yf hg (Kd.R_ne HO472.out BK463.out (by decide))); have n1_ := z1o.mk (Kd.R_after (ok := (fun k_ => some k_ ≠ (.slice Ao23 t473.length co23 : Value).ownBlock)) (by (with_reducible repeat (first | apply Kd.R_alloc | apply Kd.R_drewN | apply Kd.R_drew)); exact Kd.R_mono HO469.out (fun _ hk => ⟨hk.2, hk.1.2⟩)) hg hat); have n2_ := z1o.mk (Kd.R_after (ok := (fun k_ => some k_ ≠ (.slice Ao19 t467.length co19 : Value).ownBlock)) (by (with_reducible repeat (first | apply Kd.R_alloc | apply Kd.R_drewN | apply Kd.R_drew)); exact Kd.R_mono HO475.out (fun _ hk => ⟨hk.1.2, hk.2⟩)) hg hat); have n3_ := z1o.mk (hb); have n4_ := z1o.mk (ho); clear BK463; clear HO469; clear HO475; clear HB; clear HO472; have BK463 := n0_; have HO469 := n1_; have HO475 := n2_; have HB := n3_; have HO478 := n4_; clear n0_ n1_ n2_ n3_ n4_; clear ho hb hg hat; obtain ⟨Ao24, co24, eo24⟩ := Kd.R_slice HO478.out; subst eo24) | ((with_reducible refine zp (f := 91) rfl ?_); refine goesL_ (some 26) rfl rfl Try.func91 (by kernel_rfl) rfl #[.int .i64 (y476.length : Int)] rfl (by (try simp only [uh, ui, uj]); first | done | rfl | (simp only [uf, ug]; rfl)) ?_; (with_reducible refine (z16.calls k (y476.length : Int) t479 _ A7.out).mono ?_); rintro e w25 ⟨v480, rfl, ho0, hb⟩; refine ⟨_, rfl, ?_⟩; have n0_ := z1o.mk (Kd.R_elder' yj (Kd.R_base ho0) hb); have n1_ := z1o.mk (Kd.R_elder' y1v (Kd.R_base ho0) hb); have n2_ := z1o.mk (Kd.R_elder' y20 (Kd.R_base ho0) hb); have n3_ := z1o.mk (Kd.R_lower (Kd.R_new' (Kd.R_new' (Kd.R_new' ho0 (Kd.R_lt yj)) (Kd.R_lt y1v)) (Kd.R_lt y20)) (zc y3)); have n4_ := z1o.mk (zb (g := gb463) (o := .cells #[.int .i64 a0_0, .int .i64 a0_1, .string a0_2, .string a0_3, .slice A0_4 l0_4.length c0_4] 47 (0, 0)) yf hb); have n5_ := z1o.mk (za y3 hb); clear HO469; clear HO475; clear HO478; clear BK463; clear HB; have HO469 := n0_; have HO475 := n1_; have HO478 := n2_; have HO481 := n3_; have BK463 := n4_; have HB := n5_; clear n0_ n1_ n2_ n3_ n4_ n5_; (try clear hb); (try clear hb2); (try clear hk); (try clear hi); (try clear ho0)) | ((with_reducible refine zr (b := .append) (xs := #[.tmp 26, .tmp 27]) rfl ?_); at_builtin; refine Kd.R_append_rows (Kd.int .u8) (w0 := w) w.heap.size rfl (.tmp 26) (.tmp 27) 26 5 (.int .u8 0) 1 rfl Try.underlying26 info5 rfl (by decide) (by omega) v480 t479 y476 _ _ _ (fun k_ => some k_ ≠ (.slice Ao19 t467.length co19 : Value).ownBlock ∧ some k_ ≠ (.slice Ao23 t473.length co23 : Value).ownBlock ∧ some k_ ≠ (.slice Ao24 y476.length co24 : Value).ownBlock) (fun _ => False) rfl rfl ?aO ?aR (fun _ _ h => h) (fun _ h => h.elim) ?aF ?aB ?aS ?aL ?_; (case aR => exact y2w); (case aB => exact y3); (case aF => exact (fun k_ hk => ⟨Kd.fresh' (Kd.R_lt yj) k_ hk, Kd.fresh' (Kd.R_lt y1v) k_ hk, Kd.fresh' (Kd.R_lt y20) k_ hk⟩)); (case aO => exact (by (with_reducible repeat (first | apply Kd.R_alloc | apply Kd.R_drewN | apply Kd.R_drew)); exact Kd.R_mono HO481.out (fun _ hk => ⟨hk.1.1.2, ⟨hk.1.2, hk.2⟩⟩))); (case aS => exact (zc y3)); (case aL => have := LMc8.out; omega); intro v483 w26 ho hb hg hat; rw [← Ny482.out] at ho; have n0_ := z1o.mk (zf (g := gb463) (o := .cells #[.int .i64 a0_0, .int .i64 a0_1, .string a0_2, .string a0_3, .slice A0_4 l0_4.length c0_4] 47 (0, 0)) yf hg (Kd.R_ne HO481.out BK463.out (by decide))); have n1_ := z1o.mk (Kd.R_after (ok := (fun k_ => some k_ ≠ (.slice Ao23 t473.length co23 : Value).ownBlock ∧ some k_ ≠ (.slice Ao24 y476.length co24 : Value).ownBlock)) yj hg hat); have n2_ := z1o.mk (Kd.R_after (ok := (fun k_ => some k_ ≠ (.slice Ao19 t467.length co19 : Value).ownBlock ∧ some k_ ≠ (.slice Ao24 y476.length co24 : Value).ownBlock)) y1v hg hat); have n3_ := z1o.mk (Kd.R_after (ok := (fun k_ => some k_ ≠ (.slice Ao19 t467.length co19 : Value).ownBlock ∧ some k_ ≠ (.slice Ao23 t473.length co23 : Value).ownBlock)) y20 hg hat); have n4_ := z1o.mk (hb); have n5_ := z1o.mk (ho); clear BK463; clear HO469; clear HO475; clear HO478; clear HB; clear HO481; have BK463 := n0_; have HO469 := n1_; have HO475 := n2_; have HO478 := n3_; have HB := n4_; have HO484 := n5_; clear n0_ n1_ n2_ n3_ n4_ n5_; clear ho hb hg hat) | ((with_reducible refine zp (f := 105) rfl ?_); refine goesL_ (some 30) rfl rfl Try.func105 (by kernel_rfl) rfl #[.slice Ao24 y476.length co24] rfl (by (try simp only [uh, ui, uj]); first | done | rfl | (simp only [uf, ug]; rfl)) ?_; (with_reducible refine (spec_Sum32.calls k _ _ y476 t485 _ ?side1 ?side2 A9.out).mono ?_); (case side1 => exact y2w); (case side2 => exact (Kd.R_reads' HO478.out).2.1); rintro e w' ⟨rfl, ⟨nd, rfl⟩⟩; refine ⟨_, rfl, ?_⟩) | ((with_reducible refine zp (f := 104) rfl ?_); refine goesL_ (some 31) rfl rfl Try.func104 (by kernel_rfl) rfl #[.int .i64 t485] rfl (by (try simp only [uh, ui, uj]); first | done | rfl | (simp only [uf, ug]; rfl)) ?_; (with_reducible refine (spec_l04Four.calls t485 t486 _ A10.out).mono ?_); rintro e w27 ⟨v487, rfl, ho0, hb⟩; refine ⟨_, rfl, ?_⟩; have n0_ := z1o.mk (Kd.R_elder' yj (Kd.R_base ho0) hb); have n1_ := z1o.mk (Kd.R_elder' y1v (Kd.R_base ho0) hb); have n2_ := z1o.mk (Kd.R_elder' y20 (Kd.R_base ho0) hb); have n3_ := z1o.mk (Kd.R_elder' (by (with_reducible repeat (first | apply Kd.R_alloc | apply Kd.R_drewN | apply Kd.R_drew)); exact HO484.out) (Kd.R_base ho0) hb); have n4_ := z1o.mk (Kd.R_lower (Kd.R_new' (Kd.R_new' (Kd.R_new' (Kd.R_new' ho0 (Kd.R_lt yj)) (Kd.R_lt y1v)) (Kd.R_lt y20)) (Kd.R_lt (by (with_reducible repeat (first | apply Kd.R_alloc | apply Kd.R_drewN | apply Kd.R_drew)); exact HO484.out))) (zc y3)); have n5_ := z1o.mk (zb (g := gb463) (o := .cells #[.int .i64 a0_0, .int .i64 a0_1, .string a0_2, .string a0_3, .slice A0_4 l0_4.length c0_4] 47 (0, 0)) yf hb); have n6_ := z1o.mk (za y3 hb); clear HO469; clear HO475; clear HO478; clear HO484; clear BK463; clear HB; have HO469 := n0_; have HO475 := n1_; have HO478 := n2_; have HO484 := n3_; have HO488 := n4_; have BK463 := n5_; have HB := n6_; clear n0_ n1_ n2_ n3_ n4_ n5_ n6_; (try clear hb); (try clear hb2); (try clear hk); (try clear hi); (try clear ho0); obtain ⟨Ao29, co29, eo29⟩ := Kd.R_slice HO488.out; subst eo29) | ((with_reducible refine zr (b := .append) (xs := #[.tmp 28, .tmp 31]) rfl ?_); at_builtin; refine Kd.R_append_rows (Kd.int .u8) (w0 := w) w.heap.size rfl (.tmp 28) (.tmp 31) 26 5 (.int .u8 0) 1 rfl Try.underlying26 info5 rfl (by decide) (by omega) v483 y482 t486 _ _ _ (fun k_ => some k_ ≠ (.slice Ao19 t467.length co19 : Value).ownBlock ∧ some k_ ≠ (.slice Ao23 t473.length co23 : Value).ownBlock ∧ some k_ ≠ (.slice Ao24 y476.length co24 : Value).ownBlock ∧ some k_ ≠ (.slice Ao29 t486.length co29 : Value).ownBlock) (fun _ => False) rfl rfl ?aO ?aR (fun _ _ h => h) (fun _ h => h.elim) ?aF ?aB ?aS ?aL ?_; (case aR => repeat (first | exact (Kd.R_reads' HO488.out).2.2 | (with_reducible refine Kd.C_alloc ?_ _) | (with_reducible refine Kd.C_drewN ?_ _) | (with_reducible refine Kd.C_drew ?_))); (case aB => exact y3); (case aF => exact (fun k_ hk => ⟨Kd.fresh' (Kd.R_lt yj) k_ hk, Kd.fresh' (Kd.R_lt y1v) k_ hk, Kd.fresh' (Kd.R_lt y20) k_ hk, Kd.fresh' (Kd.R_lt (by (with_reducible repeat (first | apply Kd.R_alloc | apply Kd.R_drewN | apply Kd.R_drew)); exact HO488.out)) k_ hk⟩)); (case aO => exact (by (with_reducible repeat (first | apply Kd.R_alloc | apply Kd.R_drewN | apply Kd.R_drew)); exact Kd.R_mono HO484.out (fun _ hk => ⟨hk.1.1, ⟨hk.1.2.1, ⟨hk.1.2.2, hk.2⟩⟩⟩))); (case aS => exact (zc y3)); (case aL => have := LMc11.out; omega); intro v490 w28 ho hb hg hat; rw [← Ny489.out] at ho; have n0_ := z1o.mk (zf (g := gb463) (o := .cells #[.int .i64 a0_0, .int .i64 a0_1, .string a0_2, .string a0_3, .slice A0_4 l0_4.length c0_4] 47 (0, 0)) yf hg (Kd.R_ne HO484.out BK463.out (by decide))); have n1_ := z1o.mk (Kd.R_after (ok := (fun k_ => some k_ ≠ (.slice Ao23 t473.length co23 : Value).ownBlock ∧ some k_ ≠ (.slice Ao24 y476.length co24 : Value).ownBlock ∧ some k_ ≠ (.slice Ao29 t486.length co29 : Value).ownBlock)) (by (with_reducible repeat (first | apply Kd.R_alloc | apply Kd.R_drewN | apply Kd.R_drew)); exact Kd.R_mono HO469.out (fun _ hk => ⟨⟨hk.1.1.1, ⟨hk.1.1.2, hk.2⟩⟩, hk.1.2⟩)) hg hat); have n2_ := z1o.mk (Kd.R_after (ok := (fun k_ => some k_ ≠ (.slice Ao19 t467.length co19 : Value).ownBlock ∧ some k_ ≠ (.slice Ao24 y476.length co24 : Value).ownBlock ∧ some k_ ≠ (.slice Ao29 t486.length co29 : Value).ownBlock)) (by (with_reducible repeat (first | apply Kd.R_alloc | apply Kd.R_drewN | apply Kd.R_drew)); exact Kd.R_mono HO475.out (fun _ hk => ⟨⟨hk.1.1.1, ⟨hk.1.1.2, hk.2⟩⟩, hk.1.2⟩)) hg hat); have n3_ := z1o.mk (Kd.R_after (ok := (fun k_ => some k_ ≠ (.slice Ao19 t467.length co19 : Value).ownBlock ∧ some k_ ≠ (.slice Ao23 t473.length co23 : Value).ownBlock ∧ some k_ ≠ (.slice Ao29 t486.length co29 : Value).ownBlock)) (by (with_reducible repeat (first | apply Kd.R_alloc | apply Kd.R_drewN | apply Kd.R_drew)); exact Kd.R_mono HO478.out (fun _ hk => ⟨⟨hk.1.1.1, ⟨hk.1.1.2, hk.2⟩⟩, hk.1.2⟩)) hg hat); have n4_ := z1o.mk (Kd.R_after (ok := (fun k_ => some k_ ≠ (.slice Ao19 t467.length co19 : Value).ownBlock ∧ some k_ ≠ (.slice Ao23 t473.length co23 : Value).ownBlock ∧ some k_ ≠ (.slice Ao24 y476.length co24 : Value).ownBlock)) (by (with_reducible repeat (first | apply Kd.R_alloc | apply Kd.R_drewN | apply Kd.R_drew)); exact Kd.R_mono HO488.out (fun _ hk => ⟨⟨hk.1.1.1.2, ⟨hk.1.1.2, hk.1.2⟩⟩, hk.2⟩)) hg hat); have n5_ := z1o.mk (hb); have n6_ := z1o.mk (ho); clear BK463; clear HO469; clear HO475; clear HO478; clear HO488; clear HB; clear HO484; have BK463 := n0_; have HO469 := n1_; have HO475 := n2_; have HO478 := n3_; have HO488 := n4_; have HB := n5_; have HO491 := n6_; clear n0_ n1_ n2_ n3_ n4_ n5_ n6_; clear ho hb hg hat))
      go_ret
      exact ⟨_, by first | rfl | (simp [zm, zl] <;> rfl) | (simp [*, zm, zl] <;> rfl), by (with_reducible repeat (first | apply Kd.R_alloc | apply Kd.R_drewN | apply Kd.R_drew)); exact Kd.R_mono HO491.out (fun _ hk => trivial), y3⟩
     ·rw [if_neg c11] at H
      exact absurd H (by simp)
    ·rw [if_neg c8] at H
     exact absurd H (by simp)
   ·rw [if_neg c6] at H
    exact absurd H (by simp)
  ·rw [if_neg c4] at H
   have c4b0 : (a0_0 == 1) = false := beq_eq_false_iff_ne.mpr c4
   have c4b1 : (a0_0 != 1) = true := bne_iff_ne.mpr c4
   by_cases c30 : y470.length + a0_2.size < 140737488355328
   ·rw [if_pos c30] at H
    have LMc30 := z1o.mk c30
    clear c30
    obtain ⟨y492, hy492⟩ : ∃ y_ : List Int, y_ = (y470 ++ bytesOf a0_2) := ⟨_, rfl⟩
    replace H : ((z16.f k (y492.length : Int)).bind fun t495 => (if t495.length + y492.length < 140737488355328 then ((some (t495 ++ y492 : List Int)).bind fun y498 => ((spec_Sum32.f k y492).bind fun t501 => ((spec_l04Four.f t501).bind fun t502 => (if y498.length + t502.length < 140737488355328 then (some (y498 ++ t502)) else (none))))) else (none))) = some r := by first | (rw [hy492]; with_reducible exact H) | (have H2_ := (uk _ _).symm.trans H; rw [hy492]; with_reducible exact H2_) | (have H2_ := (uk _ _).symm.trans H; with_reducible exact H2_) | with_reducible exact H | (rw [hy492]; exact H) | exact H
    have Ny492 := z1o.mk hy492
    clear hy492
    replace H := ue.mp H
    obtain ⟨t495, A310, H⟩ := H
    replace H : (if t495.length + y492.length < 140737488355328 then ((some (t495 ++ y492 : List Int)).bind fun y498 => ((spec_Sum32.f k y492).bind fun t501 => ((spec_l04Four.f t501).bind fun t502 => (if y498.length + t502.length < 140737488355328 then (some (y498 ++ t502)) else (none))))) else (none)) = some r := H
    have A31 := z1o.mk A310
    clear A310
    by_cases c32 : t495.length + y492.length < 140737488355328
    ·rw [if_pos c32] at H
     have LMc32 := z1o.mk c32
     clear c32
     obtain ⟨y498, hy498⟩ : ∃ y_ : List Int, y_ = (t495 ++ y492) := ⟨_, rfl⟩
     replace H : ((spec_Sum32.f k y492).bind fun t501 => ((spec_l04Four.f t501).bind fun t502 => (if y498.length + t502.length < 140737488355328 then (some (y498 ++ t502)) else (none)))) = some r := by first | (rw [hy498]; with_reducible exact H) | (have H2_ := (uk _ _).symm.trans H; rw [hy498]; with_reducible exact H2_) | (have H2_ := (uk _ _).symm.trans H; with_reducible exact H2_) | with_reducible exact H | (rw [hy498]; exact H) | exact H
     have Ny498 := z1o.mk hy498
     clear hy498
     replace H := ue.mp H
     obtain ⟨t501, A330, H⟩ := H
     replace H : ((spec_l04Four.f t501).bind fun t502 => (if y498.length + t502.length < 140737488355328 then (some (y498 ++ t502)) else (none))) = some r := H
     have A33 := z1o.mk A330
     clear A330
     replace H := ue.mp H
     obtain ⟨t502, A340, H⟩ := H
     replace H : (if y498.length + t502.length < 140737488355328 then (some (y498 ++ t502)) else (none)) = some r := H
     have A34 := z1o.mk A340
     clear A340
     by_cases c35 : y498.length + t502.length < 140737488355328
     ·rw [if_pos c35] at H
      have LMc35 := z1o.mk c35
      clear c35
      obtain ⟨y505, hy505⟩ : ∃ y_ : List Int, y_ = (y498 ++ t502) := ⟨_, rfl⟩
      replace H : (some y505) = some r := by first | (rw [hy505]; with_reducible exact H) | (have H2_ := (uk _ _).symm.trans H; rw [hy505]; with_reducible exact H2_) | (have H2_ := (uk _ _).symm.trans H; with_reducible exact H2_) | with_reducible exact H | (rw [hy505]; exact H) | exact H
      have Ny505 := z1o.mk hy505
      clear hy505
      obtain rfl := Option.some.inj H
      go_enter Try.func61, Try.ntmps61
      try go_wp2_with (first | ((with_reducible refine zq (N := 1) rfl ?_); refine zv ?hg (N := 1) ?hd (cs := #[.int .i64 a0_0, .int .i64 a0_1, .string a0_2, .string a0_3, .slice A0_4 l0_4.length c0_4]) (t := 47) ?hr ?_; (case hd => rfl); (case hg => rfl); (case hr => first | (go_simp; done) | (go_simp; rfl)); intro gb463 hg w36 hbox hb; have n0_ := z1o.mk (za y0 hb); have n1_ := z1o.mk (hbox); have n2_ := z1o.mk ((by rw [hg]; exact (zc y0) : w.heap.size ≤ gb463)); have n3_ := z1o.mk ((by rw [hg]; exact (zc y0) : w.heap.size ≤ gb463)); clear HB; have HB := n0_; have BK463 := n1_; have GW463 := n2_; have GE463 := n3_; clear n0_ n1_ n2_ n3_; clear hb hbox hg))
      have n0_ := z1o.mk (z9 BK463.out)
      have n1_ := z1o.mk (z3 HB.out)
      clear BK463
      clear HB
      have BK463 := n0_
      have HB := n1_
      clear n0_ n1_
      refine start_ (n := 9) (S := fun w' => w'.cell? ⟨gb463, 0, none⟩ = some (.int .i64 a0_0) ∧ w'.cell? ⟨gb463, 1, none⟩ = some (.int .i64 a0_1) ∧ w'.cell? ⟨gb463, 2, none⟩ = some (.string a0_2) ∧ w'.cell? ⟨gb463, 3, none⟩ = some (.string a0_3) ∧ w'.cell? ⟨gb463, 4, none⟩ = some (.slice A0_4 l0_4.length c0_4)) (ds := []) #[false, false, false, false, false, false, false, false, false] (by kernel_rfl) rfl rfl ⟨(z6 BK463.out 0).trans rfl, (z6 BK463.out 1).trans rfl, (z6 BK463.out 2).trans rfl, (z6 BK463.out 3).trans rfl, (z6 BK463.out 4).trans rfl⟩ (fun hHeld => ?_); refine with_tabW z1k.tab1 z1k.bits1 (fun HT_ HW_ => ?_)
      generalize w36.drew = w37 at BK463 HB hHeld ⊢
      refine pure_ (i := 0) (N := some 4) (v := ?_) (a' := ?_) #[true, false, false, false, false, false, false, false, false] rfl rfl (any_of HT_.out (by kernel_rfl)) (fun _ _ _ h => h) (Or.inl ⟨by rfl, ?_⟩) ?_ ?_
      rotate_left
      ·intro w'
       go_simp
       with_reducible rfl
      rotate_left
      ·simp only [Act.put, ub, uc, ud, zn, zo]
       rfl
      refine pure_ (i := 4) (N := some 8) (v := ?_) (a' := ?_) #[true, false, false, false, true, false, false, false, false] rfl rfl (any_of HT_.out (by kernel_rfl)) (fun _ _ _ h => h) (Or.inl ⟨by rfl, ?_⟩) ?_ ?_
      rotate_left
      ·intro w'
       go_simp
       with_reducible rfl
      rotate_left
      ·simp only [Act.put, ub, uc, ud, zn, zo]
       rfl
      refine take_ (i := 1) (N := some 5) (v := ?_) (a' := ?_) #[true, true, false, false, true, false, false, false, false] rfl rfl (take_ofW HT_.out HW_.out (by kernel_rfl)) (fun _ _ _ h => h) (Or.inl ⟨by rfl, ?_⟩) hHeld ?_ ?_
      rotate_left
      ·rintro w' ⟨s0, s1, s2, s3, s4⟩
       go_simp
       with_reducible rfl
      rotate_left
      ·simp only [Act.put, ub, uc, ud, zn, zo]
       rfl
      refine pure_ (i := 2) (N := some 6) (v := ?_) (a' := ?_) #[true, true, true, false, true, false, false, false, false] rfl rfl (any_of HT_.out (by kernel_rfl)) (fun _ _ _ h => h) (Or.inl ⟨by rfl, ?_⟩) ?_ ?_
      rotate_left
      ·intro w'
       go_simp
       with_reducible rfl
      rotate_left
      ·simp only [Act.put, ub, uc, ud, zn, zo]
       rfl
      refine take_ (i := 5) (N := some 9) (v := ?_) (a' := ?_) #[true, true, true, false, true, true, false, false, false] rfl rfl (take_ofW HT_.out HW_.out (by kernel_rfl)) (fun _ _ _ h => h) (Or.inl ⟨by rfl, ?_⟩) hHeld ?_ ?_
      rotate_left
      ·rintro w' ⟨s0, s1, s2, s3, s4⟩
       go_simp
       with_reducible rfl
      rotate_left
      ·simp only [Act.put, ub, uc, ud, zn, zo]
       rfl
      refine join_ (σ := Value × Value) 2 #[true, true, true, true, true, true, true, false, false] (fun s_ => [(7, s_.1), (10, s_.2)]) (fun s_ w' => (w'.cell? ⟨gb463, 0, none⟩ = some (.int .i64 a0_0) ∧ w'.cell? ⟨gb463, 1, none⟩ = some (.int .i64 a0_1) ∧ w'.cell? ⟨gb463, 2, none⟩ = some (.string a0_2) ∧ w'.cell? ⟨gb463, 3, none⟩ = some (.string a0_3) ∧ w'.cell? ⟨gb463, 4, none⟩ = some (.slice A0_4 l0_4.length c0_4)) ∧ (Kd.R (Kd.int .u8) 5 w' w.heap.size (fun k_ => some k_ ≠ (s_.2 : Value).ownBlock) s_.1 y464) ∧ (Kd.R (Kd.int .u8) 5 w' w.heap.size (fun k_ => some k_ ≠ (s_.1 : Value).ownBlock) s_.2 t467) ∧ (w'.heap[gb463]? = some (.cells #[.int .i64 a0_0, .int .i64 a0_1, .string a0_2, .string a0_3, .slice A0_4 l0_4.length c0_4] 47 (0, 0))) ∧ (Below w.heap.size w w')) ?_ ?_
      rotate_left
      ·intro hCont
       refine two_ (i := 3) (j := 6) (Ni := some 7) (Nj := some 10) #[true, true, true, true, true, true, false, false, false] #[true, true, true, false, true, true, true, false, false] rfl rfl rfl rfl (two_of HT_.out (by kernel_rfl)) (by decide) (by decide) (fun K hK => ?_) (fun K hK => ?_)
       ·skip
        refine Kd.R_lit_step (Kd.int .u8) _ 5 ?hg (N := 7) ?hd (xs := ([(a0_0) % 256] : List Int)) (inner := [.int .u8 ((a0_0) % 256)]) (ok := fun _ => True) (okp := fun _ => True) ?hr ?hp (fun _ hk => hk) trivial (Below.refl _ _) (um _) (by simp) ?_; (case hd => rfl); (case hg => rfl); (case hr => first | (go_simp; done) | (go_simp; rfl)); (case hp => exact (Reps.one (show Kd.M (Kd.int .u8) _ _ _ ((a0_0) % 256) [.int .u8 ((a0_0) % 256)] from rfl) (Reps.none _ _)))
        intro v465 w38 ho39 hb hg_ hnew_
        clear hg_ hnew_
        (first | rw [← Ny464.out] at ho39 | (simp only [Int.reduceToNat] at ho39; rw [← Ny464.out] at ho39))
        have n0_ := z1o.mk (Kd.R_lower ho39 (zc y3))
        have n1_ := z1o.mk (zb (g := gb463) (o := .cells #[.int .i64 a0_0, .int .i64 a0_1, .string a0_2, .string a0_3, .slice A0_4 l0_4.length c0_4] 47 (0, 0)) yf hb)
        have n2_ := z1o.mk (za y3 hb)
        clear BK463
        clear HB
        have HO466 := n0_
        have BK463 := n1_
        have HB := n2_
        clear n0_ n1_ n2_
        clear hb ho39
        refine hK.out _ _ ⟨(z6 BK463.out 0).trans rfl, (z6 BK463.out 1).trans rfl, (z6 BK463.out 2).trans rfl, (z6 BK463.out 3).trans rfl, (z6 BK463.out 4).trans rfl⟩ (fun hHeld => ?_)
        clear hK K
        refine norm_ (a' := ?_) ?_ ?_
        rotate_left
        ·show Act.put _ (some 7) _ = _
         simp only [Act.put, ub, uc, ud, zn, zo]
         rfl
        refine one_ (i := 6) (N := some 10) #[true, true, true, true, true, true, true, false, false] rfl rfl (one_of HT_.out (by kernel_rfl)) (by decide) (fun K hK => ?_)
        refine goes_ Try.func91 (by kernel_rfl) rfl #[.int .i64 a0_1] (by rfl) rfl rfl (by (try simp only [uh, ui, uj]); first | done | rfl | (simp only [uf, ug]; rfl)) ?_
        with_reducible refine (z16.calls k a0_1 t467 _ A2.out).mono ?_
        rintro e w40 ⟨v468, rfl, ho0, hb⟩
        refine ⟨_, rfl, ?_⟩
        have n0_ := z1o.mk (Kd.R_elder' y25 (Kd.R_base ho0) hb)
        have n1_ := z1o.mk (Kd.R_lower (Kd.R_new' ho0 (Kd.R_lt y25)) (zc y3))
        have n2_ := z1o.mk (zb (g := gb463) (o := .cells #[.int .i64 a0_0, .int .i64 a0_1, .string a0_2, .string a0_3, .slice A0_4 l0_4.length c0_4] 47 (0, 0)) yf hb)
        have n3_ := z1o.mk (za y3 hb)
        clear HO466
        clear BK463
        clear HB
        have HO466 := n0_
        have HO469 := n1_
        have BK463 := n2_
        have HB := n3_
        clear n0_ n1_ n2_ n3_
        (try clear hb)
        (try clear hb2)
        (try clear hk)
        (try clear hi)
        (try clear ho0)
        refine hK.out _ _ ⟨(z6 BK463.out 0).trans rfl, (z6 BK463.out 1).trans rfl, (z6 BK463.out 2).trans rfl, (z6 BK463.out 3).trans rfl, (z6 BK463.out 4).trans rfl⟩ (fun hHeld => ?_)
        clear hK K
        refine norm_ (a' := ?_) ?_ ?_
        rotate_left
        ·show Act.put _ (some 10) _ = _
         simp only [Act.put, ub, uc, ud, zn, zo]
         rfl
        exact norm_ (by simp only [putAll, Act.put, ub, uc, ud]) (hCont (v465, v468) _ ⟨hHeld, (by (with_reducible repeat (first | apply Kd.R_alloc | apply Kd.R_drewN | apply Kd.R_drew)); exact Kd.R_mono HO466.out (fun _ hk => hk.2)), (by (with_reducible repeat (first | apply Kd.R_alloc | apply Kd.R_drewN | apply Kd.R_drew)); exact Kd.R_mono HO469.out (fun _ hk => hk.2)), yf, y3⟩)
       ·skip
        refine goes_ Try.func91 (by kernel_rfl) rfl #[.int .i64 a0_1] (by rfl) rfl rfl (by (try simp only [uh, ui, uj]); first | done | rfl | (simp only [uf, ug]; rfl)) ?_
        with_reducible refine (z16.calls k a0_1 t467 _ A2.out).mono ?_
        rintro e w38 ⟨v468, rfl, ho0, hb⟩
        refine ⟨_, rfl, ?_⟩
        have n0_ := z1o.mk (Kd.R_lower ho0 (zc y3))
        have n1_ := z1o.mk (zb (g := gb463) (o := .cells #[.int .i64 a0_0, .int .i64 a0_1, .string a0_2, .string a0_3, .slice A0_4 l0_4.length c0_4] 47 (0, 0)) yf hb)
        have n2_ := z1o.mk (za y3 hb)
        clear BK463
        clear HB
        have HO469 := n0_
        have BK463 := n1_
        have HB := n2_
        clear n0_ n1_ n2_
        (try clear hb)
        (try clear hb2)
        (try clear hk)
        (try clear hi)
        (try clear ho0)
        refine hK.out _ _ ⟨(z6 BK463.out 0).trans rfl, (z6 BK463.out 1).trans rfl, (z6 BK463.out 2).trans rfl, (z6 BK463.out 3).trans rfl, (z6 BK463.out 4).trans rfl⟩ (fun hHeld => ?_)
        clear hK K
        refine norm_ (a' := ?_) ?_ ?_
        rotate_left
        ·show Act.put _ (some 10) _ = _
         simp only [Act.put, ub, uc, ud, zn, zo]
         rfl
        refine one_ (i := 3) (N := some 7) #[true, true, true, true, true, true, true, false, false] rfl rfl (one_of HT_.out (by kernel_rfl)) (by decide) (fun K hK => ?_)
        refine Kd.R_lit_step (Kd.int .u8) _ 5 ?hg (N := 7) ?hd (xs := ([(a0_0) % 256] : List Int)) (inner := [.int .u8 ((a0_0) % 256)]) (ok := fun _ => True) (okp := fun _ => True) ?hr ?hp (fun _ hk => hk) trivial (Below.refl _ _) (um _) (by simp) ?_; (case hd => rfl); (case hg => rfl); (case hr => first | (go_simp; done) | (go_simp; rfl)); (case hp => exact (Reps.one (show Kd.M (Kd.int .u8) _ _ _ ((a0_0) % 256) [.int .u8 ((a0_0) % 256)] from rfl) (Reps.none _ _)))
        intro v465 w39 ho40 hb hg_ hnew_
        clear hg_ hnew_
        (first | rw [← Ny464.out] at ho40 | (simp only [Int.reduceToNat] at ho40; rw [← Ny464.out] at ho40))
        have n0_ := z1o.mk (Kd.R_elder' yj (Kd.R_base ho40) hb)
        have n1_ := z1o.mk (Kd.R_lower (Kd.R_new' ho40 (Kd.R_lt yj)) (zc y3))
        have n2_ := z1o.mk (zb (g := gb463) (o := .cells #[.int .i64 a0_0, .int .i64 a0_1, .string a0_2, .string a0_3, .slice A0_4 l0_4.length c0_4] 47 (0, 0)) yf hb)
        have n3_ := z1o.mk (za y3 hb)
        clear HO469
        clear BK463
        clear HB
        have HO469 := n0_
        have HO466 := n1_
        have BK463 := n2_
        have HB := n3_
        clear n0_ n1_ n2_ n3_
        clear hb ho40
        refine hK.out _ _ ⟨(z6 BK463.out 0).trans rfl, (z6 BK463.out 1).trans rfl, (z6 BK463.out 2).trans rfl, (z6 BK463.out 3).trans rfl, (z6 BK463.out 4).trans rfl⟩ (fun hHeld => ?_)
        clear hK K
        refine norm_ (a' := ?_) ?_ ?_
        rotate_left
        ·show Act.put _ (some 7) _ = _
         simp only [Act.put, ub, uc, ud, zn, zo]
         rfl
        exact norm_ (by simp only [putAll, Act.put, ub, uc, ud]) (hCont (v465, v468) _ ⟨hHeld, (by (with_reducible repeat (first | apply Kd.R_alloc | apply Kd.R_drewN | apply Kd.R_drew)); exact Kd.R_mono HO466.out (fun _ hk => hk.2)), (by (with_reducible repeat (first | apply Kd.R_alloc | apply Kd.R_drewN | apply Kd.R_drew)); exact Kd.R_mono HO469.out (fun _ hk => hk.2)), yf, y3⟩)
      rintro ⟨v465, v468⟩ w41 ⟨hS_, h0_, h1_, h2_, h3_⟩
      have n0_ : z1o (Kd.R (Kd.int .u8) 5 w41 w.heap.size (fun k_ => some k_ ≠ (v468 : Value).ownBlock) v465 y464) := ⟨h0_⟩
      have n1_ : z1o (Kd.R (Kd.int .u8) 5 w41 w.heap.size (fun k_ => some k_ ≠ (v465 : Value).ownBlock) v468 t467) := ⟨h1_⟩
      have n2_ : z1o (w41.heap[gb463]? = some (.cells #[.int .i64 a0_0, .int .i64 a0_1, .string a0_2, .string a0_3, .slice A0_4 l0_4.length c0_4] 47 (0, 0))) := ⟨h2_⟩
      have n3_ : z1o (Below w.heap.size w w41) := ⟨h3_⟩
      clear BK463
      clear HB
      clear h0_ h1_ h2_ h3_
      have HO466 := n0_
      have HO469 := n1_
      have BK463 := n2_
      have HB := n3_
      clear n0_ n1_ n2_ n3_
      have hHeld : w41.cell? ⟨gb463, 0, none⟩ = some (.int .i64 a0_0) ∧ w41.cell? ⟨gb463, 1, none⟩ = some (.int .i64 a0_1) ∧ w41.cell? ⟨gb463, 2, none⟩ = some (.string a0_2) ∧ w41.cell? ⟨gb463, 3, none⟩ = some (.string a0_3) ∧ w41.cell? ⟨gb463, 4, none⟩ = some (.slice A0_4 l0_4.length c0_4) := hS_
      obtain ⟨Ao43, co43, eo43⟩ := Kd.R_slice HO469.out
      (first | subst eo43 | (injection eo43 with f1_ f2_ f3_; have f4_ := f1_.symm; have f5_ := f3_.symm; clear f1_ f2_ f3_; subst f4_; subst f5_))
      refine norm_ (a' := ?_) ?_ ?_
      rotate_left
      ·simp only [putAll, Act.put, ub, uc, ud]
       rfl
      refine one_ (i := 7) (N := some 11) #[true, true, true, true, true, true, true, true, false] rfl rfl (one_of HT_.out (by kernel_rfl)) (by decide) (fun K hK => ?_)
      refine Kd.R_append_rows_step (Kd.int .u8) (w0 := w) w.heap.size (by rfl) (.tmp 7) (.tmp 10) 26 5 (.int .u8 0) 1 rfl Try.underlying26 info5 rfl (by decide) (by omega) v465 y464 t467 _ _ _ (fun k_ => some k_ ≠ (.slice Ao43 t467.length co43 : Value).ownBlock) (fun _ => False) rfl rfl ?aO ?aR (fun _ _ h => h) (fun _ h => h.elim) ?aF ?aB ?aS ?aL ?_
      (case aR => exact y2v)
      (case aB => exact y3)
      (case aF => exact (fun k_ hk => Kd.fresh' (Kd.R_lt yj) k_ hk))
      (case aO => exact y25)
      (case aS => exact (zc y3))
      (case aL => have := LMc3.out; omega)
      intro v471 w42 ho hb hg hat
      rw [← Ny470.out] at ho
      have n0_ := z1o.mk (zf (g := gb463) (o := .cells #[.int .i64 a0_0, .int .i64 a0_1, .string a0_2, .string a0_3, .slice A0_4 l0_4.length c0_4] 47 (0, 0)) yf hg (Kd.R_ne HO466.out BK463.out (by decide)))
      have n1_ := z1o.mk (Kd.R_after (ok := (fun _ => True)) (by (with_reducible repeat (first | apply Kd.R_alloc | apply Kd.R_drewN | apply Kd.R_drew)); exact Kd.R_mono HO469.out (fun _ hk => ⟨trivial, hk⟩)) hg hat)
      have n2_ := z1o.mk (hb)
      have n3_ := z1o.mk (ho)
      clear BK463
      clear HO469
      clear HB
      clear HO466
      have BK463 := n0_
      have HO469 := n1_
      have HB := n2_
      have HO472 := n3_
      clear n0_ n1_ n2_ n3_
      clear ho hb hg hat
      refine hK.out _ _ ⟨(z6 BK463.out 0).trans rfl, (z6 BK463.out 1).trans rfl, (z6 BK463.out 2).trans rfl, (z6 BK463.out 3).trans rfl, (z6 BK463.out 4).trans rfl⟩ (fun hHeld => ?_)
      clear hK K
      refine norm_ (a' := ?_) ?_ ?_
      rotate_left
      ·show Act.put _ (some 11) _ = _
       simp only [Act.put, ub, uc, ud, zn, zo]
       rfl
      refine pure_ (i := 8) (N := some 3) (v := ?_) (a' := ?_) #[true, true, true, true, true, true, true, true, true] rfl rfl (any_of HT_.out (by kernel_rfl)) (fun _ _ _ h => h) (Or.inl ⟨by rfl, ?_⟩) ?_ ?_
      rotate_left
      ·intro w'
       go_simp
       with_reducible rfl
      rotate_left
      ·simp only [Act.put, ub, uc, ud, zn, zo]
       rfl
      refine done_ (done_of HT_.out (by kernel_rfl)) ?_
      obtain ⟨hcz44_0, hcz44_1, hcz44_2, hcz44_3, hcz44_4⟩ := cbk5 BK463.out
      obtain ⟨hfz44_0, hfz44_1, hfz44_2, hfz44_3, hfz44_4⟩ := cbf5 BK463.out
      try go_wp2_with (first | ((with_reducible refine zr (b := .append) (xs := #[.tmp 20, .tmp 22]) rfl ?_); at_builtin; refine Kd.R_append_str (w0 := w) w.heap.size rfl (.tmp 20) (.tmp 22) 26 9 5 rfl Try.underlying26 Try.underlying9 info5 v471 y470 a0_2 (fun k_ => some k_ ≠ (.slice Ao43 t467.length co43 : Value).ownBlock) rfl rfl ?aF ?aO ?aB ?aS ?aL ?_; (case aB => exact y3); (case aF => exact (fun k_ hk => Kd.fresh' (Kd.R_lt yj) k_ hk)); (case aO => exact y2f); (case aS => exact (zc y3)); (case aL => have := LMc30.out; omega); intro v493 w45 ho hb hg hat; rw [← Ny492.out] at ho; have n0_ := z1o.mk (zf (g := gb463) (o := .cells #[.int .i64 a0_0, .int .i64 a0_1, .string a0_2, .string a0_3, .slice A0_4 l0_4.length c0_4] 47 (0, 0)) yf hg (Kd.R_ne HO472.out BK463.out (by decide))); have n1_ := z1o.mk (Kd.R_after (ok := (fun _ => True)) yj hg hat); have n2_ := z1o.mk (hb); have n3_ := z1o.mk (ho); clear BK463; clear HO469; clear HB; clear HO472; have BK463 := n0_; have HO469 := n1_; have HB := n2_; have HO494 := n3_; clear n0_ n1_ n2_ n3_; clear ho hb hg hat; obtain ⟨Ao46, co46, eo46⟩ := Kd.R_slice HO494.out; subst eo46) | ((with_reducible refine zp (f := 91) rfl ?_); refine goesL_ (some 26) rfl rfl Try.func91 (by kernel_rfl) rfl #[.int .i64 (y492.length : Int)] rfl (by (try simp only [uh, ui, uj]); first | done | rfl | (simp only [uf, ug]; rfl)) ?_; (with_reducible refine (z16.calls k (y492.length : Int) t495 _ A31.out).mono ?_); rintro e w47 ⟨v496, rfl, ho0, hb⟩; refine ⟨_, rfl, ?_⟩; have n0_ := z1o.mk (Kd.R_elder' yj (Kd.R_base ho0) hb); have n1_ := z1o.mk (Kd.R_elder' y21 (Kd.R_base ho0) hb); have n2_ := z1o.mk (Kd.R_lower (Kd.R_new' (Kd.R_new' ho0 (Kd.R_lt yj)) (Kd.R_lt y21)) (zc y3)); have n3_ := z1o.mk (zb (g := gb463) (o := .cells #[.int .i64 a0_0, .int .i64 a0_1, .string a0_2, .string a0_3, .slice A0_4 l0_4.length c0_4] 47 (0, 0)) yf hb); have n4_ := z1o.mk (za y3 hb); clear HO469; clear HO494; clear BK463; clear HB; have HO469 := n0_; have HO494 := n1_; have HO497 := n2_; have BK463 := n3_; have HB := n4_; clear n0_ n1_ n2_ n3_ n4_; (try clear hb); (try clear hb2); (try clear hk); (try clear hi); (try clear ho0)) | ((with_reducible refine zr (b := .append) (xs := #[.tmp 26, .tmp 27]) rfl ?_); at_builtin; refine Kd.R_append_rows (Kd.int .u8) (w0 := w) w.heap.size rfl (.tmp 26) (.tmp 27) 26 5 (.int .u8 0) 1 rfl Try.underlying26 info5 rfl (by decide) (by omega) v496 t495 y492 _ _ _ (fun k_ => some k_ ≠ (.slice Ao43 t467.length co43 : Value).ownBlock ∧ some k_ ≠ (.slice Ao46 y492.length co46 : Value).ownBlock) (fun _ => False) rfl rfl ?aO ?aR (fun _ _ h => h) (fun _ h => h.elim) ?aF ?aB ?aS ?aL ?_; (case aR => exact y2x); (case aB => exact y3); (case aF => exact (fun k_ hk => ⟨Kd.fresh' (Kd.R_lt yj) k_ hk, Kd.fresh' (Kd.R_lt y21) k_ hk⟩)); (case aO => exact (by (with_reducible repeat (first | apply Kd.R_alloc | apply Kd.R_drewN | apply Kd.R_drew)); exact Kd.R_mono HO497.out (fun _ hk => ⟨hk.1.2, hk.2⟩))); (case aS => exact (zc y3)); (case aL => have := LMc32.out; omega); intro v499 w48 ho hb hg hat; rw [← Ny498.out] at ho; have n0_ := z1o.mk (zf (g := gb463) (o := .cells #[.int .i64 a0_0, .int .i64 a0_1, .string a0_2, .string a0_3, .slice A0_4 l0_4.length c0_4] 47 (0, 0)) yf hg (Kd.R_ne HO497.out BK463.out (by decide))); have n1_ := z1o.mk (Kd.R_after (ok := (fun k_ => some k_ ≠ (.slice Ao46 y492.length co46 : Value).ownBlock)) (by (with_reducible repeat (first | apply Kd.R_alloc | apply Kd.R_drewN | apply Kd.R_drew)); exact Kd.R_mono HO469.out (fun _ hk => ⟨hk.1.2, hk.2⟩)) hg hat); have n2_ := z1o.mk (Kd.R_after (ok := (fun k_ => some k_ ≠ (.slice Ao43 t467.length co43 : Value).ownBlock)) y21 hg hat); have n3_ := z1o.mk (hb); have n4_ := z1o.mk (ho); clear BK463; clear HO469; clear HO494; clear HB; clear HO497; have BK463 := n0_; have HO469 := n1_; have HO494 := n2_; have HB := n3_; have HO500 := n4_; clear n0_ n1_ n2_ n3_ n4_; clear ho hb hg hat) | ((with_reducible refine zp (f := 105) rfl ?_); refine goesL_ (some 30) rfl rfl Try.func105 (by kernel_rfl) rfl #[.slice Ao46 y492.length co46] rfl (by (try simp only [uh, ui, uj]); first | done | rfl | (simp only [uf, ug]; rfl)) ?_; (with_reducible refine (spec_Sum32.calls k _ _ y492 t501 _ ?side1 ?side2 A33.out).mono ?_); (case side1 => exact y2x); (case side2 => exact (Kd.R_reads' HO494.out).2.1); rintro e w' ⟨rfl, ⟨nd, rfl⟩⟩; refine ⟨_, rfl, ?_⟩) | ((with_reducible refine zp (f := 104) rfl ?_); refine goesL_ (some 31) rfl rfl Try.func104 (by kernel_rfl) rfl #[.int .i64 t501] rfl (by (try simp only [uh, ui, uj]); first | done | rfl | (simp only [uf, ug]; rfl)) ?_; (with_reducible refine (spec_l04Four.calls t501 t502 _ A34.out).mono ?_); rintro e w49 ⟨v503, rfl, ho0, hb⟩; refine ⟨_, rfl, ?_⟩; have n0_ := z1o.mk (Kd.R_elder' yj (Kd.R_base ho0) hb); have n1_ := z1o.mk (Kd.R_elder' y21 (Kd.R_base ho0) hb); have n2_ := z1o.mk (Kd.R_elder' (by (with_reducible repeat (first | apply Kd.R_alloc | apply Kd.R_drewN | apply Kd.R_drew)); exact HO500.out) (Kd.R_base ho0) hb); have n3_ := z1o.mk (Kd.R_lower (Kd.R_new' (Kd.R_new' (Kd.R_new' ho0 (Kd.R_lt yj)) (Kd.R_lt y21)) (Kd.R_lt (by (with_reducible repeat (first | apply Kd.R_alloc | apply Kd.R_drewN | apply Kd.R_drew)); exact HO500.out))) (zc y3)); have n4_ := z1o.mk (zb (g := gb463) (o := .cells #[.int .i64 a0_0, .int .i64 a0_1, .string a0_2, .string a0_3, .slice A0_4 l0_4.length c0_4] 47 (0, 0)) yf hb); have n5_ := z1o.mk (za y3 hb); clear HO469; clear HO494; clear HO500; clear BK463; clear HB; have HO469 := n0_; have HO494 := n1_; have HO500 := n2_; have HO504 := n3_; have BK463 := n4_; have HB := n5_; clear n0_ n1_ n2_ n3_ n4_ n5_; (try clear hb); (try clear hb2); (try clear hk); (try clear hi); (try clear ho0); obtain ⟨Ao51, co51, eo51⟩ := Kd.R_slice HO504.out; subst eo51) | ((with_reducible refine zr (b := .append) (xs := #[.tmp 28, .tmp 31]) rfl ?_); at_builtin; refine Kd.R_append_rows (Kd.int .u8) (w0 := w) w.heap.size rfl (.tmp 28) (.tmp 31) 26 5 (.int .u8 0) 1 rfl Try.underlying26 info5 rfl (by decide) (by omega) v499 y498 t502 _ _ _ (fun k_ => some k_ ≠ (.slice Ao43 t467.length co43 : Value).ownBlock ∧ some k_ ≠ (.slice Ao46 y492.length co46 : Value).ownBlock ∧ some k_ ≠ (.slice Ao51 t502.length co51 : Value).ownBlock) (fun _ => False) rfl rfl ?aO ?aR (fun _ _ h => h) (fun _ h => h.elim) ?aF ?aB ?aS ?aL ?_; (case aR => repeat (first | exact (Kd.R_reads' HO504.out).2.2 | (with_reducible refine Kd.C_alloc ?_ _) | (with_reducible refine Kd.C_drewN ?_ _) | (with_reducible refine Kd.C_drew ?_))); (case aB => exact y3); (case aF => exact (fun k_ hk => ⟨Kd.fresh' (Kd.R_lt yj) k_ hk, Kd.fresh' (Kd.R_lt y21) k_ hk, Kd.fresh' (Kd.R_lt (by (with_reducible repeat (first | apply Kd.R_alloc | apply Kd.R_drewN | apply Kd.R_drew)); exact HO504.out)) k_ hk⟩)); (case aO => exact (by (with_reducible repeat (first | apply Kd.R_alloc | apply Kd.R_drewN | apply Kd.R_drew)); exact Kd.R_mono HO500.out (fun _ hk => ⟨hk.1.1, ⟨hk.1.2, hk.2⟩⟩))); (case aS => exact (zc y3)); (case aL => have := LMc35.out; omega); intro v506 w50 ho hb hg hat; rw [← Ny505.out] at ho; have n0_ := z1o.mk (zf (g := gb463) (o := .cells #[.int .i64 a0_0, .int .i64 a0_1, .string a0_2, .string a0_3, .slice A0_4 l0_4.length c0_4] 47 (0, 0)) yf hg (Kd.R_ne HO500.out BK463.out (by decide))); have n1_ := z1o.mk (Kd.R_after (ok := (fun k_ => some k_ ≠ (.slice Ao46 y492.length co46 : Value).ownBlock ∧ some k_ ≠ (.slice Ao51 t502.length co51 : Value).ownBlock)) (by (with_reducible repeat (first | apply Kd.R_alloc | apply Kd.R_drewN | apply Kd.R_drew)); exact Kd.R_mono HO469.out (fun _ hk => ⟨⟨hk.1.1, hk.2⟩, hk.1.2⟩)) hg hat); have n2_ := z1o.mk (Kd.R_after (ok := (fun k_ => some k_ ≠ (.slice Ao43 t467.length co43 : Value).ownBlock ∧ some k_ ≠ (.slice Ao51 t502.length co51 : Value).ownBlock)) (by (with_reducible repeat (first | apply Kd.R_alloc | apply Kd.R_drewN | apply Kd.R_drew)); exact Kd.R_mono HO494.out (fun _ hk => ⟨⟨hk.1.1, hk.2⟩, hk.1.2⟩)) hg hat); have n3_ := z1o.mk (Kd.R_after (ok := (fun k_ => some k_ ≠ (.slice Ao43 t467.length co43 : Value).ownBlock ∧ some k_ ≠ (.slice Ao46 y492.length co46 : Value).ownBlock)) (by (with_reducible repeat (first | apply Kd.R_alloc | apply Kd.R_drewN | apply Kd.R_drew)); exact Kd.R_mono HO504.out (fun _ hk => ⟨⟨hk.1.1.2, hk.1.2⟩, hk.2⟩)) hg hat); have n4_ := z1o.mk (hb); have n5_ := z1o.mk (ho); clear BK463; clear HO469; clear HO494; clear HO504; clear HB; clear HO500; have BK463 := n0_; have HO469 := n1_; have HO494 := n2_; have HO504 := n3_; have HB := n4_; have HO507 := n5_; clear n0_ n1_ n2_ n3_ n4_ n5_; clear ho hb hg hat))
      go_ret
      exact ⟨_, by first | rfl | (simp [zm, zl] <;> rfl) | (simp [*, zm, zl] <;> rfl), by (with_reducible repeat (first | apply Kd.R_alloc | apply Kd.R_drewN | apply Kd.R_drew)); exact Kd.R_mono HO507.out (fun _ hk => trivial), y3⟩
     ·rw [if_neg c35] at H
      exact absurd H (by simp)
    ·rw [if_neg c32] at H
     exact absurd H (by simp)
   ·rw [if_neg c30] at H
    exact absurd H (by simp)
 ·rw [if_neg c3] at H
  exact absurd H (by simp)
def impl_PutInt.f (k : Nat) (a0 : Int) : Option (List Int × Int) := (impl_within.f a0 0 4611686018427387903).bind fun t526 => (if t526 = true then ((z1f.f k ([] : List Int) a0).bind fun t527 => (some (t527, 0))) else (some (([] : List Int), 12)))
set_option maxHeartbeats 8000000 in
set_option maxRecDepth 100000 in
theorem impl_PutInt.calls (k : Nat) (a0 : Int) (r1 : List Int) (r2 : Int) (w : World) (h : impl_PutInt.f k a0 = some (r1, r2)) :
  Calls Try.prog 62 #[.int .i64 a0] w fun e w' => ∃ v0_ : Value, e = .returned (.tuple #[v0_, .int .i64 r2]) ∧ Kd.R (Kd.int .u8) 5 w' w.heap.size (fun _ => True) v0_ r1 ∧ Below w.heap.size w w' := by
 have HB := z1o.mk (Below.refl w.heap.size w)
 have H : ((impl_within.f a0 0 4611686018427387903).bind fun t526 => (if t526 = true then ((z1f.f k ([] : List Int) a0).bind fun t527 => (some (t527, 0))) else (some (([] : List Int), 12)))) = some (r1, r2) := h
 clear h
 replace H := ue.mp H
 obtain ⟨t526, A20, H⟩ := H
 replace H : (if t526 = true then ((z1f.f k ([] : List Int) a0).bind fun t527 => (some (t527, 0))) else (some (([] : List Int), 12))) = some (r1, r2) := H
 have A2 := z1o.mk A20
 clear A20
 by_cases c3 : t526 = true
 ·subst c3
  have H1 : ((z1f.f k ([] : List Int) a0).bind fun t527 => (some (t527, 0))) = some (r1, r2) := by rw [if_pos rfl] at H; exact H
  clear H
  have H := H1
  clear H1
  replace H := ue.mp H
  obtain ⟨t527, A40, H⟩ := H
  replace H : (some (t527, 0)) = some (r1, r2) := H
  have A4 := z1o.mk A40
  clear A40
  simp only [Option.some.injEq, Prod.mk.injEq] at H
  obtain ⟨rfl, rfl⟩ := H
  go_enter Try.func62, Try.ntmps62
  go_wp2_with (first | ((with_reducible refine zp (f := 52) rfl ?_); refine goesL_ (some 5) rfl rfl Try.func52 (by kernel_rfl) rfl #[.int .i64 a0, .int .i64 0, .int .i64 4611686018427387903] rfl (by (try simp only [uh, ui, uj]); first | done | rfl | (simp only [uf, ug]; rfl)) ?_; (with_reducible refine (impl_within.calls a0 0 4611686018427387903 true _ A2.out).mono ?_); rintro e w' ⟨rfl, ⟨nd, rfl⟩⟩; refine ⟨_, rfl, ?_⟩) | ((with_reducible refine zp (f := 53) rfl ?_); refine goesL_ (some 8) rfl rfl Try.func53 (by kernel_rfl) rfl #[.slice none 0 0, .int .i64 a0] rfl (by (try simp only [uh, ui, uj]); first | done | rfl | (simp only [uf, ug]; rfl)) ?_; (refine (z1f.calls k (fun k_ => some k_ = (.slice none 0 0 : Value).ownBlock) (.slice none 0 0) ([] : List Int) a0 t527 w _ ?side1 ?side2 A4.out).mono ?_); (case side1 => exact y0); (case side2 => exact Kd.R_nil _ _ _ _ _); rintro e w5 ⟨v528, rfl, ho0, hb, hkp⟩; refine ⟨_, rfl, ?_⟩; have n0_ := z1o.mk (Kd.R_mono (ok' := fun k_ => True) ho0 (fun k_ hk_ => trivial)); have n1_ := z1o.mk (hb); clear HB; have HO529 := n0_; have HB := n1_; clear n0_ n1_; (try clear hb); (try clear hkp); (try clear ho0)))
  go_ret2
  exact ⟨_, by first | rfl | (simp [zm, zl] <;> rfl) | (simp [*, zm, zl] <;> rfl), by (with_reducible repeat (first | apply Kd.R_alloc | apply Kd.R_drewN | apply Kd.R_drew)); exact HO529.out, y0⟩
 ·replace c3 := Bool.eq_false_iff.mpr c3
  subst c3
  have H1 : (some (([] : List Int), 12)) = some (r1, r2) := by rw [if_neg (show ¬ (false = true) by decide)] at H; exact H
  clear H
  have H := H1
  clear H1
  simp only [Option.some.injEq, Prod.mk.injEq] at H
  obtain ⟨rfl, rfl⟩ := H
  go_enter Try.func62, Try.ntmps62
  go_wp2_with (first | ((with_reducible refine zp (f := 52) rfl ?_); refine goesL_ (some 5) rfl rfl Try.func52 (by kernel_rfl) rfl #[.int .i64 a0, .int .i64 0, .int .i64 4611686018427387903] rfl (by (try simp only [uh, ui, uj]); first | done | rfl | (simp only [uf, ug]; rfl)) ?_; (with_reducible refine (impl_within.calls a0 0 4611686018427387903 false _ A2.out).mono ?_); rintro e w' ⟨rfl, ⟨nd, rfl⟩⟩; refine ⟨_, rfl, ?_⟩))
  go_ret2
  exact ⟨_, by first | rfl | (simp [zm, zl] <;> rfl) | (simp [*, zm, zl] <;> rfl), by first | exact Kd.R_nil _ _ _ _ _ | exact Kd.N_nil _ _ _ _ _ | exact Kd.V_nil _ _ _ _ _ | exact Kd.Q_nil _ _ _ _ _ | exact Kd.S_nil _ _ _ _ _, y0⟩
mutual
def z1g.j0 : Nat → ByteArray → Bool → Option (Bool)
 | 0, _, _ => none
 | k + 1, x0, x11 => if x11 = true then (some false) else (z1g.l0 k x0 (x0.size : Int) 0)
def z1g.l0 : Nat → ByteArray → Int → Int → Option (Bool)
 | 0, _, _, _ => none
 | k + 1, x0, x13, x14 => if x14 < x13 then (if 0 ≤ x14 then (if x14 < (x0.size : Int) then (if (bt x0 x14) < 33 then (some false) else (if (bt x0 x14) > 126 then (some false) else (z1g.l0 k x0 x13 (wrap64 (x14 + 1))))) else (none)) else (none)) else (some true)
end
def z1g.f (k : Nat) (a0 : ByteArray) : Option (Bool) := if (a0.size : Int) < 1 then (z1g.j0 k a0 true) else (z1g.j0 k a0 (decide ((a0.size : Int) > 30)))
set_option maxHeartbeats 8000000 in
set_option maxRecDepth 100000 in
theorem z1g.calls (k : Nat) (a0 : ByteArray) (r : Bool) (w : World) (h : z1g.f k a0 = some r) :
  Calls Try.prog 63 #[.string a0] w fun e w' => e = .returned (.bool r) ∧ Drawn0 w w' := by
 have H : (if (a0.size : Int) < 1 then (z1g.j0 k a0 true) else (z1g.j0 k a0 (decide ((a0.size : Int) > 30)))) = some r := h
 clear h
 have HC2 := z1o.mk H
 clear H
 go_enter Try.func63, Try.ntmps63
 go_upto_region 1 with (fail)
 go_cut [11] (fun v11 wc => ∃ (kq : Nat) (x11_1 : Bool), v11 = .bool x11_1 ∧ z1o (z1g.j0 kq a0 x11_1 = some r) ∧ z1o (kq ≤ k) ∧ Drawn0 w wc)
 case first =>
  have H := HC2.out
  clear HC2
  by_cases c3 : (a0.size : Int) < 1
  ·rw [if_pos c3] at H
   have c3b0 : decide ((a0.size : Int) < 1) = true := decide_eq_true c3
   have c3b1 : decide (a0.size < 1) = true := decide_eq_true (by omega)
   clear c3
   (first | rw [c3b0] | (simp only [zn, zo]; rw [c3b0]) | skip)
   have H' := z1o.mk H
   clear H
   go_wp2
   go_meet
   case rel => exact ⟨_, (true), (by first | rfl | (simp; done) | (simp [*]; done)), H', ⟨by first | omega | exact um _⟩, yb⟩
  ·rw [if_neg c3] at H
   have c3b0 : decide ((a0.size : Int) < 1) = false := decide_eq_false c3
   have c3b1 : decide (a0.size < 1) = false := decide_eq_false (by omega)
   clear c3
   (first | rw [c3b0] | (simp only [zn, zo]; rw [c3b0]) | skip)
   have H' := z1o.mk H
   clear H
   go_wp2
   go_meet
   case rel => exact ⟨_, (decide ((a0.size : Int) > 30)), (by first | rfl | (simp; done) | (simp [*]; done)), H', ⟨by first | omega | exact um _⟩, yb⟩
 case rest =>
  clear HC2
  try clear p2
  try clear c3
  try clear c3b0
  try clear c3b1
  obtain ⟨kq, x11_1, rfl, HA, HJ1, ⟨mc1, rfl⟩⟩ := hcut
  cases kq with
  | zero => exact absurd HA.out (by simp [z1g.j0])
  | succ kj1 =>
   have H := HA.out
   clear HA
   simp only [z1g.j0] at H
   by_cases c4 : x11_1 = true
   ·subst c4
    have H1 : (some false) = some r := by rw [if_pos rfl] at H; exact H
    clear H
    have H := H1
    clear H1
    obtain rfl := Option.some.inj H
    go_wp2
    go_ret
    exact ⟨by first | rfl | (simp; done) | (simp [*]; done), yb⟩
   ·replace c4 := Bool.eq_false_iff.mpr c4
    subst c4
    have H1 : (z1g.l0 kj1 a0 (a0.size : Int) 0) = some r := by rw [if_neg (show ¬ (false = true) by decide)] at H; exact H
    clear H
    have H := H1
    clear H1
    have H' := z1o.mk H
    clear H
    go_wp2
    go_loopg [14] kj1 (fun kq v14 w' => ∃ (x14_2 : Int), v14 = .int .i64 x14_2 ∧ z1o (z1g.l0 kq a0 (a0.size : Int) x14_2 = some r) ∧ z1o (kq ≤ kj1) ∧ Drawn0 w w')
    case atStart => exact ⟨(0), (by first | rfl | (simp; done) | (simp [*]; done)), H', ⟨um _⟩, yb⟩
    case round =>
     clear H'
     try clear c1
     try clear p2
     try clear c3
     try clear c3b0
     try clear c3b1
     try clear c4
     try clear p2
     obtain ⟨x14_2, rfl, HA, HK2, ⟨m2, rfl⟩⟩ := hrel
     cases gk with
     | zero => exact absurd HA.out (by simp [z1g.l0])
     | succ k2 =>
      have H := HA.out
      clear HA
      simp only [z1g.l0] at H
      by_cases c5 : x14_2 < (a0.size : Int)
      ·rw [if_pos c5] at H
       have c5b0 : decide (x14_2 < (a0.size : Int)) = true := decide_eq_true c5
       clear c5
       by_cases c6 : 0 ≤ x14_2
       ·rw [if_pos c6] at H
        have c6b0 : decide (0 ≤ x14_2) = true := decide_eq_true c6
        clear c6
        by_cases c7 : x14_2 < (a0.size : Int)
        ·rw [if_pos c7] at H
         have c7b0 : decide (x14_2 < (a0.size : Int)) = true := decide_eq_true c7
         clear c7
         by_cases c9 : (bt a0 x14_2) < 33
         ·rw [if_pos c9] at H
          have c9b0 : decide ((bt a0 x14_2) < 33) = true := decide_eq_true c9
          clear c9
          obtain rfl := Option.some.inj H
          have p8 : 0 ≤ (x14_2 : Int) := of_decide_eq_true (by first | (with_reducible assumption) | assumption)
          have q8 : x14_2 < (a0.size : Int) := of_decide_eq_true (by first | (with_reducible assumption) | assumption)
          have hx8 := bt_at a0 x14_2
          replace p8 := eq_true p8
          replace q8 := eq_true q8
          go_wp2
          go_ret
          exact ⟨by first | rfl | (simp; done) | (simp [*]; done), yb⟩
         ·rw [if_neg c9] at H
          have c9b0 : decide ((bt a0 x14_2) < 33) = false := decide_eq_false c9
          clear c9
          by_cases c11 : (bt a0 x14_2) > 126
          ·rw [if_pos c11] at H
           have c11b0 : decide (126 < (bt a0 x14_2)) = true := decide_eq_true c11
           clear c11
           obtain rfl := Option.some.inj H
           have p8 : 0 ≤ (x14_2 : Int) := of_decide_eq_true (by first | (with_reducible assumption) | assumption)
           have q8 : x14_2 < (a0.size : Int) := of_decide_eq_true (by first | (with_reducible assumption) | assumption)
           have hx8 := bt_at a0 x14_2
           replace p8 := eq_true p8
           replace q8 := eq_true q8
           have p10 : 0 ≤ (x14_2 : Int) := of_decide_eq_true (by first | (with_reducible assumption) | assumption)
           have q10 : x14_2 < (a0.size : Int) := of_decide_eq_true (by first | (with_reducible assumption) | assumption)
           have hx10 := bt_at a0 x14_2
           replace p10 := eq_true p10
           replace q10 := eq_true q10
           go_wp2
           go_ret
           exact ⟨by first | rfl | (simp; done) | (simp [*]; done), yb⟩
          ·rw [if_neg c11] at H
           have c11b0 : decide (126 < (bt a0 x14_2)) = false := decide_eq_false c11
           clear c11
           have H' := z1o.mk H
           clear H
           have p8 : 0 ≤ (x14_2 : Int) := of_decide_eq_true (by first | (with_reducible assumption) | assumption)
           have q8 : x14_2 < (a0.size : Int) := of_decide_eq_true (by first | (with_reducible assumption) | assumption)
           have hx8 := bt_at a0 x14_2
           replace p8 := eq_true p8
           replace q8 := eq_true q8
           have p10 : 0 ≤ (x14_2 : Int) := of_decide_eq_true (by first | (with_reducible assumption) | assumption)
           have q10 : x14_2 < (a0.size : Int) := of_decide_eq_true (by first | (with_reducible assumption) | assumption)
           have hx10 := bt_at a0 x14_2
           replace p10 := eq_true p10
           replace q10 := eq_true q10
           go_wp2
           go_roundg k2
           case measure => have := HJ1.out; have := HK2.out; omega
           case rel => exact ⟨(wrap64 (x14_2 + 1)), (by first | rfl | (simp; done) | (simp [*]; done)), H', ⟨by have := HJ1.out; have := HK2.out; omega⟩, yb⟩
        ·rw [if_neg c7] at H
         exact absurd H (by simp)
       ·rw [if_neg c6] at H
        exact absurd H (by simp)
      ·rw [if_neg c5] at H
       have c5b0 : decide (x14_2 < (a0.size : Int)) = false := decide_eq_false c5
       clear c5
       obtain rfl := Option.some.inj H
       go_wp2
       go_ret
       exact ⟨by first | rfl | (simp; done) | (simp [*]; done), yb⟩
def impl_oZeroDoc.f (a0_0 : ByteArray) (l0_1 : List (S84)) : Option (Bool) := if a0_0.toList = ([] : List UInt8) then (some ((l0_1.length : Int) == 0)) else (some false)
set_option maxHeartbeats 8000000 in
set_option maxRecDepth 100000 in
theorem impl_oZeroDoc.calls (a0_0 : ByteArray) (A0_1 : Option Addr) (c0_1 : Nat) (l0_1 : List (S84)) (r : Bool) (w : World) (hr0_1 : Kd.C k84 w A0_1 l0_1.length l0_1) (hc0_1 : l0_1.length ≤ c0_1) (h : impl_oZeroDoc.f a0_0 l0_1 = some r) :
  Calls Try.prog 64 #[.agg #[.string a0_0, .slice A0_1 l0_1.length c0_1]] w fun e w' => e = .returned (.bool r) ∧ Below w.heap.size w w' := by
 have hu31 := Try.underlying31
 have HR0_1 := z1o.mk hr0_1
 have HC0_1 := z1o.mk hc0_1
 clear hr0_1 hc0_1
 have HB := z1o.mk (Below.refl w.heap.size w)
 have H : (if a0_0.toList = ([] : List UInt8) then (some ((l0_1.length : Int) == 0)) else (some false)) = some r := h
 clear h
 by_cases c2 : a0_0.toList = ([] : List UInt8)
 ·rw [if_pos c2] at H
  have c2b0 : (a0_0.toList == ([] : List UInt8)) = true := beq_iff_eq.mpr c2
  have c2b1 : (a0_0.toList != ([] : List UInt8)) = false := bne_eq_false_iff_eq.mpr c2
  clear c2
  obtain rfl := Option.some.inj H
  go_enter Try.func64, Try.ntmps64
  go_wp2_with (first | ((with_reducible refine zq (N := 1) rfl ?_); (try (refine zu (by rfl) ?_; dsimp only)); refine zv ?hg (N := 1) ?hd (cs := #[.string a0_0, .slice A0_1 l0_1.length c0_1]) (t := 31) ?hr ?_; (case hd => rfl); (case hg => rfl); (case hr => first | (go_simp; done) | (go_simp; rfl)); intro gb530 hg w3 hbox hb; have n0_ := z1o.mk (za y0 hb); have n1_ := z1o.mk (hbox); have n2_ := z1o.mk ((by rw [hg]; exact (zc y0) : w.heap.size ≤ gb530)); have n3_ := z1o.mk ((by rw [hg]; exact (zc y0) : w.heap.size ≤ gb530)); clear HB; have HB := n0_; have BK530 := n1_; have GW530 := n2_; have GE530 := n3_; clear n0_ n1_ n2_ n3_; clear hb hbox hg; obtain ⟨hcz4_0, hcz4_1⟩ := cbk2 BK530.out; obtain ⟨hfz4_0, hfz4_1⟩ := cbf2 BK530.out))
  go_ret
  exact ⟨by first | rfl | (simp [zm, zl] <;> rfl) | (simp [*, zm, zl] <;> rfl), y30⟩
 ·rw [if_neg c2] at H
  have c2b0 : (a0_0.toList == ([] : List UInt8)) = false := beq_eq_false_iff_ne.mpr c2
  have c2b1 : (a0_0.toList != ([] : List UInt8)) = true := bne_iff_ne.mpr c2
  obtain rfl := Option.some.inj H
  go_enter Try.func64, Try.ntmps64
  go_wp2_with (first | ((with_reducible refine zq (N := 1) rfl ?_); (try (refine zu (by rfl) ?_; dsimp only)); refine zv ?hg (N := 1) ?hd (cs := #[.string a0_0, .slice A0_1 l0_1.length c0_1]) (t := 31) ?hr ?_; (case hd => rfl); (case hg => rfl); (case hr => first | (go_simp; done) | (go_simp; rfl)); intro gb530 hg w5 hbox hb; have n0_ := z1o.mk (za y0 hb); have n1_ := z1o.mk (hbox); have n2_ := z1o.mk ((by rw [hg]; exact (zc y0) : w.heap.size ≤ gb530)); have n3_ := z1o.mk ((by rw [hg]; exact (zc y0) : w.heap.size ≤ gb530)); clear HB; have HB := n0_; have BK530 := n1_; have GW530 := n2_; have GE530 := n3_; clear n0_ n1_ n2_ n3_; clear hb hbox hg; obtain ⟨hcz6_0, hcz6_1⟩ := cbk2 BK530.out; obtain ⟨hfz6_0, hfz6_1⟩ := cbf2 BK530.out))
  go_ret
  exact ⟨by first | rfl | (simp [zm, zl] <;> rfl) | (simp [*, zm, zl] <;> rfl), y30⟩
def impl_oFour.f (a0 : Int) : Option (List Int) := some (([(a0 / 16777216) % 256, (a0 / 65536) % 256, (a0 / 256) % 256, (a0) % 256] : List Int))
set_option maxHeartbeats 8000000 in
set_option maxRecDepth 100000 in
theorem impl_oFour.calls (a0 : Int) (r : List Int) (w : World) (h : impl_oFour.f a0 = some r) :
  Calls Try.prog 65 #[.int .i64 a0] w fun e w' => ∃ v0_ : Value, e = .returned (v0_) ∧ Kd.R (Kd.int .u8) 5 w' w.heap.size (fun _ => True) v0_ r ∧ Below w.heap.size w w' := by
 have HB := z1o.mk (Below.refl w.heap.size w)
 have H : (some (([(a0 / 16777216) % 256, (a0 / 65536) % 256, (a0 / 256) % 256, (a0) % 256] : List Int))) = some r := h
 clear h
 obtain ⟨y531, hy531⟩ : ∃ y_ : List Int, y_ = (([(a0 / 16777216) % 256, (a0 / 65536) % 256, (a0 / 256) % 256, (a0) % 256] : List Int)) := ⟨_, rfl⟩
 replace H : (some y531) = some r := by first | (rw [hy531]; with_reducible exact H) | (have H2_ := (uk _ _).symm.trans H; rw [hy531]; with_reducible exact H2_) | (have H2_ := (uk _ _).symm.trans H; with_reducible exact H2_) | with_reducible exact H | (rw [hy531]; exact H) | exact H
 have Ny531 := z1o.mk hy531
 clear hy531
 obtain rfl := Option.some.inj H
 go_enter Try.func65, Try.ntmps65
 go_wp2_with (first | ((with_reducible refine zq (N := 14) rfl ?_); refine Kd.R_lit (Kd.int .u8) _ 5 ?hg (N := 14) ?hd (xs := ([(a0 / 16777216) % 256, (a0 / 65536) % 256, (a0 / 256) % 256, (a0) % 256] : List Int)) (inner := [.int .u8 ((a0 / 16777216) % 256), .int .u8 ((a0 / 65536) % 256), .int .u8 ((a0 / 256) % 256), .int .u8 ((a0) % 256)]) (ok := fun _ => True) (okp := fun _ => True) ?hr ?hp (fun _ hk => hk) trivial (Below.refl _ _) (um _) (by simp) ?_; (case hd => rfl); (case hg => rfl); (case hr => first | (go_simp; done) | (go_simp; rfl)); (case hp => exact (Reps.one (show Kd.M (Kd.int .u8) _ _ _ ((a0 / 16777216) % 256) [.int .u8 ((a0 / 16777216) % 256)] from rfl) (Reps.one (show Kd.M (Kd.int .u8) _ _ _ ((a0 / 65536) % 256) [.int .u8 ((a0 / 65536) % 256)] from rfl) (Reps.one (show Kd.M (Kd.int .u8) _ _ _ ((a0 / 256) % 256) [.int .u8 ((a0 / 256) % 256)] from rfl) (Reps.one (show Kd.M (Kd.int .u8) _ _ _ ((a0) % 256) [.int .u8 ((a0) % 256)] from rfl) (Reps.none _ _)))))); intro v532 w2 ho3 hb hg_ hnew_; clear hg_ hnew_; (first | rw [← Ny531.out] at ho3 | (simp only [Int.reduceToNat] at ho3; rw [← Ny531.out] at ho3)); have n0_ := z1o.mk (Kd.R_lower ho3 (zc y0)); have n1_ := z1o.mk (za y0 hb); clear HB; have HO533 := n0_; have HB := n1_; clear n0_ n1_; clear hb ho3))
 go_ret
 exact ⟨_, by first | rfl | (simp [zm, zl] <;> rfl) | (simp [*, zm, zl] <;> rfl), by (with_reducible repeat (first | apply Kd.R_alloc | apply Kd.R_drewN | apply Kd.R_drew)); exact HO533.out, y0⟩
def impl_Sum32.l0 : Nat → Int → List Int → Int → Int → Option (Int)
 | 0, _, _, _, _ => none
 | k + 1, x3, x9, x10, x11 => if x11 < x10 then (if 0 ≤ x11 then (if x11 < (x9.length : Int) then (impl_Sum32.l0 k (((Go.bits .xor .u32 x3 ((rd x9 x11) % 4294967296)) * 16777619) % 4294967296) x9 x10 (wrap64 (x11 + 1))) else (none)) else (none)) else (some (wrap64 (x3)))
def impl_Sum32.f (k : Nat) (l0 : List Int) : Option (Int) := if (l0.length : Int) > 1048576 then (some 0) else (impl_Sum32.l0 k 2166136261 l0 (l0.length : Int) 0)
set_option maxHeartbeats 8000000 in
set_option maxRecDepth 100000 in
theorem impl_Sum32.calls (k : Nat) (A0 : Option Addr) (c0 : Nat) (l0 : List Int) (r : Int) (w : World) (hr0 : Kd.C (Kd.int .u8) w A0 l0.length l0) (hc0 : l0.length ≤ c0) (h : impl_Sum32.f k l0 = some r) :
  Calls Try.prog 66 #[.slice A0 l0.length c0] w fun e w' => e = .returned (.int .i64 r) ∧ Drawn0 w w' := by
 have HR0 := z1o.mk hr0
 have HC0 := z1o.mk hc0
 clear hr0 hc0
 have H : (if (l0.length : Int) > 1048576 then (some 0) else (impl_Sum32.l0 k 2166136261 l0 (l0.length : Int) 0)) = some r := h
 clear h
 by_cases c2 : (l0.length : Int) > 1048576
 ·rw [if_pos c2] at H
  have c2b0 : decide (1048576 < (l0.length : Int)) = true := decide_eq_true c2
  have c2b1 : decide (1048576 < l0.length) = true := decide_eq_true (by omega)
  clear c2
  obtain rfl := Option.some.inj H
  go_enter Try.func66, Try.ntmps66
  go_wp2
  go_ret
  exact ⟨by first | rfl | (simp; done) | (simp [*]; done), yb⟩
 ·rw [if_neg c2] at H
  have c2b0 : decide (1048576 < (l0.length : Int)) = false := decide_eq_false c2
  have c2b1 : decide (1048576 < l0.length) = false := decide_eq_false (by omega)
  clear c2
  have H' := z1o.mk H
  clear H
  go_enter Try.func66, Try.ntmps66
  go_wp2
  go_loopg [3, 11] k (fun kq v3 v11 w' => ∃ (x3_1 : Int) (x11_1 : Int), v3 = .int .u32 x3_1 ∧ v11 = .int .i64 x11_1 ∧ z1o (impl_Sum32.l0 kq x3_1 l0 (l0.length : Int) x11_1 = some r) ∧ z1o (kq ≤ k) ∧ Drawn0 w w')
  case atStart => exact ⟨(2166136261), (0), (by first | rfl | (simp; done) | (simp [*]; done)), (by first | rfl | (simp; done) | (simp [*]; done)), H', ⟨um _⟩, yb⟩
  case round =>
   clear H'
   try clear c2
   try clear c2b0
   try clear c2b1
   try clear p2
   obtain ⟨x3_1, x11_1, rfl, rfl, HA, HK1, ⟨m1, rfl⟩⟩ := hrel
   cases gk with
   | zero => exact absurd HA.out (by simp [impl_Sum32.l0])
   | succ k1 =>
    have H := HA.out
    clear HA
    simp only [impl_Sum32.l0] at H
    by_cases c3 : x11_1 < (l0.length : Int)
    ·rw [if_pos c3] at H
     have c3b0 : decide (x11_1 < (l0.length : Int)) = true := decide_eq_true c3
     clear c3
     by_cases c4 : 0 ≤ x11_1
     ·rw [if_pos c4] at H
      have c4b0 : decide (0 ≤ x11_1) = true := decide_eq_true c4
      clear c4
      by_cases c5 : x11_1 < (l0.length : Int)
      ·rw [if_pos c5] at H
       have c5b0 : decide (x11_1 < (l0.length : Int)) = true := decide_eq_true c5
       clear c5
       have H' := z1o.mk H
       clear H
       have p534 : 0 ≤ (x11_1 : Int) := of_decide_eq_true (by first | (with_reducible assumption) | assumption)
       have q534 : x11_1 < (l0.length : Int) := of_decide_eq_true (by first | (with_reducible assumption) | assumption)
       obtain ⟨ad534, e534, hx534_0⟩ := Kd.at_int HR0.out x11_1 p534 q534
       cases e534
       replace p534 := eq_true p534
       replace q534 := eq_true q534
       go_wp2
       go_roundg k1
       case measure => have := HK1.out; omega
       case rel => exact ⟨(((Go.bits .xor .u32 x3_1 ((rd l0 x11_1) % 4294967296)) * 16777619) % 4294967296), (wrap64 (x11_1 + 1)), (by first | rfl | (simp; done) | (simp [*]; done)), (by first | rfl | (simp; done) | (simp [*]; done)), H', ⟨by have := HK1.out; omega⟩, yb⟩
      ·rw [if_neg c5] at H
       exact absurd H (by simp)
     ·rw [if_neg c4] at H
      exact absurd H (by simp)
    ·rw [if_neg c3] at H
     have c3b0 : decide (x11_1 < (l0.length : Int)) = false := decide_eq_false c3
     clear c3
     obtain rfl := Option.some.inj H
     go_wp2
     go_ret
     exact ⟨by first | rfl | (simp; done) | (simp [*]; done), yb⟩
mutual
def z12.j0 : Nat → Bool → Int → Int → ByteArray → ByteArray → List (S84) → Option (List Int × Int)
 | 0, _, _, _, _, _, _ => none
 | k + 1, x18, x536000, x536001, x536002, x536003, x536004 => if x18 = true then (some (([] : List Int), 1)) else ((impl_PutInt.f k x536001).bind fun bt536 => ((some (([(x536000) % 256] : List Int) : List Int)).bind fun y540 => (if y540.length + bt536.1.length < 140737488355328 then ((some (y540 ++ bt536.1 : List Int)).bind fun y543 => (if x536000 = 1 then ((zz.f k x536003 x536004).bind fun bt546 => (if bt546.2 = 0 then ((z1g.f k x536003).bind fun t550 => (if t550 = true then (if x536002.toList = ([] : List UInt8) then (if y543.length + bt546.1.length < 140737488355328 then (z12.j1 k (y543 ++ bt546.1)) else (none)) else (some (([] : List Int), 1))) else (some (([] : List Int), 1)))) else (some (([] : List Int), 1)))) else (if x536000 = 2 then ((z1g.f k x536002).bind fun t554 => (if t554 = true then ((impl_oZeroDoc.f x536003 x536004).bind fun t555 => (if t555 = true then (if y543.length + x536002.size < 140737488355328 then (z12.j1 k (y543 ++ bytesOf x536002)) else (none)) else (some (([] : List Int), 1)))) else (some (([] : List Int), 1)))) else (some (([] : List Int), 1))))) else (none))))
def z12.j1 : Nat → List Int → Option (List Int × Int)
 | 0, _ => none
 | k + 1, x6 => (impl_PutInt.f k (x6.length : Int)).bind fun bt559 => (if (wrap64 ((wrap64 ((bt559.1.length : Int) + (x6.length : Int))) + 4)) > 1048576 then (some (([] : List Int), 2)) else (if bt559.1.length + x6.length < 140737488355328 then ((some (bt559.1 ++ x6 : List Int)).bind fun y563 => ((impl_Sum32.f k x6).bind fun t566 => ((impl_oFour.f t566).bind fun t567 => (if y563.length + t567.length < 140737488355328 then (some ((y563 ++ t567), 0)) else (none))))) else (none)))
end
def z12.f (k : Nat) (a0_0 : Int) (a0_1 : Int) (a0_2 : ByteArray) (a0_3 : ByteArray) (l0_4 : List (S84)) : Option (List Int × Int) := if a0_1 < 1 then (z12.j0 k true a0_0 a0_1 a0_2 a0_3 l0_4) else (z12.j0 k (decide (a0_1 > 4611686018427387903)) a0_0 a0_1 a0_2 a0_3 l0_4)
set_option maxHeartbeats 8000000 in
set_option maxRecDepth 100000 in
theorem z12.calls (k : Nat) (a0_0 : Int) (a0_1 : Int) (a0_2 : ByteArray) (a0_3 : ByteArray) (A0_4 : Option Addr) (c0_4 : Nat) (l0_4 : List (S84)) (r1 : List Int) (r2 : Int) (w : World) (hr0_4 : Kd.C k84 w A0_4 l0_4.length l0_4) (hc0_4 : l0_4.length ≤ c0_4) (h : z12.f k a0_0 a0_1 a0_2 a0_3 l0_4 = some (r1, r2)) :
  Calls Try.prog 25 #[.agg #[.int .i64 a0_0, .int .i64 a0_1, .string a0_2, .string a0_3, .slice A0_4 l0_4.length c0_4]] w fun e w' => ∃ v0_ : Value, e = .returned (.tuple #[v0_, .int .i64 r2]) ∧ Kd.R (Kd.int .u8) 5 w' w.heap.size (fun _ => True) v0_ r1 ∧ Below w.heap.size w w' := by
 have hu47 := Try.underlying47
 have hu31 := Try.underlying31
 have HR0_4 := z1o.mk hr0_4
 have HC0_4 := z1o.mk hc0_4
 clear hr0_4 hc0_4
 have HB := z1o.mk (Below.refl w.heap.size w)
 have H : (if a0_1 < 1 then (z12.j0 k true a0_0 a0_1 a0_2 a0_3 l0_4) else (z12.j0 k (decide (a0_1 > 4611686018427387903)) a0_0 a0_1 a0_2 a0_3 l0_4)) = some (r1, r2) := h
 clear h
 have HC2 := z1o.mk H
 clear H
 go_enter Try.func25, Try.ntmps25
 go_upto_region 1 with (first | ((with_reducible refine zq (N := 1) rfl ?_); refine zv ?hg (N := 1) ?hd (cs := #[.int .i64 a0_0, .int .i64 a0_1, .string a0_2, .string a0_3, .slice A0_4 l0_4.length c0_4]) (t := 47) ?hr ?_; (case hd => rfl); (case hg => rfl); (case hr => first | (go_simp; done) | (go_simp; rfl)); intro gb535 hg w3 hbox hb; have n0_ := z1o.mk (za y0 hb); have n1_ := z1o.mk (hbox); have n2_ := z1o.mk ((by rw [hg]; exact (zc y0) : w.heap.size ≤ gb535)); have n3_ := z1o.mk ((by rw [hg]; exact (zc y0) : w.heap.size ≤ gb535)); clear HB; have HB := n0_; have BK535 := n1_; have GW535 := n2_; have GE535 := n3_; clear n0_ n1_ n2_ n3_; clear hb hbox hg))
 (try simp only [Act.put, ub, uc, ud])
 go_cut [18] (fun v18 wc => ∃ (kq : Nat) (x18_1 : Bool), v18 = .bool x18_1 ∧ z1o (z12.j0 kq x18_1 a0_0 a0_1 a0_2 a0_3 l0_4 = some (r1, r2)) ∧ z1o (kq ≤ k) ∧ z1o (wc.heap[gb535]? = some (.cells #[.int .i64 a0_0, .int .i64 a0_1, .string a0_2, .string a0_3, (.slice A0_4 l0_4.length c0_4)] 47 (0, 0))) ∧ z1o (Below w.heap.size w wc))
 case first =>
  have H := HC2.out
  clear HC2
  by_cases c4 : a0_1 < 1
  ·rw [if_pos c4] at H
   have c4b0 : decide (a0_1 < 1) = true := decide_eq_true c4
   clear c4
   (first | rw [c4b0] | (simp only [zn, zo]; rw [c4b0]) | skip)
   have H' := z1o.mk H
   clear H
   obtain ⟨hcz5_0, hcz5_1, hcz5_2, hcz5_3, hcz5_4⟩ := cbk5 BK535.out
   obtain ⟨hfz5_0, hfz5_1, hfz5_2, hfz5_3, hfz5_4⟩ := cbf5 BK535.out
   go_wp2
   go_meet
   case rel => exact ⟨_, (true), (by first | rfl | (simp; done) | (simp [*]; done)), H', ⟨by first | omega | exact um _⟩, ⟨yn⟩, ⟨y4⟩⟩
  ·rw [if_neg c4] at H
   have c4b0 : decide (a0_1 < 1) = false := decide_eq_false c4
   clear c4
   (first | rw [c4b0] | (simp only [zn, zo]; rw [c4b0]) | skip)
   have H' := z1o.mk H
   clear H
   obtain ⟨hcz6_0, hcz6_1, hcz6_2, hcz6_3, hcz6_4⟩ := cbk5 BK535.out
   obtain ⟨hfz6_0, hfz6_1, hfz6_2, hfz6_3, hfz6_4⟩ := cbf5 BK535.out
   go_wp2
   go_meet
   case rel => exact ⟨_, (decide (a0_1 > 4611686018427387903)), (by first | rfl | (simp; done) | (simp [*]; done)), H', ⟨by first | omega | exact um _⟩, ⟨yn⟩, ⟨y4⟩⟩
 case rest =>
  clear HC2
  try clear c2
  try clear p2
  try clear c4
  try clear c4b0
  try clear hcz5_0
  try clear hcz5_1
  try clear hcz5_2
  try clear hcz5_3
  try clear hcz5_4
  try clear hcz6_0
  try clear hcz6_1
  try clear hcz6_2
  try clear hcz6_3
  try clear hcz6_4
  try clear hfz5_0
  try clear hfz5_1
  try clear hfz5_2
  try clear hfz5_3
  try clear hfz5_4
  try clear hfz6_0
  try clear hfz6_1
  try clear hfz6_2
  try clear hfz6_3
  try clear hfz6_4
  obtain ⟨kq, x18_1, rfl, HA, HJ1, BK535, HB⟩ := hcut
  cases kq with
  | zero => exact absurd HA.out (by simp [z12.j0])
  | succ kj1 =>
   have H := HA.out
   clear HA
   simp only [z12.j0] at H
   by_cases c7 : x18_1 = true
   ·subst c7
    have H1 : (some (([] : List Int), 1)) = some (r1, r2) := by rw [if_pos rfl] at H; exact H
    clear H
    have H := H1
    clear H1
    simp only [Option.some.injEq, Prod.mk.injEq] at H
    obtain ⟨rfl, rfl⟩ := H
    go_wp2
    go_ret2
    exact ⟨_, by first | rfl | (simp [zm, zl] <;> rfl) | (simp [*, zm, zl] <;> rfl), by first | exact Kd.R_nil _ _ _ _ _ | exact Kd.N_nil _ _ _ _ _ | exact Kd.V_nil _ _ _ _ _ | exact Kd.Q_nil _ _ _ _ _ | exact Kd.S_nil _ _ _ _ _, y4⟩
   ·replace c7 := Bool.eq_false_iff.mpr c7
    subst c7
    have H1 : ((impl_PutInt.f kj1 a0_1).bind fun bt536 => ((some (([(a0_0) % 256] : List Int) : List Int)).bind fun y540 => (if y540.length + bt536.1.length < 140737488355328 then ((some (y540 ++ bt536.1 : List Int)).bind fun y543 => (if a0_0 = 1 then ((zz.f kj1 a0_3 l0_4).bind fun bt546 => (if bt546.2 = 0 then ((z1g.f kj1 a0_3).bind fun t550 => (if t550 = true then (if a0_2.toList = ([] : List UInt8) then (if y543.length + bt546.1.length < 140737488355328 then (z12.j1 kj1 (y543 ++ bt546.1)) else (none)) else (some (([] : List Int), 1))) else (some (([] : List Int), 1)))) else (some (([] : List Int), 1)))) else (if a0_0 = 2 then ((z1g.f kj1 a0_2).bind fun t554 => (if t554 = true then ((impl_oZeroDoc.f a0_3 l0_4).bind fun t555 => (if t555 = true then (if y543.length + a0_2.size < 140737488355328 then (z12.j1 kj1 (y543 ++ bytesOf a0_2)) else (none)) else (some (([] : List Int), 1)))) else (some (([] : List Int), 1)))) else (some (([] : List Int), 1))))) else (none)))) = some (r1, r2) := by rw [if_neg (show ¬ (false = true) by decide)] at H; exact H
    clear H
    have H := H1
    clear H1
    replace H := ue.mp H
    obtain ⟨⟨t536, t537⟩, A80, H⟩ := H
    replace H : ((some (([(a0_0) % 256] : List Int) : List Int)).bind fun y540 => (if y540.length + t536.length < 140737488355328 then ((some (y540 ++ t536 : List Int)).bind fun y543 => (if a0_0 = 1 then ((zz.f kj1 a0_3 l0_4).bind fun bt546 => (if bt546.2 = 0 then ((z1g.f kj1 a0_3).bind fun t550 => (if t550 = true then (if a0_2.toList = ([] : List UInt8) then (if y543.length + bt546.1.length < 140737488355328 then (z12.j1 kj1 (y543 ++ bt546.1)) else (none)) else (some (([] : List Int), 1))) else (some (([] : List Int), 1)))) else (some (([] : List Int), 1)))) else (if a0_0 = 2 then ((z1g.f kj1 a0_2).bind fun t554 => (if t554 = true then ((impl_oZeroDoc.f a0_3 l0_4).bind fun t555 => (if t555 = true then (if y543.length + a0_2.size < 140737488355328 then (z12.j1 kj1 (y543 ++ bytesOf a0_2)) else (none)) else (some (([] : List Int), 1)))) else (some (([] : List Int), 1)))) else (some (([] : List Int), 1))))) else (none))) = some (r1, r2) := H
    have A8 := z1o.mk A80
    clear A80
    obtain ⟨y540, hy540⟩ : ∃ y_ : List Int, y_ = (([(a0_0) % 256] : List Int)) := ⟨_, rfl⟩
    replace H : (if y540.length + t536.length < 140737488355328 then ((some (y540 ++ t536 : List Int)).bind fun y543 => (if a0_0 = 1 then ((zz.f kj1 a0_3 l0_4).bind fun bt546 => (if bt546.2 = 0 then ((z1g.f kj1 a0_3).bind fun t550 => (if t550 = true then (if a0_2.toList = ([] : List UInt8) then (if y543.length + bt546.1.length < 140737488355328 then (z12.j1 kj1 (y543 ++ bt546.1)) else (none)) else (some (([] : List Int), 1))) else (some (([] : List Int), 1)))) else (some (([] : List Int), 1)))) else (if a0_0 = 2 then ((z1g.f kj1 a0_2).bind fun t554 => (if t554 = true then ((impl_oZeroDoc.f a0_3 l0_4).bind fun t555 => (if t555 = true then (if y543.length + a0_2.size < 140737488355328 then (z12.j1 kj1 (y543 ++ bytesOf a0_2)) else (none)) else (some (([] : List Int), 1)))) else (some (([] : List Int), 1)))) else (some (([] : List Int), 1))))) else (none)) = some (r1, r2) := by first | (rw [hy540]; with_reducible exact H) | (have H2_ := (uk _ _).symm.trans H; rw [hy540]; with_reducible exact H2_) | (have H2_ := (uk _ _).symm.trans H; with_reducible exact H2_) | with_reducible exact H | (rw [hy540]; exact H) | exact H
    have Ny540 := z1o.mk hy540
    clear hy540
    by_cases c9 : y540.length + t536.length < 140737488355328
    ·rw [if_pos c9] at H
     have LMc9 := z1o.mk c9
     clear c9
     obtain ⟨y543, hy543⟩ : ∃ y_ : List Int, y_ = (y540 ++ t536) := ⟨_, rfl⟩
     replace H : (if a0_0 = 1 then ((zz.f kj1 a0_3 l0_4).bind fun bt546 => (if bt546.2 = 0 then ((z1g.f kj1 a0_3).bind fun t550 => (if t550 = true then (if a0_2.toList = ([] : List UInt8) then (if y543.length + bt546.1.length < 140737488355328 then (z12.j1 kj1 (y543 ++ bt546.1)) else (none)) else (some (([] : List Int), 1))) else (some (([] : List Int), 1)))) else (some (([] : List Int), 1)))) else (if a0_0 = 2 then ((z1g.f kj1 a0_2).bind fun t554 => (if t554 = true then ((impl_oZeroDoc.f a0_3 l0_4).bind fun t555 => (if t555 = true then (if y543.length + a0_2.size < 140737488355328 then (z12.j1 kj1 (y543 ++ bytesOf a0_2)) else (none)) else (some (([] : List Int), 1)))) else (some (([] : List Int), 1)))) else (some (([] : List Int), 1)))) = some (r1, r2) := by first | (rw [hy543]; with_reducible exact H) | (have H2_ := (uk _ _).symm.trans H; rw [hy543]; with_reducible exact H2_) | (have H2_ := (uk _ _).symm.trans H; with_reducible exact H2_) | with_reducible exact H | (rw [hy543]; exact H) | exact H
     have Ny543 := z1o.mk hy543
     clear hy543
     have HC10 := z1o.mk H
     clear H
     obtain ⟨hcz11_0, hcz11_1, hcz11_2, hcz11_3, hcz11_4⟩ := cbk5 BK535.out
     obtain ⟨hfz11_0, hfz11_1, hfz11_2, hfz11_3, hfz11_4⟩ := cbf5 BK535.out
     go_upto_block 0 with (first | ((with_reducible refine zp (f := 62) rfl ?_); refine goesL_ (some 22) rfl rfl Try.func62 (by kernel_rfl) rfl #[.int .i64 a0_1] rfl (by (try simp only [uh, ui, uj]); first | done | rfl | (simp only [uf, ug]; rfl)) ?_; (with_reducible refine (impl_PutInt.calls kj1 a0_1 t536 t537 _ A8.out).mono ?_); rintro e w12 ⟨v538, rfl, ho0, hb⟩; refine ⟨_, rfl, ?_⟩; have n0_ := z1o.mk (Kd.R_lower ho0 (zc y4)); have n1_ := z1o.mk (zb (g := gb535) (o := .cells #[.int .i64 a0_0, .int .i64 a0_1, .string a0_2, .string a0_3, .slice A0_4 l0_4.length c0_4] 47 (0, 0)) yn hb); have n2_ := z1o.mk (za y4 hb); clear BK535; clear HB; have HO539 := n0_; have BK535 := n1_; have HB := n2_; clear n0_ n1_ n2_; (try clear hb); (try clear hb2); (try clear hk); (try clear hi); (try clear ho0); obtain ⟨hcz13_0, hcz13_1, hcz13_2, hcz13_3, hcz13_4⟩ := cbk5 BK535.out; obtain ⟨hfz13_0, hfz13_1, hfz13_2, hfz13_3, hfz13_4⟩ := cbf5 BK535.out) | ((with_reducible refine zq (N := 28) rfl ?_); refine Kd.R_lit (Kd.int .u8) _ 5 ?hg (N := 28) ?hd (xs := ([(a0_0) % 256] : List Int)) (inner := [.int .u8 ((a0_0) % 256)]) (ok := fun _ => True) (okp := fun _ => True) ?hr ?hp (fun _ hk => hk) trivial (Below.refl _ _) (um _) (by simp) ?_; (case hd => rfl); (case hg => rfl); (case hr => first | (go_simp; done) | (go_simp; rfl)); (case hp => exact (Reps.one (show Kd.M (Kd.int .u8) _ _ _ ((a0_0) % 256) [.int .u8 ((a0_0) % 256)] from rfl) (Reps.none _ _))); intro v541 w14 ho15 hb hg_ hnew_; clear hg_ hnew_; (first | rw [← Ny540.out] at ho15 | (simp only [Int.reduceToNat] at ho15; rw [← Ny540.out] at ho15)); have n0_ := z1o.mk (Kd.R_elder' y12 (Kd.R_base ho15) hb); have n1_ := z1o.mk (Kd.R_lower (Kd.R_new' ho15 (Kd.R_lt y12)) (zc y4)); have n2_ := z1o.mk (zb (g := gb535) (o := .cells #[.int .i64 a0_0, .int .i64 a0_1, .string a0_2, .string a0_3, .slice A0_4 l0_4.length c0_4] 47 (0, 0)) yn hb); have n3_ := z1o.mk (za y4 hb); clear HO539; clear BK535; clear HB; have HO539 := n0_; have HO542 := n1_; have BK535 := n2_; have HB := n3_; clear n0_ n1_ n2_ n3_; clear hb ho15; obtain ⟨Ao17, co17, eo17⟩ := Kd.R_slice HO539.out; subst eo17) | ((with_reducible refine zr (b := .append) (xs := #[.tmp 28, .tmp 29]) rfl ?_); at_builtin; refine Kd.R_append_rows (Kd.int .u8) (w0 := w) w.heap.size rfl (.tmp 28) (.tmp 29) 26 5 (.int .u8 0) 1 rfl Try.underlying26 info5 rfl (by decide) (by omega) v541 y540 t536 _ _ _ (fun k_ => some k_ ≠ (.slice Ao17 t536.length co17 : Value).ownBlock) (fun _ => False) rfl rfl ?aO ?aR (fun _ _ h => h) (fun _ h => h.elim) ?aF ?aB ?aS ?aL ?_; (case aR => repeat (first | exact (Kd.R_reads' HO539.out).2.2 | (with_reducible refine Kd.C_alloc ?_ _) | (with_reducible refine Kd.C_drewN ?_ _) | (with_reducible refine Kd.C_drew ?_))); (case aB => exact y4); (case aF => exact (fun k_ hk => Kd.fresh' (Kd.R_lt y12) k_ hk)); (case aO => exact (by (with_reducible repeat (first | apply Kd.R_alloc | apply Kd.R_drewN | apply Kd.R_drew)); exact Kd.R_mono HO542.out (fun _ hk => hk.2))); (case aS => exact (zc y4)); (case aL => have := LMc9.out; omega); intro v544 w16 ho hb hg hat; rw [← Ny543.out] at ho; have n0_ := z1o.mk (zf (g := gb535) (o := .cells #[.int .i64 a0_0, .int .i64 a0_1, .string a0_2, .string a0_3, .slice A0_4 l0_4.length c0_4] 47 (0, 0)) yn hg (Kd.R_ne HO542.out BK535.out (by decide))); have n1_ := z1o.mk (Kd.R_after (ok := (fun _ => True)) y12 hg hat); have n2_ := z1o.mk (hb); have n3_ := z1o.mk (ho); clear BK535; clear HO539; clear HB; clear HO542; have BK535 := n0_; have HO539 := n1_; have HB := n2_; have HO545 := n3_; clear n0_ n1_ n2_ n3_; clear ho hb hg hat; obtain ⟨hcz18_0, hcz18_1, hcz18_2, hcz18_3, hcz18_4⟩ := cbk5 BK535.out; obtain ⟨hfz18_0, hfz18_1, hfz18_2, hfz18_3, hfz18_4⟩ := cbf5 BK535.out))
     (try simp only [Act.put, ub, uc, ud])
     go_cut [6] (fun v6 wc => ∃ (kq : Nat) (x6_9 : List Int), z1o (z12.j1 kq x6_9 = some (r1, r2)) ∧ z1o (kq ≤ kj1) ∧ z1o (Kd.R (Kd.int .u8) 5 wc w.heap.size (fun _ => True) v6 x6_9) ∧ z1o (wc.heap[gb535]? = some (.cells #[.int .i64 a0_0, .int .i64 a0_1, .string a0_2, .string a0_3, (.slice A0_4 l0_4.length c0_4)] 47 (0, 0))) ∧ z1o (Below w.heap.size w wc))
     case first =>
      have H := HC10.out
      clear HC10
      by_cases c19 : a0_0 = 1
      ·rw [if_pos c19] at H
       have c19b0 : (a0_0 == 1) = true := beq_iff_eq.mpr c19
       have c19b1 : (a0_0 != 1) = false := bne_eq_false_iff_eq.mpr c19
       clear c19
       (first | rw [c19b0] | (simp only [zn, zo]; rw [c19b0]) | skip)
       replace H := ue.mp H
       obtain ⟨⟨t546, t549⟩, A200, H⟩ := H
       replace H : (if t549 = 0 then ((z1g.f kj1 a0_3).bind fun t550 => (if t550 = true then (if a0_2.toList = ([] : List UInt8) then (if y543.length + t546.length < 140737488355328 then (z12.j1 kj1 (y543 ++ t546)) else (none)) else (some (([] : List Int), 1))) else (some (([] : List Int), 1)))) else (some (([] : List Int), 1))) = some (r1, r2) := H
       have A20 := z1o.mk A200
       clear A200
       by_cases c21 : t549 = 0
       ·rw [if_pos c21] at H
        have c21b0 : (t549 == 0) = true := beq_iff_eq.mpr c21
        have c21b1 : (t549 != 0) = false := bne_eq_false_iff_eq.mpr c21
        clear c21
        replace H := ue.mp H
        obtain ⟨t550, A220, H⟩ := H
        replace H : (if t550 = true then (if a0_2.toList = ([] : List UInt8) then (if y543.length + t546.length < 140737488355328 then (z12.j1 kj1 (y543 ++ t546)) else (none)) else (some (([] : List Int), 1))) else (some (([] : List Int), 1))) = some (r1, r2) := H
        have A22 := z1o.mk A220
        clear A220
        by_cases c23 : t550 = true
        ·subst c23
         have H1 : (if a0_2.toList = ([] : List UInt8) then (if y543.length + t546.length < 140737488355328 then (z12.j1 kj1 (y543 ++ t546)) else (none)) else (some (([] : List Int), 1))) = some (r1, r2) := by rw [if_pos rfl] at H; exact H
         clear H
         have H := H1
         clear H1
         by_cases c24 : a0_2.toList = ([] : List UInt8)
         ·rw [if_pos c24] at H
          have c24b0 : (a0_2.toList == ([] : List UInt8)) = true := beq_iff_eq.mpr c24
          have c24b1 : (a0_2.toList != ([] : List UInt8)) = false := bne_eq_false_iff_eq.mpr c24
          clear c24
          by_cases c25 : y543.length + t546.length < 140737488355328
          ·rw [if_pos c25] at H
           have LMc25 := z1o.mk c25
           clear c25
           obtain ⟨y551, hy551⟩ : ∃ y_ : List Int, y_ = (y543 ++ t546) := ⟨_, rfl⟩
           replace H : (z12.j1 kj1 y551) = some (r1, r2) := by first | (rw [hy551]; with_reducible exact H) | (have H2_ := (uk _ _).symm.trans H; rw [hy551]; with_reducible exact H2_) | (have H2_ := (uk _ _).symm.trans H; with_reducible exact H2_) | with_reducible exact H | (rw [hy551]; exact H) | exact H
           have Ny551 := z1o.mk hy551
           clear hy551
           have H' := z1o.mk H
           clear H
           obtain ⟨hcz26_0, hcz26_1, hcz26_2, hcz26_3, hcz26_4⟩ := cbk5 BK535.out
           obtain ⟨hfz26_0, hfz26_1, hfz26_2, hfz26_3, hfz26_4⟩ := cbf5 BK535.out
           go_wp2_with (first | ((with_reducible refine zp (f := 12) rfl ?_); refine goesL_ (some 38) rfl rfl Try.func12 (by kernel_rfl) rfl #[.agg #[.string a0_3, .slice A0_4 l0_4.length c0_4]] rfl (by (try simp only [uh, ui, uj]); first | done | rfl | (simp only [uf, ug]; rfl)) ?_; (with_reducible refine (zz.calls kj1 a0_3 _ _ l0_4 t546 t549 _ ?side1 ?side2 A20.out).mono ?_); (case side1 => exact y1j); (case side2 => exact HC0_4.out); rintro e w27 ⟨v547, rfl, ho0, hb⟩; refine ⟨_, rfl, ?_⟩; have n0_ := z1o.mk (Kd.R_elder' y12 (Kd.R_base ho0) hb); have n1_ := z1o.mk (Kd.R_elder' y1i (Kd.R_base ho0) hb); have n2_ := z1o.mk (Kd.R_lower (Kd.R_new' (Kd.R_new' ho0 (Kd.R_lt y12)) (Kd.R_lt y1i)) (zc y4)); have n3_ := z1o.mk (zb (g := gb535) (o := .cells #[.int .i64 a0_0, .int .i64 a0_1, .string a0_2, .string a0_3, .slice A0_4 l0_4.length c0_4] 47 (0, 0)) yn hb); have n4_ := z1o.mk (za y4 hb); clear HO539; clear HO545; clear BK535; clear HB; have HO539 := n0_; have HO545 := n1_; have HO548 := n2_; have BK535 := n3_; have HB := n4_; clear n0_ n1_ n2_ n3_ n4_; (try clear hb); (try clear hb2); (try clear hk); (try clear hi); (try clear ho0); obtain ⟨hcz28_0, hcz28_1, hcz28_2, hcz28_3, hcz28_4⟩ := cbk5 BK535.out; obtain ⟨hfz28_0, hfz28_1, hfz28_2, hfz28_3, hfz28_4⟩ := cbf5 BK535.out) | (go_at_call 63; (with_reducible refine (z1g.calls kj1 a0_3 true _ A22.out).mono ?_); rintro e w' ⟨rfl, ⟨nd, rfl⟩⟩; obtain ⟨Ao30, co30, eo30⟩ := Kd.R_slice HO548.out; subst eo30) | ((with_reducible refine zr (b := .append) (xs := #[.tmp 55, .tmp 56]) rfl ?_); at_builtin; refine Kd.R_append_rows (Kd.int .u8) (w0 := w) w.heap.size rfl (.tmp 55) (.tmp 56) 26 5 (.int .u8 0) 1 rfl Try.underlying26 info5 rfl (by decide) (by omega) v544 y543 t546 _ _ _ (fun k_ => some k_ ≠ (.slice Ao17 t536.length co17 : Value).ownBlock ∧ some k_ ≠ (.slice Ao30 t546.length co30 : Value).ownBlock) (fun _ => False) rfl rfl ?aO ?aR (fun _ _ h => h) (fun _ h => h.elim) ?aF ?aB ?aS ?aL ?_; (case aR => repeat (first | exact (Kd.R_reads' HO548.out).2.2 | (with_reducible refine Kd.C_alloc ?_ _) | (with_reducible refine Kd.C_drewN ?_ _) | (with_reducible refine Kd.C_drew ?_))); (case aB => exact y4); (case aF => exact (fun k_ hk => ⟨Kd.fresh' (Kd.R_lt y12) k_ hk, Kd.fresh' (Kd.R_lt (by (with_reducible repeat (first | apply Kd.R_alloc | apply Kd.R_drewN | apply Kd.R_drew)); exact HO548.out)) k_ hk⟩)); (case aO => exact y1i); (case aS => exact (zc y4)); (case aL => have := LMc25.out; omega); intro v552 w29 ho hb hg hat; rw [← Ny551.out] at ho; have n0_ := z1o.mk (zf (g := gb535) (o := .cells #[.int .i64 a0_0, .int .i64 a0_1, .string a0_2, .string a0_3, .slice A0_4 l0_4.length c0_4] 47 (0, 0)) yn hg (Kd.R_ne HO545.out BK535.out (by decide))); have n1_ := z1o.mk (Kd.R_after (ok := (fun k_ => some k_ ≠ (.slice Ao30 t546.length co30 : Value).ownBlock)) (by (with_reducible repeat (first | apply Kd.R_alloc | apply Kd.R_drewN | apply Kd.R_drew)); exact Kd.R_mono HO539.out (fun _ hk => ⟨hk.2, hk.1.2⟩)) hg hat); have n2_ := z1o.mk (Kd.R_after (ok := (fun k_ => some k_ ≠ (.slice Ao17 t536.length co17 : Value).ownBlock)) (by (with_reducible repeat (first | apply Kd.R_alloc | apply Kd.R_drewN | apply Kd.R_drew)); exact Kd.R_mono HO548.out (fun _ hk => ⟨hk.1.2, hk.2⟩)) hg hat); have n3_ := z1o.mk (hb); have n4_ := z1o.mk (ho); clear BK535; clear HO539; clear HO548; clear HB; clear HO545; have BK535 := n0_; have HO539 := n1_; have HO548 := n2_; have HB := n3_; have HO553 := n4_; clear n0_ n1_ n2_ n3_ n4_; clear ho hb hg hat))
           go_meet
           case rel => exact ⟨_, (y551), H', ⟨by have := HJ1.out; first | omega | exact um _⟩, ⟨by (with_reducible repeat (first | apply Kd.R_alloc | apply Kd.R_drewN | apply Kd.R_drew)); exact Kd.R_mono HO553.out (fun _ hk => trivial)⟩, ⟨yn⟩, ⟨y4⟩⟩
          ·rw [if_neg c25] at H
           exact absurd H (by simp)
         ·rw [if_neg c24] at H
          have c24b0 : (a0_2.toList == ([] : List UInt8)) = false := beq_eq_false_iff_ne.mpr c24
          have c24b1 : (a0_2.toList != ([] : List UInt8)) = true := bne_iff_ne.mpr c24
          simp only [Option.some.injEq, Prod.mk.injEq] at H
          obtain ⟨rfl, rfl⟩ := H
          obtain ⟨hcz31_0, hcz31_1, hcz31_2, hcz31_3, hcz31_4⟩ := cbk5 BK535.out
          obtain ⟨hfz31_0, hfz31_1, hfz31_2, hfz31_3, hfz31_4⟩ := cbf5 BK535.out
          go_wp2_with (first | ((with_reducible refine zp (f := 12) rfl ?_); refine goesL_ (some 38) rfl rfl Try.func12 (by kernel_rfl) rfl #[.agg #[.string a0_3, .slice A0_4 l0_4.length c0_4]] rfl (by (try simp only [uh, ui, uj]); first | done | rfl | (simp only [uf, ug]; rfl)) ?_; (with_reducible refine (zz.calls kj1 a0_3 _ _ l0_4 t546 t549 _ ?side1 ?side2 A20.out).mono ?_); (case side1 => exact y1j); (case side2 => exact HC0_4.out); rintro e w32 ⟨v547, rfl, ho0, hb⟩; refine ⟨_, rfl, ?_⟩; have n0_ := z1o.mk (Kd.R_elder' y12 (Kd.R_base ho0) hb); have n1_ := z1o.mk (Kd.R_elder' y1i (Kd.R_base ho0) hb); have n2_ := z1o.mk (Kd.R_lower (Kd.R_new' (Kd.R_new' ho0 (Kd.R_lt y12)) (Kd.R_lt y1i)) (zc y4)); have n3_ := z1o.mk (zb (g := gb535) (o := .cells #[.int .i64 a0_0, .int .i64 a0_1, .string a0_2, .string a0_3, .slice A0_4 l0_4.length c0_4] 47 (0, 0)) yn hb); have n4_ := z1o.mk (za y4 hb); clear HO539; clear HO545; clear BK535; clear HB; have HO539 := n0_; have HO545 := n1_; have HO548 := n2_; have BK535 := n3_; have HB := n4_; clear n0_ n1_ n2_ n3_ n4_; (try clear hb); (try clear hb2); (try clear hk); (try clear hi); (try clear ho0); obtain ⟨hcz33_0, hcz33_1, hcz33_2, hcz33_3, hcz33_4⟩ := cbk5 BK535.out; obtain ⟨hfz33_0, hfz33_1, hfz33_2, hfz33_3, hfz33_4⟩ := cbf5 BK535.out) | (go_at_call 63; (with_reducible refine (z1g.calls kj1 a0_3 true _ A22.out).mono ?_); rintro e w' ⟨rfl, ⟨nd, rfl⟩⟩))
          go_ret2
          exact ⟨_, by first | rfl | (simp [zm, zl] <;> rfl) | (simp [*, zm, zl] <;> rfl), by first | exact Kd.R_nil _ _ _ _ _ | exact Kd.N_nil _ _ _ _ _ | exact Kd.V_nil _ _ _ _ _ | exact Kd.Q_nil _ _ _ _ _ | exact Kd.S_nil _ _ _ _ _, y4⟩
        ·replace c23 := Bool.eq_false_iff.mpr c23
         subst c23
         have H1 : (some (([] : List Int), 1)) = some (r1, r2) := by rw [if_neg (show ¬ (false = true) by decide)] at H; exact H
         clear H
         have H := H1
         clear H1
         simp only [Option.some.injEq, Prod.mk.injEq] at H
         obtain ⟨rfl, rfl⟩ := H
         obtain ⟨hcz34_0, hcz34_1, hcz34_2, hcz34_3, hcz34_4⟩ := cbk5 BK535.out
         obtain ⟨hfz34_0, hfz34_1, hfz34_2, hfz34_3, hfz34_4⟩ := cbf5 BK535.out
         go_wp2_with (first | ((with_reducible refine zp (f := 12) rfl ?_); refine goesL_ (some 38) rfl rfl Try.func12 (by kernel_rfl) rfl #[.agg #[.string a0_3, .slice A0_4 l0_4.length c0_4]] rfl (by (try simp only [uh, ui, uj]); first | done | rfl | (simp only [uf, ug]; rfl)) ?_; (with_reducible refine (zz.calls kj1 a0_3 _ _ l0_4 t546 t549 _ ?side1 ?side2 A20.out).mono ?_); (case side1 => exact y1j); (case side2 => exact HC0_4.out); rintro e w35 ⟨v547, rfl, ho0, hb⟩; refine ⟨_, rfl, ?_⟩; have n0_ := z1o.mk (Kd.R_elder' y12 (Kd.R_base ho0) hb); have n1_ := z1o.mk (Kd.R_elder' y1i (Kd.R_base ho0) hb); have n2_ := z1o.mk (Kd.R_lower (Kd.R_new' (Kd.R_new' ho0 (Kd.R_lt y12)) (Kd.R_lt y1i)) (zc y4)); have n3_ := z1o.mk (zb (g := gb535) (o := .cells #[.int .i64 a0_0, .int .i64 a0_1, .string a0_2, .string a0_3, .slice A0_4 l0_4.length c0_4] 47 (0, 0)) yn hb); have n4_ := z1o.mk (za y4 hb); clear HO539; clear HO545; clear BK535; clear HB; have HO539 := n0_; have HO545 := n1_; have HO548 := n2_; have BK535 := n3_; have HB := n4_; clear n0_ n1_ n2_ n3_ n4_; (try clear hb); (try clear hb2); (try clear hk); (try clear hi); (try clear ho0); obtain ⟨hcz36_0, hcz36_1, hcz36_2, hcz36_3, hcz36_4⟩ := cbk5 BK535.out; obtain ⟨hfz36_0, hfz36_1, hfz36_2, hfz36_3, hfz36_4⟩ := cbf5 BK535.out) | (go_at_call 63; (with_reducible refine (z1g.calls kj1 a0_3 false _ A22.out).mono ?_); rintro e w' ⟨rfl, ⟨nd, rfl⟩⟩))
         go_ret2
         exact ⟨_, by first | rfl | (simp [zm, zl] <;> rfl) | (simp [*, zm, zl] <;> rfl), by first | exact Kd.R_nil _ _ _ _ _ | exact Kd.N_nil _ _ _ _ _ | exact Kd.V_nil _ _ _ _ _ | exact Kd.Q_nil _ _ _ _ _ | exact Kd.S_nil _ _ _ _ _, y4⟩
       ·rw [if_neg c21] at H
        have c21b0 : (t549 == 0) = false := beq_eq_false_iff_ne.mpr c21
        have c21b1 : (t549 != 0) = true := bne_iff_ne.mpr c21
        simp only [Option.some.injEq, Prod.mk.injEq] at H
        obtain ⟨rfl, rfl⟩ := H
        obtain ⟨hcz37_0, hcz37_1, hcz37_2, hcz37_3, hcz37_4⟩ := cbk5 BK535.out
        obtain ⟨hfz37_0, hfz37_1, hfz37_2, hfz37_3, hfz37_4⟩ := cbf5 BK535.out
        go_wp2_with (first | ((with_reducible refine zp (f := 12) rfl ?_); refine goesL_ (some 38) rfl rfl Try.func12 (by kernel_rfl) rfl #[.agg #[.string a0_3, .slice A0_4 l0_4.length c0_4]] rfl (by (try simp only [uh, ui, uj]); first | done | rfl | (simp only [uf, ug]; rfl)) ?_; (with_reducible refine (zz.calls kj1 a0_3 _ _ l0_4 t546 t549 _ ?side1 ?side2 A20.out).mono ?_); (case side1 => exact y1j); (case side2 => exact HC0_4.out); rintro e w38 ⟨v547, rfl, ho0, hb⟩; refine ⟨_, rfl, ?_⟩; have n0_ := z1o.mk (Kd.R_elder' y12 (Kd.R_base ho0) hb); have n1_ := z1o.mk (Kd.R_elder' y1i (Kd.R_base ho0) hb); have n2_ := z1o.mk (Kd.R_lower (Kd.R_new' (Kd.R_new' ho0 (Kd.R_lt y12)) (Kd.R_lt y1i)) (zc y4)); have n3_ := z1o.mk (zb (g := gb535) (o := .cells #[.int .i64 a0_0, .int .i64 a0_1, .string a0_2, .string a0_3, .slice A0_4 l0_4.length c0_4] 47 (0, 0)) yn hb); have n4_ := z1o.mk (za y4 hb); clear HO539; clear HO545; clear BK535; clear HB; have HO539 := n0_; have HO545 := n1_; have HO548 := n2_; have BK535 := n3_; have HB := n4_; clear n0_ n1_ n2_ n3_ n4_; (try clear hb); (try clear hb2); (try clear hk); (try clear hi); (try clear ho0)))
        go_ret2
        exact ⟨_, by first | rfl | (simp [zm, zl] <;> rfl) | (simp [*, zm, zl] <;> rfl), by first | exact Kd.R_nil _ _ _ _ _ | exact Kd.N_nil _ _ _ _ _ | exact Kd.V_nil _ _ _ _ _ | exact Kd.Q_nil _ _ _ _ _ | exact Kd.S_nil _ _ _ _ _, y4⟩
      ·rw [if_neg c19] at H
       have c19b0 : (a0_0 == 1) = false := beq_eq_false_iff_ne.mpr c19
       have c19b1 : (a0_0 != 1) = true := bne_iff_ne.mpr c19
       (first | rw [c19b0] | (simp only [zn, zo]; rw [c19b0]) | skip)
       by_cases c39 : a0_0 = 2
       ·rw [if_pos c39] at H
        have c39b0 : (a0_0 == 2) = true := beq_iff_eq.mpr c39
        have c39b1 : (a0_0 != 2) = false := bne_eq_false_iff_eq.mpr c39
        clear c39
        replace H := ue.mp H
        obtain ⟨t554, A400, H⟩ := H
        replace H : (if t554 = true then ((impl_oZeroDoc.f a0_3 l0_4).bind fun t555 => (if t555 = true then (if y543.length + a0_2.size < 140737488355328 then (z12.j1 kj1 (y543 ++ bytesOf a0_2)) else (none)) else (some (([] : List Int), 1)))) else (some (([] : List Int), 1))) = some (r1, r2) := H
        have A40 := z1o.mk A400
        clear A400
        by_cases c41 : t554 = true
        ·subst c41
         have H1 : ((impl_oZeroDoc.f a0_3 l0_4).bind fun t555 => (if t555 = true then (if y543.length + a0_2.size < 140737488355328 then (z12.j1 kj1 (y543 ++ bytesOf a0_2)) else (none)) else (some (([] : List Int), 1)))) = some (r1, r2) := by rw [if_pos rfl] at H; exact H
         clear H
         have H := H1
         clear H1
         replace H := ue.mp H
         obtain ⟨t555, A420, H⟩ := H
         replace H : (if t555 = true then (if y543.length + a0_2.size < 140737488355328 then (z12.j1 kj1 (y543 ++ bytesOf a0_2)) else (none)) else (some (([] : List Int), 1))) = some (r1, r2) := H
         have A42 := z1o.mk A420
         clear A420
         by_cases c43 : t555 = true
         ·subst c43
          have H1 : (if y543.length + a0_2.size < 140737488355328 then (z12.j1 kj1 (y543 ++ bytesOf a0_2)) else (none)) = some (r1, r2) := by rw [if_pos rfl] at H; exact H
          clear H
          have H := H1
          clear H1
          by_cases c44 : y543.length + a0_2.size < 140737488355328
          ·rw [if_pos c44] at H
           have LMc44 := z1o.mk c44
           clear c44
           obtain ⟨y556, hy556⟩ : ∃ y_ : List Int, y_ = (y543 ++ bytesOf a0_2) := ⟨_, rfl⟩
           replace H : (z12.j1 kj1 y556) = some (r1, r2) := by first | (rw [hy556]; with_reducible exact H) | (have H2_ := (uk _ _).symm.trans H; rw [hy556]; with_reducible exact H2_) | (have H2_ := (uk _ _).symm.trans H; with_reducible exact H2_) | with_reducible exact H | (rw [hy556]; exact H) | exact H
           have Ny556 := z1o.mk hy556
           clear hy556
           have H' := z1o.mk H
           clear H
           obtain ⟨hcz45_0, hcz45_1, hcz45_2, hcz45_3, hcz45_4⟩ := cbk5 BK535.out
           obtain ⟨hfz45_0, hfz45_1, hfz45_2, hfz45_3, hfz45_4⟩ := cbf5 BK535.out
           go_wp2_with (first | ((with_reducible refine zp (f := 63) rfl ?_); refine goesL_ (some 62) rfl rfl Try.func63 (by kernel_rfl) rfl #[.string a0_2] rfl (by (try simp only [uh, ui, uj]); first | done | rfl | (simp only [uf, ug]; rfl)) ?_; (with_reducible refine (z1g.calls kj1 a0_2 true _ A40.out).mono ?_); rintro e w' ⟨rfl, ⟨nd, rfl⟩⟩; refine ⟨_, rfl, ?_⟩) | (go_at_call 64; (with_reducible refine (impl_oZeroDoc.calls a0_3 _ _ l0_4 true _ ?side1 ?side2 A42.out).mono ?_); (case side1 => repeat (first | exact (Kd.C_below HR0_4.out y4) | (with_reducible refine Kd.C_alloc ?_ _) | (with_reducible refine Kd.C_drewN ?_ _) | (with_reducible refine Kd.C_drew ?_))); (case side2 => exact HC0_4.out); rintro e w46 ⟨rfl, hb⟩; have n0_ := z1o.mk (Kd.R_below y12 hb); have n1_ := z1o.mk (Kd.R_below y1i hb); have n2_ := z1o.mk (zb (g := gb535) (o := .cells #[.int .i64 a0_0, .int .i64 a0_1, .string a0_2, .string a0_3, .slice A0_4 l0_4.length c0_4] 47 (0, 0)) yn hb); have n3_ := z1o.mk (za y4 hb); clear HO539; clear HO545; clear BK535; clear HB; have HO539 := n0_; have HO545 := n1_; have BK535 := n2_; have HB := n3_; clear n0_ n1_ n2_ n3_; (try clear hb); (try clear hb2); (try clear hk); (try clear hi); obtain ⟨hcz47_0, hcz47_1, hcz47_2, hcz47_3, hcz47_4⟩ := cbk5 BK535.out; obtain ⟨hfz47_0, hfz47_1, hfz47_2, hfz47_3, hfz47_4⟩ := cbf5 BK535.out) | ((with_reducible refine zr (b := .append) (xs := #[.tmp 70, .tmp 72]) rfl ?_); at_builtin; refine Kd.R_append_str (w0 := w) w.heap.size rfl (.tmp 70) (.tmp 72) 26 9 5 rfl Try.underlying26 Try.underlying9 info5 v544 y543 a0_2 (fun k_ => some k_ ≠ (.slice Ao17 t536.length co17 : Value).ownBlock) rfl rfl ?aF ?aO ?aB ?aS ?aL ?_; (case aB => exact y4); (case aF => exact (fun k_ hk => Kd.fresh' (Kd.R_lt y12) k_ hk)); (case aO => exact y1i); (case aS => exact (zc y4)); (case aL => have := LMc44.out; omega); intro v557 w48 ho hb hg hat; rw [← Ny556.out] at ho; have n0_ := z1o.mk (zf (g := gb535) (o := .cells #[.int .i64 a0_0, .int .i64 a0_1, .string a0_2, .string a0_3, .slice A0_4 l0_4.length c0_4] 47 (0, 0)) yn hg (Kd.R_ne HO545.out BK535.out (by decide))); have n1_ := z1o.mk (Kd.R_after (ok := (fun _ => True)) y12 hg hat); have n2_ := z1o.mk (hb); have n3_ := z1o.mk (ho); clear BK535; clear HO539; clear HB; clear HO545; have BK535 := n0_; have HO539 := n1_; have HB := n2_; have HO558 := n3_; clear n0_ n1_ n2_ n3_; clear ho hb hg hat))
           go_meet
           case rel => exact ⟨_, (y556), H', ⟨by have := HJ1.out; first | omega | exact um _⟩, ⟨by (with_reducible repeat (first | apply Kd.R_alloc | apply Kd.R_drewN | apply Kd.R_drew)); exact Kd.R_mono HO558.out (fun _ hk => trivial)⟩, ⟨yn⟩, ⟨y4⟩⟩
          ·rw [if_neg c44] at H
           exact absurd H (by simp)
         ·replace c43 := Bool.eq_false_iff.mpr c43
          subst c43
          have H1 : (some (([] : List Int), 1)) = some (r1, r2) := by rw [if_neg (show ¬ (false = true) by decide)] at H; exact H
          clear H
          have H := H1
          clear H1
          simp only [Option.some.injEq, Prod.mk.injEq] at H
          obtain ⟨rfl, rfl⟩ := H
          obtain ⟨hcz49_0, hcz49_1, hcz49_2, hcz49_3, hcz49_4⟩ := cbk5 BK535.out
          obtain ⟨hfz49_0, hfz49_1, hfz49_2, hfz49_3, hfz49_4⟩ := cbf5 BK535.out
          go_wp2_with (first | ((with_reducible refine zp (f := 63) rfl ?_); refine goesL_ (some 62) rfl rfl Try.func63 (by kernel_rfl) rfl #[.string a0_2] rfl (by (try simp only [uh, ui, uj]); first | done | rfl | (simp only [uf, ug]; rfl)) ?_; (with_reducible refine (z1g.calls kj1 a0_2 true _ A40.out).mono ?_); rintro e w' ⟨rfl, ⟨nd, rfl⟩⟩; refine ⟨_, rfl, ?_⟩) | (go_at_call 64; (with_reducible refine (impl_oZeroDoc.calls a0_3 _ _ l0_4 false _ ?side1 ?side2 A42.out).mono ?_); (case side1 => repeat (first | exact (Kd.C_below HR0_4.out y4) | (with_reducible refine Kd.C_alloc ?_ _) | (with_reducible refine Kd.C_drewN ?_ _) | (with_reducible refine Kd.C_drew ?_))); (case side2 => exact HC0_4.out); rintro e w50 ⟨rfl, hb⟩; have n0_ := z1o.mk (Kd.R_below y12 hb); have n1_ := z1o.mk (Kd.R_below y1i hb); have n2_ := z1o.mk (zb (g := gb535) (o := .cells #[.int .i64 a0_0, .int .i64 a0_1, .string a0_2, .string a0_3, .slice A0_4 l0_4.length c0_4] 47 (0, 0)) yn hb); have n3_ := z1o.mk (za y4 hb); clear HO539; clear HO545; clear BK535; clear HB; have HO539 := n0_; have HO545 := n1_; have BK535 := n2_; have HB := n3_; clear n0_ n1_ n2_ n3_; (try clear hb); (try clear hb2); (try clear hk); (try clear hi)))
          go_ret2
          exact ⟨_, by first | rfl | (simp [zm, zl] <;> rfl) | (simp [*, zm, zl] <;> rfl), by first | exact Kd.R_nil _ _ _ _ _ | exact Kd.N_nil _ _ _ _ _ | exact Kd.V_nil _ _ _ _ _ | exact Kd.Q_nil _ _ _ _ _ | exact Kd.S_nil _ _ _ _ _, y4⟩
        ·replace c41 := Bool.eq_false_iff.mpr c41
         subst c41
         have H1 : (some (([] : List Int), 1)) = some (r1, r2) := by rw [if_neg (show ¬ (false = true) by decide)] at H; exact H
         clear H
         have H := H1
         clear H1
         simp only [Option.some.injEq, Prod.mk.injEq] at H
         obtain ⟨rfl, rfl⟩ := H
         obtain ⟨hcz51_0, hcz51_1, hcz51_2, hcz51_3, hcz51_4⟩ := cbk5 BK535.out
         obtain ⟨hfz51_0, hfz51_1, hfz51_2, hfz51_3, hfz51_4⟩ := cbf5 BK535.out
         go_wp2_with (first | ((with_reducible refine zp (f := 63) rfl ?_); refine goesL_ (some 62) rfl rfl Try.func63 (by kernel_rfl) rfl #[.string a0_2] rfl (by (try simp only [uh, ui, uj]); first | done | rfl | (simp only [uf, ug]; rfl)) ?_; (with_reducible refine (z1g.calls kj1 a0_2 false _ A40.out).mono ?_); rintro e w' ⟨rfl, ⟨nd, rfl⟩⟩; refine ⟨_, rfl, ?_⟩))
         go_ret2
         exact ⟨_, by first | rfl | (simp [zm, zl] <;> rfl) | (simp [*, zm, zl] <;> rfl), by first | exact Kd.R_nil _ _ _ _ _ | exact Kd.N_nil _ _ _ _ _ | exact Kd.V_nil _ _ _ _ _ | exact Kd.Q_nil _ _ _ _ _ | exact Kd.S_nil _ _ _ _ _, y4⟩
       ·rw [if_neg c39] at H
        have c39b0 : (a0_0 == 2) = false := beq_eq_false_iff_ne.mpr c39
        have c39b1 : (a0_0 != 2) = true := bne_iff_ne.mpr c39
        simp only [Option.some.injEq, Prod.mk.injEq] at H
        obtain ⟨rfl, rfl⟩ := H
        go_wp2
        go_ret2
        exact ⟨_, by first | rfl | (simp [zm, zl] <;> rfl) | (simp [*, zm, zl] <;> rfl), by first | exact Kd.R_nil _ _ _ _ _ | exact Kd.N_nil _ _ _ _ _ | exact Kd.V_nil _ _ _ _ _ | exact Kd.Q_nil _ _ _ _ _ | exact Kd.S_nil _ _ _ _ _, y4⟩
     case rest =>
      clear HC10
      try clear c1
      try clear c2
      try clear p2
      try clear c3
      try clear c4
      try clear c4b0
      try clear c6
      try clear c7
      try clear c9
      try clear c12
      try clear c19
      try clear c19b0
      try clear c19b1
      try clear c21
      try clear c21b0
      try clear c21b1
      try clear c23
      try clear c24
      try clear c24b0
      try clear c24b1
      try clear c25
      try clear c39
      try clear c39b0
      try clear c39b1
      try clear c41
      try clear c43
      try clear c44
      try clear hcz11_0
      try clear hcz11_1
      try clear hcz11_2
      try clear hcz11_3
      try clear hcz11_4
      try clear hcz13_0
      try clear hcz13_1
      try clear hcz13_2
      try clear hcz13_3
      try clear hcz13_4
      try clear hcz18_0
      try clear hcz18_1
      try clear hcz18_2
      try clear hcz18_3
      try clear hcz18_4
      try clear hcz26_0
      try clear hcz26_1
      try clear hcz26_2
      try clear hcz26_3
      try clear hcz26_4
      try clear hcz28_0
      try clear hcz28_1
      try clear hcz28_2
      try clear hcz28_3
      try clear hcz28_4
      try clear hcz31_0
      try clear hcz31_1
      try clear hcz31_2
      try clear hcz31_3
      try clear hcz31_4
      try clear hcz33_0
      try clear hcz33_1
      try clear hcz33_2
      try clear hcz33_3
      try clear hcz33_4
      try clear hcz34_0
      try clear hcz34_1
      try clear hcz34_2
      try clear hcz34_3
      try clear hcz34_4
      try clear hcz36_0
      try clear hcz36_1
      try clear hcz36_2
      try clear hcz36_3
      try clear hcz36_4
      try clear hcz37_0
      try clear hcz37_1
      try clear hcz37_2
      try clear hcz37_3
      try clear hcz37_4
      try clear hcz45_0
      try clear hcz45_1
      try clear hcz45_2
      try clear hcz45_3
      try clear hcz45_4
      try clear hcz47_0
      try clear hcz47_1
      try clear hcz47_2
      try clear hcz47_3
      try clear hcz47_4
      try clear hcz49_0
      try clear hcz49_1
      try clear hcz49_2
      try clear hcz49_3
      try clear hcz49_4
      try clear hcz51_0
      try clear hcz51_1
      try clear hcz51_2
      try clear hcz51_3
      try clear hcz51_4
      try clear hcz5_0
      try clear hcz5_1
      try clear hcz5_2
      try clear hcz5_3
      try clear hcz5_4
      try clear hcz6_0
      try clear hcz6_1
      try clear hcz6_2
      try clear hcz6_3
      try clear hcz6_4
      try clear hfz11_0
      try clear hfz11_1
      try clear hfz11_2
      try clear hfz11_3
      try clear hfz11_4
      try clear hfz13_0
      try clear hfz13_1
      try clear hfz13_2
      try clear hfz13_3
      try clear hfz13_4
      try clear hfz18_0
      try clear hfz18_1
      try clear hfz18_2
      try clear hfz18_3
      try clear hfz18_4
      try clear hfz26_0
      try clear hfz26_1
      try clear hfz26_2
      try clear hfz26_3
      try clear hfz26_4
      try clear hfz28_0
      try clear hfz28_1
      try clear hfz28_2
      try clear hfz28_3
      try clear hfz28_4
      try clear hfz31_0
      try clear hfz31_1
      try clear hfz31_2
      try clear hfz31_3
      try clear hfz31_4
      try clear hfz33_0
      try clear hfz33_1
      try clear hfz33_2
      try clear hfz33_3
      try clear hfz33_4
      try clear hfz34_0
      try clear hfz34_1
      try clear hfz34_2
      try clear hfz34_3
      try clear hfz34_4
      try clear hfz36_0
      try clear hfz36_1
      try clear hfz36_2
      try clear hfz36_3
      try clear hfz36_4
      try clear hfz37_0
      try clear hfz37_1
      try clear hfz37_2
      try clear hfz37_3
      try clear hfz37_4
      try clear hfz45_0
      try clear hfz45_1
      try clear hfz45_2
      try clear hfz45_3
      try clear hfz45_4
      try clear hfz47_0
      try clear hfz47_1
      try clear hfz47_2
      try clear hfz47_3
      try clear hfz47_4
      try clear hfz49_0
      try clear hfz49_1
      try clear hfz49_2
      try clear hfz49_3
      try clear hfz49_4
      try clear hfz51_0
      try clear hfz51_1
      try clear hfz51_2
      try clear hfz51_3
      try clear hfz51_4
      try clear hfz5_0
      try clear hfz5_1
      try clear hfz5_2
      try clear hfz5_3
      try clear hfz5_4
      try clear hfz6_0
      try clear hfz6_1
      try clear hfz6_2
      try clear hfz6_3
      try clear hfz6_4
      try clear p2
      obtain ⟨kq, x6_9, HA, HJ9, HO_6, BK535, HB⟩ := hcut
      cases kq with
      | zero => exact absurd HA.out (by simp [z12.j1])
      | succ kj9 =>
       have H := HA.out
       clear HA
       simp only [z12.j1] at H
       replace H := ue.mp H
       obtain ⟨⟨t559, t560⟩, A520, H⟩ := H
       replace H : (if (wrap64 ((wrap64 ((t559.length : Int) + (x6_9.length : Int))) + 4)) > 1048576 then (some (([] : List Int), 2)) else (if t559.length + x6_9.length < 140737488355328 then ((some (t559 ++ x6_9 : List Int)).bind fun y563 => ((impl_Sum32.f kj9 x6_9).bind fun t566 => ((impl_oFour.f t566).bind fun t567 => (if y563.length + t567.length < 140737488355328 then (some ((y563 ++ t567), 0)) else (none))))) else (none))) = some (r1, r2) := H
       have A52 := z1o.mk A520
       clear A520
       by_cases c53 : (wrap64 ((wrap64 ((t559.length : Int) + (x6_9.length : Int))) + 4)) > 1048576
       ·rw [if_pos c53] at H
        have c53b0 : decide (1048576 < (wrap64 ((wrap64 ((t559.length : Int) + (x6_9.length : Int))) + 4))) = true := decide_eq_true c53
        clear c53
        simp only [Option.some.injEq, Prod.mk.injEq] at H
        obtain ⟨rfl, rfl⟩ := H
        obtain ⟨Ao54, co54, eo54⟩ := Kd.R_slice HO_6.out
        subst eo54
        go_wp2_with (first | ((with_reducible refine zp (f := 62) rfl ?_); refine goesL_ (some 77) rfl rfl Try.func62 (by kernel_rfl) rfl #[.int .i64 (x6_9.length : Int)] rfl (by (try simp only [uh, ui, uj]); first | done | rfl | (simp only [uf, ug]; rfl)) ?_; (with_reducible refine (impl_PutInt.calls kj9 (x6_9.length : Int) t559 t560 _ A52.out).mono ?_); rintro e w55 ⟨v561, rfl, ho0, hb⟩; refine ⟨_, rfl, ?_⟩; have n0_ := z1o.mk (Kd.R_elder' y1s (Kd.R_base ho0) hb); have n1_ := z1o.mk (Kd.R_lower (Kd.R_new' ho0 (Kd.R_lt y1s)) (zc y4)); have n2_ := z1o.mk (zb (g := gb535) (o := .cells #[.int .i64 a0_0, .int .i64 a0_1, .string a0_2, .string a0_3, .slice A0_4 l0_4.length c0_4] 47 (0, 0)) yn hb); have n3_ := z1o.mk (za y4 hb); clear HO_6; clear BK535; clear HB; have HO_6 := n0_; have HO562 := n1_; have BK535 := n2_; have HB := n3_; clear n0_ n1_ n2_ n3_; (try clear hb); (try clear hb2); (try clear hk); (try clear hi); (try clear ho0); obtain ⟨Ao56, co56, eo56⟩ := Kd.R_slice HO562.out; subst eo56))
        go_ret2
        exact ⟨_, by first | rfl | (simp [zm, zl] <;> rfl) | (simp [*, zm, zl] <;> rfl), by first | exact Kd.R_nil _ _ _ _ _ | exact Kd.N_nil _ _ _ _ _ | exact Kd.V_nil _ _ _ _ _ | exact Kd.Q_nil _ _ _ _ _ | exact Kd.S_nil _ _ _ _ _, y4⟩
       ·rw [if_neg c53] at H
        have c53b0 : decide (1048576 < (wrap64 ((wrap64 ((t559.length : Int) + (x6_9.length : Int))) + 4))) = false := decide_eq_false c53
        clear c53
        by_cases c57 : t559.length + x6_9.length < 140737488355328
        ·rw [if_pos c57] at H
         have LMc57 := z1o.mk c57
         clear c57
         obtain ⟨y563, hy563⟩ : ∃ y_ : List Int, y_ = (t559 ++ x6_9) := ⟨_, rfl⟩
         replace H : ((impl_Sum32.f kj9 x6_9).bind fun t566 => ((impl_oFour.f t566).bind fun t567 => (if y563.length + t567.length < 140737488355328 then (some ((y563 ++ t567), 0)) else (none)))) = some (r1, r2) := by first | (rw [hy563]; with_reducible exact H) | (have H2_ := (uk _ _).symm.trans H; rw [hy563]; with_reducible exact H2_) | (have H2_ := (uk _ _).symm.trans H; with_reducible exact H2_) | with_reducible exact H | (rw [hy563]; exact H) | exact H
         have Ny563 := z1o.mk hy563
         clear hy563
         replace H := ue.mp H
         obtain ⟨t566, A580, H⟩ := H
         replace H : ((impl_oFour.f t566).bind fun t567 => (if y563.length + t567.length < 140737488355328 then (some ((y563 ++ t567), 0)) else (none))) = some (r1, r2) := H
         have A58 := z1o.mk A580
         clear A580
         replace H := ue.mp H
         obtain ⟨t567, A590, H⟩ := H
         replace H : (if y563.length + t567.length < 140737488355328 then (some ((y563 ++ t567), 0)) else (none)) = some (r1, r2) := H
         have A59 := z1o.mk A590
         clear A590
         by_cases c60 : y563.length + t567.length < 140737488355328
         ·rw [if_pos c60] at H
          have LMc60 := z1o.mk c60
          clear c60
          obtain ⟨y570, hy570⟩ : ∃ y_ : List Int, y_ = (y563 ++ t567) := ⟨_, rfl⟩
          replace H : (some (y570, 0)) = some (r1, r2) := by first | (rw [hy570]; with_reducible exact H) | (have H2_ := (uk _ _).symm.trans H; rw [hy570]; with_reducible exact H2_) | (have H2_ := (uk _ _).symm.trans H; with_reducible exact H2_) | with_reducible exact H | (rw [hy570]; exact H) | exact H
          have Ny570 := z1o.mk hy570
          clear hy570
          simp only [Option.some.injEq, Prod.mk.injEq] at H
          obtain ⟨rfl, rfl⟩ := H
          obtain ⟨Ao61, co61, eo61⟩ := Kd.R_slice HO_6.out
          subst eo61
          go_wp2_with (first | ((with_reducible refine zp (f := 62) rfl ?_); refine goesL_ (some 77) rfl rfl Try.func62 (by kernel_rfl) rfl #[.int .i64 (x6_9.length : Int)] rfl (by (try simp only [uh, ui, uj]); first | done | rfl | (simp only [uf, ug]; rfl)) ?_; (with_reducible refine (impl_PutInt.calls kj9 (x6_9.length : Int) t559 t560 _ A52.out).mono ?_); rintro e w62 ⟨v561, rfl, ho0, hb⟩; refine ⟨_, rfl, ?_⟩; have n0_ := z1o.mk (Kd.R_elder' y1s (Kd.R_base ho0) hb); have n1_ := z1o.mk (Kd.R_lower (Kd.R_new' ho0 (Kd.R_lt y1s)) (zc y4)); have n2_ := z1o.mk (zb (g := gb535) (o := .cells #[.int .i64 a0_0, .int .i64 a0_1, .string a0_2, .string a0_3, .slice A0_4 l0_4.length c0_4] 47 (0, 0)) yn hb); have n3_ := z1o.mk (za y4 hb); clear HO_6; clear BK535; clear HB; have HO_6 := n0_; have HO562 := n1_; have BK535 := n2_; have HB := n3_; clear n0_ n1_ n2_ n3_; (try clear hb); (try clear hb2); (try clear hk); (try clear hi); (try clear ho0); obtain ⟨Ao63, co63, eo63⟩ := Kd.R_slice HO562.out; subst eo63) | ((with_reducible refine zr (b := .append) (xs := #[.tmp 87, .tmp 88]) rfl ?_); at_builtin; refine Kd.R_append_rows (Kd.int .u8) (w0 := w) w.heap.size rfl (.tmp 87) (.tmp 88) 26 5 (.int .u8 0) 1 rfl Try.underlying26 info5 rfl (by decide) (by omega) (.slice Ao63 t559.length co63) t559 x6_9 _ _ _ (fun k_ => some k_ ≠ (.slice Ao61 x6_9.length co61 : Value).ownBlock) (fun _ => False) rfl rfl ?aO ?aR (fun _ _ h => h) (fun _ h => h.elim) ?aF ?aB ?aS ?aL ?_; (case aR => exact y2y); (case aB => exact y4); (case aF => exact (fun k_ hk => Kd.fresh' (Kd.R_lt y1s) k_ hk)); (case aO => exact (by (with_reducible repeat (first | apply Kd.R_alloc | apply Kd.R_drewN | apply Kd.R_drew)); exact Kd.R_mono HO562.out (fun _ hk => hk.2))); (case aS => exact (zc y4)); (case aL => have := LMc57.out; omega); intro v564 w64 ho hb hg hat; rw [← Ny563.out] at ho; have n0_ := z1o.mk (Kd.R_after (ok := (fun _ => True)) y1s hg hat); have n1_ := z1o.mk (zf (g := gb535) (o := .cells #[.int .i64 a0_0, .int .i64 a0_1, .string a0_2, .string a0_3, .slice A0_4 l0_4.length c0_4] 47 (0, 0)) yn hg (Kd.R_ne HO562.out BK535.out (by decide))); have n2_ := z1o.mk (hb); have n3_ := z1o.mk (ho); clear HO_6; clear BK535; clear HB; clear HO562; have HO_6 := n0_; have BK535 := n1_; have HB := n2_; have HO565 := n3_; clear n0_ n1_ n2_ n3_; clear ho hb hg hat) | ((with_reducible refine zp (f := 66) rfl ?_); refine goesL_ (some 91) rfl rfl Try.func66 (by kernel_rfl) rfl #[.slice Ao61 x6_9.length co61] rfl (by (try simp only [uh, ui, uj]); first | done | rfl | (simp only [uf, ug]; rfl)) ?_; (with_reducible refine (impl_Sum32.calls kj9 _ _ x6_9 t566 _ ?side1 ?side2 A58.out).mono ?_); (case side1 => exact y2y); (case side2 => exact (Kd.R_reads' HO_6.out).2.1); rintro e w' ⟨rfl, ⟨nd, rfl⟩⟩; refine ⟨_, rfl, ?_⟩) | ((with_reducible refine zp (f := 65) rfl ?_); refine goesL_ (some 92) rfl rfl Try.func65 (by kernel_rfl) rfl #[.int .i64 t566] rfl (by (try simp only [uh, ui, uj]); first | done | rfl | (simp only [uf, ug]; rfl)) ?_; (with_reducible refine (impl_oFour.calls t566 t567 _ A59.out).mono ?_); rintro e w65 ⟨v568, rfl, ho0, hb⟩; refine ⟨_, rfl, ?_⟩; have n0_ := z1o.mk (Kd.R_elder' y1s (Kd.R_base ho0) hb); have n1_ := z1o.mk (Kd.R_elder' y2l (Kd.R_base ho0) hb); have n2_ := z1o.mk (Kd.R_lower (Kd.R_new' (Kd.R_new' ho0 (Kd.R_lt y1s)) (Kd.R_lt y2l)) (zc y4)); have n3_ := z1o.mk (zb (g := gb535) (o := .cells #[.int .i64 a0_0, .int .i64 a0_1, .string a0_2, .string a0_3, .slice A0_4 l0_4.length c0_4] 47 (0, 0)) yn hb); have n4_ := z1o.mk (za y4 hb); clear HO_6; clear HO565; clear BK535; clear HB; have HO_6 := n0_; have HO565 := n1_; have HO569 := n2_; have BK535 := n3_; have HB := n4_; clear n0_ n1_ n2_ n3_ n4_; (try clear hb); (try clear hb2); (try clear hk); (try clear hi); (try clear ho0); obtain ⟨Ao67, co67, eo67⟩ := Kd.R_slice HO569.out; subst eo67) | ((with_reducible refine zr (b := .append) (xs := #[.tmp 89, .tmp 92]) rfl ?_); at_builtin; refine Kd.R_append_rows (Kd.int .u8) (w0 := w) w.heap.size rfl (.tmp 89) (.tmp 92) 26 5 (.int .u8 0) 1 rfl Try.underlying26 info5 rfl (by decide) (by omega) v564 y563 t567 _ _ _ (fun k_ => some k_ ≠ (.slice Ao61 x6_9.length co61 : Value).ownBlock ∧ some k_ ≠ (.slice Ao67 t567.length co67 : Value).ownBlock) (fun _ => False) rfl rfl ?aO ?aR (fun _ _ h => h) (fun _ h => h.elim) ?aF ?aB ?aS ?aL ?_; (case aR => repeat (first | exact (Kd.R_reads' HO569.out).2.2 | (with_reducible refine Kd.C_alloc ?_ _) | (with_reducible refine Kd.C_drewN ?_ _) | (with_reducible refine Kd.C_drew ?_))); (case aB => exact y4); (case aF => exact (fun k_ hk => ⟨Kd.fresh' (Kd.R_lt y1s) k_ hk, Kd.fresh' (Kd.R_lt (by (with_reducible repeat (first | apply Kd.R_alloc | apply Kd.R_drewN | apply Kd.R_drew)); exact HO569.out)) k_ hk⟩)); (case aO => exact y2l); (case aS => exact (zc y4)); (case aL => have := LMc60.out; omega); intro v571 w66 ho hb hg hat; rw [← Ny570.out] at ho; have n0_ := z1o.mk (Kd.R_after (ok := (fun k_ => some k_ ≠ (.slice Ao67 t567.length co67 : Value).ownBlock)) (by (with_reducible repeat (first | apply Kd.R_alloc | apply Kd.R_drewN | apply Kd.R_drew)); exact Kd.R_mono HO_6.out (fun _ hk => ⟨hk.2, hk.1.2⟩)) hg hat); have n1_ := z1o.mk (zf (g := gb535) (o := .cells #[.int .i64 a0_0, .int .i64 a0_1, .string a0_2, .string a0_3, .slice A0_4 l0_4.length c0_4] 47 (0, 0)) yn hg (Kd.R_ne HO565.out BK535.out (by decide))); have n2_ := z1o.mk (Kd.R_after (ok := (fun k_ => some k_ ≠ (.slice Ao61 x6_9.length co61 : Value).ownBlock)) (by (with_reducible repeat (first | apply Kd.R_alloc | apply Kd.R_drewN | apply Kd.R_drew)); exact Kd.R_mono HO569.out (fun _ hk => ⟨hk.1.2, hk.2⟩)) hg hat); have n3_ := z1o.mk (hb); have n4_ := z1o.mk (ho); clear HO_6; clear BK535; clear HO569; clear HB; clear HO565; have HO_6 := n0_; have BK535 := n1_; have HO569 := n2_; have HB := n3_; have HO572 := n4_; clear n0_ n1_ n2_ n3_ n4_; clear ho hb hg hat))
          go_ret2
          exact ⟨_, by first | rfl | (simp [zm, zl] <;> rfl) | (simp [*, zm, zl] <;> rfl), by (with_reducible repeat (first | apply Kd.R_alloc | apply Kd.R_drewN | apply Kd.R_drew)); exact Kd.R_mono HO572.out (fun _ hk => trivial), y4⟩
         ·rw [if_neg c60] at H
          exact absurd H (by simp)
        ·rw [if_neg c57] at H
         exact absurd H (by simp)
    ·rw [if_neg c9] at H
     exact absurd H (by simp)
def z1c.f (k : Nat) (a0_0 : Int) (a0_1 : Int) (a0_2 : ByteArray) (a0_3 : ByteArray) (l0_4 : List (S84)) (a1_0 : Int) (a1_1 : Int) (a1_2 : ByteArray) (a1_3 : ByteArray) (l1_4 : List (S84)) : Option (Bool) := if a0_0 = a1_0 then (if a0_1 = a1_1 then (if a0_2.toList = a1_2.toList then ((laws_eqDoc.f k a0_3 l0_4 a1_3 l1_4).bind fun t575 => (if t575 = true then (some true) else (some false))) else (some false)) else (some false)) else (some false)
set_option maxHeartbeats 8000000 in
set_option maxRecDepth 100000 in
theorem z1c.calls (k : Nat) (a0_0 : Int) (a0_1 : Int) (a0_2 : ByteArray) (a0_3 : ByteArray) (A0_4 : Option Addr) (c0_4 : Nat) (l0_4 : List (S84)) (a1_0 : Int) (a1_1 : Int) (a1_2 : ByteArray) (a1_3 : ByteArray) (A1_4 : Option Addr) (c1_4 : Nat) (l1_4 : List (S84)) (r : Bool) (w : World) (hr0_4 : Kd.C k84 w A0_4 l0_4.length l0_4) (hc0_4 : l0_4.length ≤ c0_4) (hr1_4 : Kd.C k84 w A1_4 l1_4.length l1_4) (hc1_4 : l1_4.length ≤ c1_4) (h : z1c.f k a0_0 a0_1 a0_2 a0_3 l0_4 a1_0 a1_1 a1_2 a1_3 l1_4 = some r) :
  Calls Try.prog 26 #[.agg #[.int .i64 a0_0, .int .i64 a0_1, .string a0_2, .string a0_3, .slice A0_4 l0_4.length c0_4], .agg #[.int .i64 a1_0, .int .i64 a1_1, .string a1_2, .string a1_3, .slice A1_4 l1_4.length c1_4]] w fun e w' => e = .returned (.bool r) ∧ Below w.heap.size w w' := by
 have hu47 := Try.underlying47
 have hu31 := Try.underlying31
 have HR0_4 := z1o.mk hr0_4
 have HC0_4 := z1o.mk hc0_4
 clear hr0_4 hc0_4
 have HR1_4 := z1o.mk hr1_4
 have HC1_4 := z1o.mk hc1_4
 clear hr1_4 hc1_4
 have HB := z1o.mk (Below.refl w.heap.size w)
 have H : (if a0_0 = a1_0 then (if a0_1 = a1_1 then (if a0_2.toList = a1_2.toList then ((laws_eqDoc.f k a0_3 l0_4 a1_3 l1_4).bind fun t575 => (if t575 = true then (some true) else (some false))) else (some false)) else (some false)) else (some false)) = some r := h
 clear h
 by_cases c3 : a0_0 = a1_0
 ·rw [if_pos c3] at H
  have c3b0 : (a0_0 == a1_0) = true := beq_iff_eq.mpr c3
  have c3b1 : (a0_0 != a1_0) = false := bne_eq_false_iff_eq.mpr c3
  clear c3
  by_cases c4 : a0_1 = a1_1
  ·rw [if_pos c4] at H
   have c4b0 : (a0_1 == a1_1) = true := beq_iff_eq.mpr c4
   have c4b1 : (a0_1 != a1_1) = false := bne_eq_false_iff_eq.mpr c4
   clear c4
   by_cases c5 : a0_2.toList = a1_2.toList
   ·rw [if_pos c5] at H
    have c5b0 : (a0_2.toList == a1_2.toList) = true := beq_iff_eq.mpr c5
    have c5b1 : (a0_2.toList != a1_2.toList) = false := bne_eq_false_iff_eq.mpr c5
    clear c5
    replace H := ue.mp H
    obtain ⟨t575, A60, H⟩ := H
    replace H : (if t575 = true then (some true) else (some false)) = some r := H
    have A6 := z1o.mk A60
    clear A60
    by_cases c7 : t575 = true
    ·subst c7
     have H1 : (some true) = some r := by rw [if_pos rfl] at H; exact H
     clear H
     have H := H1
     clear H1
     obtain rfl := Option.some.inj H
     go_enter Try.func26, Try.ntmps26
     go_wp2_with (first | ((with_reducible refine zq (N := 2) rfl ?_); refine zv ?hg (N := 2) ?hd (cs := #[.int .i64 a0_0, .int .i64 a0_1, .string a0_2, .string a0_3, .slice A0_4 l0_4.length c0_4]) (t := 47) ?hr ?_; (case hd => rfl); (case hg => rfl); (case hr => first | (go_simp; done) | (go_simp; rfl)); intro gb573 hg w8 hbox hb; have n0_ := z1o.mk (za y0 hb); have n1_ := z1o.mk (hbox); have n2_ := z1o.mk ((by rw [hg]; exact (zc y0) : w.heap.size ≤ gb573)); have n3_ := z1o.mk ((by rw [hg]; exact (zc y0) : w.heap.size ≤ gb573)); clear HB; have HB := n0_; have BK573 := n1_; have GW573 := n2_; have GE573 := n3_; clear n0_ n1_ n2_ n3_; clear hb hbox hg) | ((with_reducible refine zq (N := 3) rfl ?_); refine zv ?hg (N := 3) ?hd (cs := #[.int .i64 a1_0, .int .i64 a1_1, .string a1_2, .string a1_3, .slice A1_4 l1_4.length c1_4]) (t := 47) ?hr ?_; (case hd => rfl); (case hg => rfl); (case hr => first | (go_simp; done) | (go_simp; rfl)); intro gb574 hg w9 hbox hb; have n0_ := z1o.mk (zb (g := gb573) (o := .cells #[.int .i64 a0_0, .int .i64 a0_1, .string a0_2, .string a0_3, .slice A0_4 l0_4.length c0_4] 47 (0, 0)) yw hb); have n1_ := z1o.mk (za yk hb); have n2_ := z1o.mk (hbox); have n3_ := z1o.mk ((by rw [hg]; exact (zc yk) : w.heap.size ≤ gb574)); have n4_ := z1o.mk ((by rw [hg]; exact (zc yk) : w.heap.size ≤ gb574)); have n5_ := z1o.mk ((by rw [hg]; exact Nat.ne_of_lt (zg (g := gb573) (o := .cells #[.int .i64 a0_0, .int .i64 a0_1, .string a0_2, .string a0_3, .slice A0_4 l0_4.length c0_4] 47 (0, 0)) yw) : gb573 ≠ gb574)); have n6_ := z1o.mk ((by rw [hg]; exact Nat.ne_of_gt (zg (g := gb573) (o := .cells #[.int .i64 a0_0, .int .i64 a0_1, .string a0_2, .string a0_3, .slice A0_4 l0_4.length c0_4] 47 (0, 0)) yw) : gb574 ≠ gb573)); clear BK573; clear HB; have BK573 := n0_; have HB := n1_; have BK574 := n2_; have GW574 := n3_; have GE574 := n4_; have NB573_574 := n5_; have NB574_573 := n6_; clear n0_ n1_ n2_ n3_ n4_ n5_ n6_; clear hb hbox hg; have hnb10 := NB573_574.out; have hnc10 := NB574_573.out; obtain ⟨hcz11_0, hcz11_1, hcz11_2, hcz11_3, hcz11_4⟩ := cbk5 BK573.out; obtain ⟨hfz11_0, hfz11_1, hfz11_2, hfz11_3, hfz11_4⟩ := cbf5 BK573.out; obtain ⟨hcz12_0, hcz12_1, hcz12_2, hcz12_3, hcz12_4⟩ := cbk5 BK574.out; obtain ⟨hfz12_0, hfz12_1, hfz12_2, hfz12_3, hfz12_4⟩ := cbf5 BK574.out) | ((with_reducible refine zp (f := 14) rfl ?_); refine goesL_ (some 24) rfl rfl Try.func14 (by kernel_rfl) rfl #[.agg #[.string a0_3, .slice A0_4 l0_4.length c0_4], .agg #[.string a1_3, .slice A1_4 l1_4.length c1_4]] rfl (by (try simp only [uh, ui, uj]); first | done | rfl | (simp only [uf, ug]; rfl)) ?_; (with_reducible refine (laws_eqDoc.calls k a0_3 _ _ l0_4 a1_3 _ _ l1_4 true _ ?side1 ?side2 ?side3 ?side4 A6.out).mono ?_); (case side1 => exact y1j); (case side2 => exact HC0_4.out); (case side3 => exact y2u); (case side4 => exact HC1_4.out); rintro e w13 ⟨rfl, hb⟩; refine ⟨_, rfl, ?_⟩; have n0_ := z1o.mk (zb (g := gb573) (o := .cells #[.int .i64 a0_0, .int .i64 a0_1, .string a0_2, .string a0_3, .slice A0_4 l0_4.length c0_4] 47 (0, 0)) yw hb); have n1_ := z1o.mk (zb (g := gb574) (o := .cells #[.int .i64 a1_0, .int .i64 a1_1, .string a1_2, .string a1_3, .slice A1_4 l1_4.length c1_4] 47 (0, 0)) (by (with_reducible repeat (first | refine z8 ?_ _ | refine z9 ?_ | refine z7 ?_ _)); exact BK574.out) hb); have n2_ := z1o.mk (za y1b hb); clear BK573; clear BK574; clear HB; have BK573 := n0_; have BK574 := n1_; have HB := n2_; clear n0_ n1_ n2_; (try clear hb); (try clear hb2); (try clear hk); (try clear hi)))
     go_ret
     exact ⟨by first | rfl | (simp [zm, zl] <;> rfl) | (simp [*, zm, zl] <;> rfl), y1b⟩
    ·replace c7 := Bool.eq_false_iff.mpr c7
     subst c7
     have H1 : (some false) = some r := by rw [if_neg (show ¬ (false = true) by decide)] at H; exact H
     clear H
     have H := H1
     clear H1
     obtain rfl := Option.some.inj H
     go_enter Try.func26, Try.ntmps26
     go_wp2_with (first | ((with_reducible refine zq (N := 2) rfl ?_); refine zv ?hg (N := 2) ?hd (cs := #[.int .i64 a0_0, .int .i64 a0_1, .string a0_2, .string a0_3, .slice A0_4 l0_4.length c0_4]) (t := 47) ?hr ?_; (case hd => rfl); (case hg => rfl); (case hr => first | (go_simp; done) | (go_simp; rfl)); intro gb573 hg w14 hbox hb; have n0_ := z1o.mk (za y0 hb); have n1_ := z1o.mk (hbox); have n2_ := z1o.mk ((by rw [hg]; exact (zc y0) : w.heap.size ≤ gb573)); have n3_ := z1o.mk ((by rw [hg]; exact (zc y0) : w.heap.size ≤ gb573)); clear HB; have HB := n0_; have BK573 := n1_; have GW573 := n2_; have GE573 := n3_; clear n0_ n1_ n2_ n3_; clear hb hbox hg) | ((with_reducible refine zq (N := 3) rfl ?_); refine zv ?hg (N := 3) ?hd (cs := #[.int .i64 a1_0, .int .i64 a1_1, .string a1_2, .string a1_3, .slice A1_4 l1_4.length c1_4]) (t := 47) ?hr ?_; (case hd => rfl); (case hg => rfl); (case hr => first | (go_simp; done) | (go_simp; rfl)); intro gb574 hg w15 hbox hb; have n0_ := z1o.mk (zb (g := gb573) (o := .cells #[.int .i64 a0_0, .int .i64 a0_1, .string a0_2, .string a0_3, .slice A0_4 l0_4.length c0_4] 47 (0, 0)) yw hb); have n1_ := z1o.mk (za yk hb); have n2_ := z1o.mk (hbox); have n3_ := z1o.mk ((by rw [hg]; exact (zc yk) : w.heap.size ≤ gb574)); have n4_ := z1o.mk ((by rw [hg]; exact (zc yk) : w.heap.size ≤ gb574)); have n5_ := z1o.mk ((by rw [hg]; exact Nat.ne_of_lt (zg (g := gb573) (o := .cells #[.int .i64 a0_0, .int .i64 a0_1, .string a0_2, .string a0_3, .slice A0_4 l0_4.length c0_4] 47 (0, 0)) yw) : gb573 ≠ gb574)); have n6_ := z1o.mk ((by rw [hg]; exact Nat.ne_of_gt (zg (g := gb573) (o := .cells #[.int .i64 a0_0, .int .i64 a0_1, .string a0_2, .string a0_3, .slice A0_4 l0_4.length c0_4] 47 (0, 0)) yw) : gb574 ≠ gb573)); clear BK573; clear HB; have BK573 := n0_; have HB := n1_; have BK574 := n2_; have GW574 := n3_; have GE574 := n4_; have NB573_574 := n5_; have NB574_573 := n6_; clear n0_ n1_ n2_ n3_ n4_ n5_ n6_; clear hb hbox hg; have hnb16 := NB573_574.out; have hnc16 := NB574_573.out; obtain ⟨hcz17_0, hcz17_1, hcz17_2, hcz17_3, hcz17_4⟩ := cbk5 BK573.out; obtain ⟨hfz17_0, hfz17_1, hfz17_2, hfz17_3, hfz17_4⟩ := cbf5 BK573.out; obtain ⟨hcz18_0, hcz18_1, hcz18_2, hcz18_3, hcz18_4⟩ := cbk5 BK574.out; obtain ⟨hfz18_0, hfz18_1, hfz18_2, hfz18_3, hfz18_4⟩ := cbf5 BK574.out) | ((with_reducible refine zp (f := 14) rfl ?_); refine goesL_ (some 24) rfl rfl Try.func14 (by kernel_rfl) rfl #[.agg #[.string a0_3, .slice A0_4 l0_4.length c0_4], .agg #[.string a1_3, .slice A1_4 l1_4.length c1_4]] rfl (by (try simp only [uh, ui, uj]); first | done | rfl | (simp only [uf, ug]; rfl)) ?_; (with_reducible refine (laws_eqDoc.calls k a0_3 _ _ l0_4 a1_3 _ _ l1_4 false _ ?side1 ?side2 ?side3 ?side4 A6.out).mono ?_); (case side1 => exact y1j); (case side2 => exact HC0_4.out); (case side3 => exact y2u); (case side4 => exact HC1_4.out); rintro e w19 ⟨rfl, hb⟩; refine ⟨_, rfl, ?_⟩; have n0_ := z1o.mk (zb (g := gb573) (o := .cells #[.int .i64 a0_0, .int .i64 a0_1, .string a0_2, .string a0_3, .slice A0_4 l0_4.length c0_4] 47 (0, 0)) yw hb); have n1_ := z1o.mk (zb (g := gb574) (o := .cells #[.int .i64 a1_0, .int .i64 a1_1, .string a1_2, .string a1_3, .slice A1_4 l1_4.length c1_4] 47 (0, 0)) (by (with_reducible repeat (first | refine z8 ?_ _ | refine z9 ?_ | refine z7 ?_ _)); exact BK574.out) hb); have n2_ := z1o.mk (za y1b hb); clear BK573; clear BK574; clear HB; have BK573 := n0_; have BK574 := n1_; have HB := n2_; clear n0_ n1_ n2_; (try clear hb); (try clear hb2); (try clear hk); (try clear hi)))
     go_ret
     exact ⟨by first | rfl | (simp [zm, zl] <;> rfl) | (simp [*, zm, zl] <;> rfl), y1b⟩
   ·rw [if_neg c5] at H
    have c5b0 : (a0_2.toList == a1_2.toList) = false := beq_eq_false_iff_ne.mpr c5
    have c5b1 : (a0_2.toList != a1_2.toList) = true := bne_iff_ne.mpr c5
    obtain rfl := Option.some.inj H
    go_enter Try.func26, Try.ntmps26
    go_wp2_with (first | ((with_reducible refine zq (N := 2) rfl ?_); refine zv ?hg (N := 2) ?hd (cs := #[.int .i64 a0_0, .int .i64 a0_1, .string a0_2, .string a0_3, .slice A0_4 l0_4.length c0_4]) (t := 47) ?hr ?_; (case hd => rfl); (case hg => rfl); (case hr => first | (go_simp; done) | (go_simp; rfl)); intro gb573 hg w20 hbox hb; have n0_ := z1o.mk (za y0 hb); have n1_ := z1o.mk (hbox); have n2_ := z1o.mk ((by rw [hg]; exact (zc y0) : w.heap.size ≤ gb573)); have n3_ := z1o.mk ((by rw [hg]; exact (zc y0) : w.heap.size ≤ gb573)); clear HB; have HB := n0_; have BK573 := n1_; have GW573 := n2_; have GE573 := n3_; clear n0_ n1_ n2_ n3_; clear hb hbox hg) | ((with_reducible refine zq (N := 3) rfl ?_); refine zv ?hg (N := 3) ?hd (cs := #[.int .i64 a1_0, .int .i64 a1_1, .string a1_2, .string a1_3, .slice A1_4 l1_4.length c1_4]) (t := 47) ?hr ?_; (case hd => rfl); (case hg => rfl); (case hr => first | (go_simp; done) | (go_simp; rfl)); intro gb574 hg w21 hbox hb; have n0_ := z1o.mk (zb (g := gb573) (o := .cells #[.int .i64 a0_0, .int .i64 a0_1, .string a0_2, .string a0_3, .slice A0_4 l0_4.length c0_4] 47 (0, 0)) yw hb); have n1_ := z1o.mk (za yk hb); have n2_ := z1o.mk (hbox); have n3_ := z1o.mk ((by rw [hg]; exact (zc yk) : w.heap.size ≤ gb574)); have n4_ := z1o.mk ((by rw [hg]; exact (zc yk) : w.heap.size ≤ gb574)); have n5_ := z1o.mk ((by rw [hg]; exact Nat.ne_of_lt (zg (g := gb573) (o := .cells #[.int .i64 a0_0, .int .i64 a0_1, .string a0_2, .string a0_3, .slice A0_4 l0_4.length c0_4] 47 (0, 0)) yw) : gb573 ≠ gb574)); have n6_ := z1o.mk ((by rw [hg]; exact Nat.ne_of_gt (zg (g := gb573) (o := .cells #[.int .i64 a0_0, .int .i64 a0_1, .string a0_2, .string a0_3, .slice A0_4 l0_4.length c0_4] 47 (0, 0)) yw) : gb574 ≠ gb573)); clear BK573; clear HB; have BK573 := n0_; have HB := n1_; have BK574 := n2_; have GW574 := n3_; have GE574 := n4_; have NB573_574 := n5_; have NB574_573 := n6_; clear n0_ n1_ n2_ n3_ n4_ n5_ n6_; clear hb hbox hg; have hnb22 := NB573_574.out; have hnc22 := NB574_573.out; obtain ⟨hcz23_0, hcz23_1, hcz23_2, hcz23_3, hcz23_4⟩ := cbk5 BK573.out; obtain ⟨hfz23_0, hfz23_1, hfz23_2, hfz23_3, hfz23_4⟩ := cbf5 BK573.out; obtain ⟨hcz24_0, hcz24_1, hcz24_2, hcz24_3, hcz24_4⟩ := cbk5 BK574.out; obtain ⟨hfz24_0, hfz24_1, hfz24_2, hfz24_3, hfz24_4⟩ := cbf5 BK574.out))
    go_ret
    exact ⟨by first | rfl | (simp [zm, zl] <;> rfl) | (simp [*, zm, zl] <;> rfl), y1b⟩
  ·rw [if_neg c4] at H
   have c4b0 : (a0_1 == a1_1) = false := beq_eq_false_iff_ne.mpr c4
   have c4b1 : (a0_1 != a1_1) = true := bne_iff_ne.mpr c4
   obtain rfl := Option.some.inj H
   go_enter Try.func26, Try.ntmps26
   go_wp2_with (first | ((with_reducible refine zq (N := 2) rfl ?_); refine zv ?hg (N := 2) ?hd (cs := #[.int .i64 a0_0, .int .i64 a0_1, .string a0_2, .string a0_3, .slice A0_4 l0_4.length c0_4]) (t := 47) ?hr ?_; (case hd => rfl); (case hg => rfl); (case hr => first | (go_simp; done) | (go_simp; rfl)); intro gb573 hg w25 hbox hb; have n0_ := z1o.mk (za y0 hb); have n1_ := z1o.mk (hbox); have n2_ := z1o.mk ((by rw [hg]; exact (zc y0) : w.heap.size ≤ gb573)); have n3_ := z1o.mk ((by rw [hg]; exact (zc y0) : w.heap.size ≤ gb573)); clear HB; have HB := n0_; have BK573 := n1_; have GW573 := n2_; have GE573 := n3_; clear n0_ n1_ n2_ n3_; clear hb hbox hg) | ((with_reducible refine zq (N := 3) rfl ?_); refine zv ?hg (N := 3) ?hd (cs := #[.int .i64 a1_0, .int .i64 a1_1, .string a1_2, .string a1_3, .slice A1_4 l1_4.length c1_4]) (t := 47) ?hr ?_; (case hd => rfl); (case hg => rfl); (case hr => first | (go_simp; done) | (go_simp; rfl)); intro gb574 hg w26 hbox hb; have n0_ := z1o.mk (zb (g := gb573) (o := .cells #[.int .i64 a0_0, .int .i64 a0_1, .string a0_2, .string a0_3, .slice A0_4 l0_4.length c0_4] 47 (0, 0)) yw hb); have n1_ := z1o.mk (za yk hb); have n2_ := z1o.mk (hbox); have n3_ := z1o.mk ((by rw [hg]; exact (zc yk) : w.heap.size ≤ gb574)); have n4_ := z1o.mk ((by rw [hg]; exact (zc yk) : w.heap.size ≤ gb574)); have n5_ := z1o.mk ((by rw [hg]; exact Nat.ne_of_lt (zg (g := gb573) (o := .cells #[.int .i64 a0_0, .int .i64 a0_1, .string a0_2, .string a0_3, .slice A0_4 l0_4.length c0_4] 47 (0, 0)) yw) : gb573 ≠ gb574)); have n6_ := z1o.mk ((by rw [hg]; exact Nat.ne_of_gt (zg (g := gb573) (o := .cells #[.int .i64 a0_0, .int .i64 a0_1, .string a0_2, .string a0_3, .slice A0_4 l0_4.length c0_4] 47 (0, 0)) yw) : gb574 ≠ gb573)); clear BK573; clear HB; have BK573 := n0_; have HB := n1_; have BK574 := n2_; have GW574 := n3_; have GE574 := n4_; have NB573_574 := n5_; have NB574_573 := n6_; clear n0_ n1_ n2_ n3_ n4_ n5_ n6_; clear hb hbox hg; have hnb27 := NB573_574.out; have hnc27 := NB574_573.out; obtain ⟨hcz28_0, hcz28_1, hcz28_2, hcz28_3, hcz28_4⟩ := cbk5 BK573.out; obtain ⟨hfz28_0, hfz28_1, hfz28_2, hfz28_3, hfz28_4⟩ := cbf5 BK573.out; obtain ⟨hcz29_0, hcz29_1, hcz29_2, hcz29_3, hcz29_4⟩ := cbk5 BK574.out; obtain ⟨hfz29_0, hfz29_1, hfz29_2, hfz29_3, hfz29_4⟩ := cbf5 BK574.out))
   go_ret
   exact ⟨by first | rfl | (simp [zm, zl] <;> rfl) | (simp [*, zm, zl] <;> rfl), y1b⟩
 ·rw [if_neg c3] at H
  have c3b0 : (a0_0 == a1_0) = false := beq_eq_false_iff_ne.mpr c3
  have c3b1 : (a0_0 != a1_0) = true := bne_iff_ne.mpr c3
  obtain rfl := Option.some.inj H
  go_enter Try.func26, Try.ntmps26
  go_wp2_with (first | ((with_reducible refine zq (N := 2) rfl ?_); refine zv ?hg (N := 2) ?hd (cs := #[.int .i64 a0_0, .int .i64 a0_1, .string a0_2, .string a0_3, .slice A0_4 l0_4.length c0_4]) (t := 47) ?hr ?_; (case hd => rfl); (case hg => rfl); (case hr => first | (go_simp; done) | (go_simp; rfl)); intro gb573 hg w30 hbox hb; have n0_ := z1o.mk (za y0 hb); have n1_ := z1o.mk (hbox); have n2_ := z1o.mk ((by rw [hg]; exact (zc y0) : w.heap.size ≤ gb573)); have n3_ := z1o.mk ((by rw [hg]; exact (zc y0) : w.heap.size ≤ gb573)); clear HB; have HB := n0_; have BK573 := n1_; have GW573 := n2_; have GE573 := n3_; clear n0_ n1_ n2_ n3_; clear hb hbox hg) | ((with_reducible refine zq (N := 3) rfl ?_); refine zv ?hg (N := 3) ?hd (cs := #[.int .i64 a1_0, .int .i64 a1_1, .string a1_2, .string a1_3, .slice A1_4 l1_4.length c1_4]) (t := 47) ?hr ?_; (case hd => rfl); (case hg => rfl); (case hr => first | (go_simp; done) | (go_simp; rfl)); intro gb574 hg w31 hbox hb; have n0_ := z1o.mk (zb (g := gb573) (o := .cells #[.int .i64 a0_0, .int .i64 a0_1, .string a0_2, .string a0_3, .slice A0_4 l0_4.length c0_4] 47 (0, 0)) yw hb); have n1_ := z1o.mk (za yk hb); have n2_ := z1o.mk (hbox); have n3_ := z1o.mk ((by rw [hg]; exact (zc yk) : w.heap.size ≤ gb574)); have n4_ := z1o.mk ((by rw [hg]; exact (zc yk) : w.heap.size ≤ gb574)); have n5_ := z1o.mk ((by rw [hg]; exact Nat.ne_of_lt (zg (g := gb573) (o := .cells #[.int .i64 a0_0, .int .i64 a0_1, .string a0_2, .string a0_3, .slice A0_4 l0_4.length c0_4] 47 (0, 0)) yw) : gb573 ≠ gb574)); have n6_ := z1o.mk ((by rw [hg]; exact Nat.ne_of_gt (zg (g := gb573) (o := .cells #[.int .i64 a0_0, .int .i64 a0_1, .string a0_2, .string a0_3, .slice A0_4 l0_4.length c0_4] 47 (0, 0)) yw) : gb574 ≠ gb573)); clear BK573; clear HB; have BK573 := n0_; have HB := n1_; have BK574 := n2_; have GW574 := n3_; have GE574 := n4_; have NB573_574 := n5_; have NB574_573 := n6_; clear n0_ n1_ n2_ n3_ n4_ n5_ n6_; clear hb hbox hg; have hnb32 := NB573_574.out; have hnc32 := NB574_573.out; obtain ⟨hcz33_0, hcz33_1, hcz33_2, hcz33_3, hcz33_4⟩ := cbk5 BK573.out; obtain ⟨hfz33_0, hfz33_1, hfz33_2, hfz33_3, hfz33_4⟩ := cbf5 BK573.out; obtain ⟨hcz34_0, hcz34_1, hcz34_2, hcz34_3, hcz34_4⟩ := cbk5 BK574.out; obtain ⟨hfz34_0, hfz34_1, hfz34_2, hfz34_3, hfz34_4⟩ := cbf5 BK574.out))
  go_ret
  exact ⟨by first | rfl | (simp [zm, zl] <;> rfl) | (simp [*, zm, zl] <;> rfl), y1b⟩
end Go.Proofs.Ytndjodgcemgpfaa.Q
end
