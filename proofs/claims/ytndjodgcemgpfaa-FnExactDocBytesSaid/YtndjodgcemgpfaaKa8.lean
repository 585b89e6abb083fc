/- A part of the proof: the texts Qpdoc, Qpdoc2, Qldoc, packed. -/
import Derived.Laws.BitsAllLaws
import Derived.Test.YtndjodgcemgpfaaKa7

section
set_option linter.unusedVariables false
set_option linter.unusedSimpArgs false
namespace Go.Proofs.Ytndjodgcemgpfaa.Q
open Go.RowKit Go.Proofs.YtndjodgcemgpfaaW.PrintWords Go.Proofs.YtndjodgcemgpfaaW.PrintLast Go.Proofs.YtndjodgcemgpfaaW.PrintMore
def putL (n : Nat) : List Int := if h : n < 128 then [(n : Int)] else ((128 + n % 128 : Nat) : Int) :: putL (n / 128)
termination_by n
decreasing_by omega
theorem putL_small {n : Nat} (h : n < 128) : putL n = [(n : Int)] := by rw [putL, dif_pos h]
theorem putL_big {n : Nat} (h : ¬ n < 128) : putL n = ((128 + n % 128 : Nat) : Int) :: putL (n / 128) := by rw [putL, dif_neg h]
theorem putL_length : ∀ (d n : Nat), n < 128 ^ (d + 1) → (putL n).length ≤ d + 1
  | 0, n, h => by rw [putL_small (by simpa using h)]; simp
  | d + 1, n, h => by
    by_cases hn : n < 128
    · rw [putL_small hn]; simp
    · rw [putL_big hn, List.length_cons]
      have := putL_length d (n / 128) (by rw [Nat.pow_succ] at h; omega)
      omega
theorem putL_len (n : Nat) (h : n ≤ 9223372036854775807) : (putL n).length ≤ 9 := putL_length 8 n (by omega)
theorem l03Put_ev : ∀ (d n : Nat), n < 128 ^ (d + 1) → n ≤ 9223372036854775807 → Ev (fun k => spec_l03Put.f k (n : Int)) (putL n) := by
  intro d
  induction d with
  | zero =>
    intro n h hb
    have hn : n < 128 := by simpa using h
    refine Ev.step (fun k => spec_l03Put.f.eq_2 _ k) (Ev.ite_pos (by omega) (Ev.eq (Ev.now _) ?_))
    rw [putL_small hn]
    congr 1
    omega
  | succ d ih =>
    intro n h hb
    by_cases hn : n < 128
    · refine Ev.step (fun k => spec_l03Put.f.eq_2 _ k) (Ev.ite_pos (by omega) (Ev.eq (Ev.now _) ?_))
      rw [putL_small hn]
      congr 1
      omega
    · have h1 : wrap64 (Int.tdiv (n : Int) 128) = ((n / 128 : Nat) : Int) := by
        rw [Int.tdiv_eq_ediv_of_nonneg (by omega), wrap64_of (by omega) (by omega)]
        omega
      have h2 : (wrap64 (128 + (Int.tmod (n : Int) 128))) % 256 = ((128 + n % 128 : Nat) : Int) := by
        rw [Int.tmod_eq_emod_of_nonneg (by omega), wrap64_of (by omega) (by omega)]
        omega
      have hlt : n / 128 < 128 ^ (d + 1) := by rw [Nat.pow_succ] at h; omega
      refine Ev.step (fun k => spec_l03Put.f.eq_2 _ k) (Ev.ite_neg (by omega) (Ev.some_bind ?_))
      rw [h1, h2]
      refine Ev.bind (ih (n / 128) hlt (by omega)) (Ev.ite_pos ?_ (Ev.eq (Ev.now _) (by rw [putL_big hn]; rfl)))
      have := putL_len (n / 128) (by omega)
      simp only [List.length_singleton]
      omega
theorem l03Put (n : Nat) (hb : n ≤ 9223372036854775807) : Ev (fun k => spec_l03Put.f k (n : Int)) (putL n) := l03Put_ev 8 n (by omega) hb
theorem or128 : ∀ a : Nat, a < 256 → a ||| 128 = 128 + a % 128 := by decide +kernel
theorem putInt_l0 : ∀ (d n : Nat) (acc : List Int), n < 128 ^ (d + 1) → n ≤ 9223372036854775807 → acc.length + (putL n).length < 140737488355328 → Ev (fun k => impl_putInt.l0 k acc (n : Int)) (acc ++ putL n) := by
  intro d
  induction d with
  | zero =>
    intro n acc h hb hl
    have hn : n < 128 := by simpa using h
    refine Ev.step (fun k => impl_putInt.l0.eq_2 _ _ k) (Ev.ite_neg (by omega) (Ev.ite_pos (by omega) (Ev.eq (Ev.now _) ?_)))
    rw [putL_small hn]
    congr 2
    omega
  | succ d ih =>
    intro n acc h hb hl
    by_cases hn : n < 128
    · refine Ev.step (fun k => impl_putInt.l0.eq_2 _ _ k) (Ev.ite_neg (by omega) (Ev.ite_pos (by omega) (Ev.eq (Ev.now _) ?_)))
      rw [putL_small hn]
      congr 2
      omega
    · have h1 : (n : Int) / 128 = ((n / 128 : Nat) : Int) := by omega
      have h2 : Go.bits .or .u8 ((n : Int) % 256) 128 = ((128 + n % 128 : Nat) : Int) := by
        have e : (n : Int) % 256 = ((n % 256 : Nat) : Int) := by omega
        have := or128 (n % 256) (by omega)
        rw [e]
        have hb8 := u8_or_nat (n % 256) 128 (by omega) (by omega)
        have e2 : ((128 : Nat) : Int) = 128 := rfl
        rw [e2] at hb8
        rw [hb8, this]
        omega
      have hlt : n / 128 < 128 ^ (d + 1) := by rw [Nat.pow_succ] at h; omega
      rw [putL_big hn, List.length_cons] at hl
      refine Ev.step (fun k => impl_putInt.l0.eq_2 _ _ k) (Ev.ite_pos (by omega) (Ev.ite_pos (by omega) ?_))
      rw [h1, h2, putL_big hn]
      refine Ev.eq (ih (n / 128) _ hlt (by omega) (by rw [List.length_append, List.length_singleton]; omega)) (by simp)
theorem putInt_ev (acc : List Int) (n : Nat) (hb : n ≤ 9223372036854775807) (hl : acc.length + (putL n).length < 140737488355328) : Ev (fun k => impl_putInt.f k acc (n : Int)) (acc ++ putL n) := putInt_l0 8 n acc (by omega) hb hl
def txtL (s : ByteArray) : List Int := putL s.size ++ bytesOf s
theorem putText_ev (acc : List Int) (s : ByteArray) (hb : s.size ≤ 9223372036854775807) (hl : acc.length + (txtL s).length < 140737488355328) : Ev (fun k => impl_putText.f k acc s) (acc ++ txtL s) := by
  unfold txtL at hl ⊢
  rw [List.length_append, bytesOf_length] at hl
  refine Ev.bind (putInt_ev acc s.size hb (by omega)) (Ev.ite_pos (by rw [List.length_append]; omega) (Ev.eq (Ev.now _) (by simp)))
theorem l06PutText_ev (acc : List Int) (s : ByteArray) (hb : s.size ≤ 9223372036854775807) (hl : acc.length + (txtL s).length < 140737488355328) : Ev (fun k => spec_l06PutText.f k acc s) (acc ++ txtL s) := by
  unfold txtL at hl ⊢
  rw [List.length_append, bytesOf_length] at hl
  refine Ev.bind (l03Put s.size hb) (Ev.ite_pos (by omega) (Ev.some_bind (Ev.ite_pos (by rw [List.length_append]; omega) (Ev.eq (Ev.now _) (by simp)))))
def numN (n : Int) : Nat := if n < 0 then (-2 * n - 1).toNat else (2 * n).toNat
def numL (n : Int) : List Int := putL (numN n)
def OkN (n : Int) : Prop := -1000000000000 ≤ n ∧ n ≤ 1000000000000
theorem l06PutNumber_ev (acc : List Int) (n : Int) (hb : OkN n) (hl : acc.length + (numL n).length < 140737488355328) : Ev (fun k => spec_l06PutNumber.f k acc n) (acc ++ numL n) := by
  obtain ⟨h0, h1⟩ := hb
  unfold numL numN at hl ⊢
  unfold spec_l06PutNumber.f
  by_cases h : n < 0
  · rw [if_pos h] at hl ⊢
    have e : wrap64 ((wrap64 ((-2) * n)) - 1) = (((-2 * n - 1).toNat : Nat) : Int) := by
      rw [wrap64_of (x := (-2) * n) (by omega) (by omega), wrap64_of (by omega) (by omega)]
      omega
    refine Ev.ite_pos h ?_
    rw [e]
    exact Ev.bind (l03Put _ (by omega)) (Ev.ite_pos (by omega) (Ev.now _))
  · rw [if_neg h] at hl ⊢
    have e : wrap64 (2 * n) = (((2 * n).toNat : Nat) : Int) := by
      rw [wrap64_of (by omega) (by omega)]
      omega
    refine Ev.ite_neg h ?_
    rw [e]
    exact Ev.bind (l03Put _ (by omega)) (Ev.ite_pos (by omega) (Ev.now _))
def FitT (t : ByteArray) : Prop := t.size ≤ 65536
def FitV (x : S84) : Prop := x.f0.size ≤ 65536 ∧ x.f1.length ≤ 4096 ∧ x.f2.length ≤ 4096 ∧ (∀ t ∈ x.f1, FitT t) ∧ ∀ n ∈ x.f2, OkN n
def FitD (id : ByteArray) (ds : List S84) : Prop := id.size ≤ 65536 ∧ ds.length ≤ 4096 ∧ ∀ x ∈ ds, FitV x
section
variable (id : ByteArray) (ds : List S84)
theorem fits_l2 (i : Nat) (hi : i < 1048576) (x : S84) (hl : x.f2.length ≤ 1048576) : ∀ (rest pre : List Int), x.f2 = pre ++ rest →
    ((∀ n ∈ rest, OkN n) → ∀ r, Ev (fun k => spec_l06Fits.l0 k ((i + 1 : Nat) : Int) id ds) r → Ev (fun k => spec_l06Fits.l2 k (i : Int) (pre.length : Int) id ds x.f0 x.f1 x.f2) r) ∧
    ((¬ ∀ n ∈ rest, OkN n) → Ev (fun k => spec_l06Fits.l2 k (i : Int) (pre.length : Int) id ds x.f0 x.f1 x.f2) false)
  | [], pre, hx => by
    refine ⟨fun _ r hr => ?_, fun h => absurd (by simp) h⟩
    refine Ev.step (fun k => spec_l06Fits.l2.eq_2 _ _ _ _ _ _ _ k) (Ev.ite_neg (by rw [hx]; exact end_lt) ?_)
    rw [wrap64_of (by omega) (by omega)]
    exact hr
  | n :: rest, pre, hx => by
    have hlt : pre.length < 1048576 := by rw [hx] at hl; simp at hl; omega
    have hrd : rd x.f2 (pre.length : Int) = n := by rw [hx]; exact mid_getD _
    have ih := fits_l2 i hi x hl rest (pre ++ [n]) (by rw [hx]; simp)
    refine ⟨fun h r hr => ?_, fun h => ?_⟩
    · have hn := h n (by simp)
      refine Ev.step (fun k => spec_l06Fits.l2.eq_2 _ _ _ _ _ _ _ k) (Ev.ite_pos (by rw [hx]; exact mid_lt) (Ev.ite_pos (by omega) ?_))
      rw [hrd, wrap_next (x := n) (by omega)]
      exact Ev.ite_neg (by have := hn.1; omega) (Ev.ite_neg (by have := hn.2; omega) (ih.1 (fun m hm => h m (by simp [hm])) r hr))
    · refine Ev.step (fun k => spec_l06Fits.l2.eq_2 _ _ _ _ _ _ _ k) (Ev.ite_pos (by rw [hx]; exact mid_lt) (Ev.ite_pos (by omega) ?_))
      rw [hrd, wrap_next (x := n) (by omega)]
      by_cases h0 : n < -1000000000000
      · exact Ev.ite_pos h0 (Ev.now _)
      · refine Ev.ite_neg h0 ?_
        by_cases h1 : n > 1000000000000
        · exact Ev.ite_pos h1 (Ev.now _)
        · exact Ev.ite_neg h1 (ih.2 (fun h2 => h (fun m hm => by
            rcases List.mem_cons.1 hm with rfl | hm
            · exact ⟨by omega, by omega⟩
            · exact h2 m hm)))
theorem fits_l1 (i : Nat) (hi : i < 1048576) (x : S84) (hl : x.f1.length ≤ 1048576) (hl2 : x.f2.length ≤ 1048576) : ∀ (rest pre : List ByteArray), x.f1 = pre ++ rest →
    (((∀ t ∈ rest, FitT t) ∧ ∀ n ∈ x.f2, OkN n) → ∀ r, Ev (fun k => spec_l06Fits.l0 k ((i + 1 : Nat) : Int) id ds) r → Ev (fun k => spec_l06Fits.l1 k (i : Int) (pre.length : Int) id ds x.f0 x.f1 x.f2) r) ∧
    ((¬ ((∀ t ∈ rest, FitT t) ∧ ∀ n ∈ x.f2, OkN n)) → Ev (fun k => spec_l06Fits.l1 k (i : Int) (pre.length : Int) id ds x.f0 x.f1 x.f2) false)
  | [], pre, hx => by
    have h2 := fits_l2 id ds i hi x hl2 x.f2 [] rfl
    refine ⟨fun h r hr => ?_, fun h => ?_⟩
    · exact Ev.step (fun k => spec_l06Fits.l1.eq_2 _ _ _ _ _ _ _ k) (Ev.ite_neg (by rw [hx]; exact end_lt) (h2.1 h.2 r hr))
    · exact Ev.step (fun k => spec_l06Fits.l1.eq_2 _ _ _ _ _ _ _ k) (Ev.ite_neg (by rw [hx]; exact end_lt) (h2.2 (fun h3 => h ⟨by simp, h3⟩)))
  | t :: rest, pre, hx => by
    have hlt : pre.length < 1048576 := by rw [hx] at hl; simp at hl; omega
    have hrd : rdOf ByteArray.empty x.f1 (pre.length : Int) = t := by rw [hx]; exact mid_getD _
    have ih := fits_l1 i hi x hl hl2 rest (pre ++ [t]) (by rw [hx]; simp)
    refine ⟨fun h r hr => ?_, fun h => ?_⟩
    · have hn : t.size ≤ 65536 := h.1 t (by simp)
      refine Ev.step (fun k => spec_l06Fits.l1.eq_2 _ _ _ _ _ _ _ k) (Ev.ite_pos (by rw [hx]; exact mid_lt) (Ev.ite_pos (by omega) ?_))
      rw [hrd, wrap_next (x := t) (by omega)]
      exact Ev.ite_neg (by omega) (ih.1 ⟨fun m hm => h.1 m (by simp [hm]), h.2⟩ r hr)
    · refine Ev.step (fun k => spec_l06Fits.l1.eq_2 _ _ _ _ _ _ _ k) (Ev.ite_pos (by rw [hx]; exact mid_lt) (Ev.ite_pos (by omega) ?_))
      rw [hrd, wrap_next (x := t) (by omega)]
      by_cases h0 : (t.size : Int) > 65536
      · exact Ev.ite_pos h0 (Ev.now _)
      · refine Ev.ite_neg h0 (ih.2 (fun h2 => h ⟨fun m hm => ?_, h2.2⟩))
        rcases List.mem_cons.1 hm with rfl | hm
        · show m.size ≤ 65536
          omega
        · exact h2.1 m hm
theorem fits_l0 (hl : ds.length ≤ 1048576) (hv : ∀ x ∈ ds, x.f1.length ≤ 1048576 ∧ x.f2.length ≤ 1048576) : ∀ (rest pre : List S84), ds = pre ++ rest →
    ((∀ x ∈ rest, FitV x) → Ev (fun k => spec_l06Fits.l0 k (pre.length : Int) id ds) true) ∧ ((¬ ∀ x ∈ rest, FitV x) → Ev (fun k => spec_l06Fits.l0 k (pre.length : Int) id ds) false)
  | [], pre, hx => by
    refine ⟨fun h => ?_, fun h => absurd (by simp) h⟩
    exact Ev.step (fun k => spec_l06Fits.l0.eq_2 _ _ _ k) (Ev.ite_neg (by rw [hx]; exact end_lt) (Ev.now _))
  | x :: rest, pre, hx => by
    have hlt : pre.length < 1048576 := by rw [hx] at hl; simp at hl; omega
    have hrd : rd_T84 ds (pre.length : Int) = x := by rw [hx]; exact mid_getD _
    have hvx := hv x (by rw [hx]; simp)
    have ih := fits_l0 hl hv rest (pre ++ [x]) (by rw [hx]; simp)
    have e : ((pre ++ [x]).length : Int) = ((pre.length + 1 : Nat) : Int) := by simp
    rw [e] at ih
    have h1 := fits_l1 id ds pre.length hlt x hvx.1 hvx.2 x.f1 [] rfl
    refine ⟨fun h => ?_, fun h => ?_⟩
    · obtain ⟨ha, hb, hc, hd, he⟩ := h x (by simp)
      refine Ev.step (fun k => spec_l06Fits.l0.eq_2 _ _ _ k) (Ev.ite_pos (by rw [hx]; exact mid_lt) (Ev.ite_pos (by omega) ?_))
      rw [hrd]
      refine Ev.ite_neg (by omega) (Ev.ite_neg (by omega) (Ev.step (fun k => spec_l06Fits.j2.eq_2 _ _ _ _ _ _ _ k) (Ev.ite_neg (by simp; omega) (h1.1 ⟨hd, he⟩ true (ih.1 (fun y hy => h y (by simp [hy])))))))
    · refine Ev.step (fun k => spec_l06Fits.l0.eq_2 _ _ _ k) (Ev.ite_pos (by rw [hx]; exact mid_lt) (Ev.ite_pos (by omega) ?_))
      rw [hrd]
      have big : Ev (fun k => spec_l06Fits.j2 k (pre.length : Int) true id ds x.f0 x.f1 x.f2) false := Ev.step (fun k => spec_l06Fits.j2.eq_2 _ _ _ _ _ _ _ k) (Ev.ite_pos rfl (Ev.now _))
      by_cases ha : (x.f0.size : Int) > 65536
      · exact Ev.ite_pos ha big
      · refine Ev.ite_neg ha ?_
        by_cases hb : (x.f1.length : Int) > 4096
        · exact Ev.ite_pos hb big
        · refine Ev.ite_neg hb ?_
          by_cases hc : (x.f2.length : Int) > 4096
          · exact Ev.step (fun k => spec_l06Fits.j2.eq_2 _ _ _ _ _ _ _ k) (Ev.ite_pos (by simpa using hc) (Ev.now _))
          · refine Ev.step (fun k => spec_l06Fits.j2.eq_2 _ _ _ _ _ _ _ k) (Ev.ite_neg (by simp; omega) ?_)
            by_cases hd : (∀ t ∈ x.f1, FitT t) ∧ ∀ n ∈ x.f2, OkN n
            · refine h1.1 hd false (ih.2 (fun h2 => h (fun y hy => ?_)))
              rcases List.mem_cons.1 hy with rfl | hy
              · exact ⟨by omega, by omega, by omega, hd.1, hd.2⟩
              · exact h2 y hy
            · exact h1.2 hd
theorem fits_ev (hl : ds.length ≤ 1048576) (hv : ∀ x ∈ ds, x.f1.length ≤ 1048576 ∧ x.f2.length ≤ 1048576) :
    (FitD id ds → Ev (fun k => spec_l06Fits.f k id ds) true) ∧ (¬ FitD id ds → Ev (fun k => spec_l06Fits.f k id ds) false) := by
  have h0 := fits_l0 id ds hl hv ds [] rfl
  refine ⟨fun h => ?_, fun h => ?_⟩
  · obtain ⟨ha, hb, hc⟩ := h
    exact Ev.ite_neg (by omega) (Ev.step (fun k => spec_l06Fits.j0.eq_2 _ _ _ k) (Ev.ite_neg (by simp; omega) (h0.1 hc)))
  · unfold spec_l06Fits.f
    by_cases ha : (id.size : Int) > 65536
    · exact Ev.ite_pos ha (Ev.step (fun k => spec_l06Fits.j0.eq_2 _ _ _ k) (Ev.ite_pos rfl (Ev.now _)))
    · refine Ev.ite_neg ha ?_
      by_cases hb : (ds.length : Int) > 4096
      · exact Ev.step (fun k => spec_l06Fits.j0.eq_2 _ _ _ k) (Ev.ite_pos (by simpa using hb) (Ev.now _))
      · exact Ev.step (fun k => spec_l06Fits.j0.eq_2 _ _ _ k) (Ev.ite_neg (by simp; omega) (h0.2 (fun h2 => h ⟨by omega, by omega, h2⟩)))
end
end Go.Proofs.Ytndjodgcemgpfaa.Q
end

section
set_option linter.unusedVariables false
set_option linter.unusedSimpArgs false
namespace Go.Proofs.Ytndjodgcemgpfaa.Q
open Go.RowKit Go.Proofs.YtndjodgcemgpfaaW.PrintWords Go.Proofs.YtndjodgcemgpfaaW.PrintLast Go.Proofs.YtndjodgcemgpfaaW.PrintMore
instance : DecidablePred OkN := fun n => inferInstanceAs (Decidable (_ ∧ _))
def valL (x : S84) : List Int := txtL x.f0 ++ (putL x.f1.length ++ (x.f1.flatMap txtL ++ (putL x.f2.length ++ x.f2.flatMap numL)))
def docL (id : ByteArray) (ds : List S84) : List Int := txtL id ++ (putL ds.length ++ ds.flatMap valL)
section
variable (id : ByteArray) (ds : List S84)
theorem bytes_l2 (i : Nat) (hi : i < 1048576) (x : S84) (hl : x.f2.length ≤ 1048576) (r : List Int) : ∀ (rest pre : List Int) (acc : List Int), x.f2 = pre ++ rest → (∀ n ∈ rest, OkN n) → acc.length + (rest.flatMap numL).length < 140737488355328 →
    Ev (fun k => spec_l06Bytes.l0 k (acc ++ rest.flatMap numL) ((i + 1 : Nat) : Int) id ds) r → Ev (fun k => spec_l06Bytes.l2 k acc (i : Int) (pre.length : Int) id ds x.f0 x.f1 x.f2) r
  | [], pre, acc, hx, ho, hb, hr => by
    refine Ev.step (fun k => spec_l06Bytes.l2.eq_2 _ _ _ _ _ _ _ _ k) (Ev.ite_neg (by rw [hx]; exact end_lt) ?_)
    rw [wrap64_of (by omega) (by omega)]
    simpa using hr
  | n :: rest, pre, acc, hx, ho, hb, hr => by
    have hlt : pre.length < 1048576 := by rw [hx] at hl; simp at hl; omega
    have hrd : rd x.f2 (pre.length : Int) = n := by rw [hx]; exact mid_getD _
    rw [List.flatMap_cons, List.length_append] at hb
    rw [List.flatMap_cons, ← List.append_assoc] at hr
    refine Ev.step (fun k => spec_l06Bytes.l2.eq_2 _ _ _ _ _ _ _ _ k) (Ev.ite_pos (by rw [hx]; exact mid_lt) (Ev.ite_pos (by omega) ?_))
    rw [hrd, wrap_next (x := n) (by omega)]
    exact Ev.bind (l06PutNumber_ev acc n (ho n (by simp)) (by omega)) (bytes_l2 i hi x hl r rest (pre ++ [n]) (acc ++ numL n) (by rw [hx]; simp) (fun m hm => ho m (by simp [hm])) (by rw [List.length_append]; omega) hr)
theorem bytes_l1 (i : Nat) (hi : i < 1048576) (x : S84) (hl : x.f1.length ≤ 1048576) (hl2 : x.f2.length ≤ 1048576) (r : List Int) : ∀ (rest pre : List ByteArray) (acc : List Int), x.f1 = pre ++ rest → (∀ t ∈ rest, FitT t) → (∀ n ∈ x.f2, OkN n) → acc.length + (rest.flatMap txtL).length + (putL x.f2.length).length + (x.f2.flatMap numL).length < 140737488355328 →
    Ev (fun k => spec_l06Bytes.l0 k (acc ++ (rest.flatMap txtL ++ (putL x.f2.length ++ x.f2.flatMap numL))) ((i + 1 : Nat) : Int) id ds) r → Ev (fun k => spec_l06Bytes.l1 k acc (i : Int) (pre.length : Int) id ds x.f0 x.f1 x.f2) r
  | [], pre, acc, hx, ho, ho2, hb, hr => by
    refine Ev.step (fun k => spec_l06Bytes.l1.eq_2 _ _ _ _ _ _ _ _ k) (Ev.ite_neg (by rw [hx]; exact end_lt) (Ev.bind (l03Put x.f2.length (by omega)) (Ev.ite_pos (by omega) ?_)))
    exact bytes_l2 id ds i hi x hl2 r x.f2 [] _ rfl ho2 (by rw [List.length_append]; omega) (by simpa using hr)
  | t :: rest, pre, acc, hx, ho, ho2, hb, hr => by
    have hlt : pre.length < 1048576 := by rw [hx] at hl; simp at hl; omega
    have hrd : rdOf ByteArray.empty x.f1 (pre.length : Int) = t := by rw [hx]; exact mid_getD _
    have ht : t.size ≤ 65536 := ho t (by simp)
    rw [List.flatMap_cons, List.length_append] at hb
    refine Ev.step (fun k => spec_l06Bytes.l1.eq_2 _ _ _ _ _ _ _ _ k) (Ev.ite_pos (by rw [hx]; exact mid_lt) (Ev.ite_pos (by omega) ?_))
    rw [hrd, wrap_next (x := t) (by omega)]
    exact Ev.bind (l06PutText_ev acc t (by omega) (by omega)) (bytes_l1 i hi x hl hl2 r rest (pre ++ [t]) (acc ++ txtL t) (by rw [hx]; simp) (fun m hm => ho m (by simp [hm])) ho2 (by rw [List.length_append]; omega) (by simpa [List.append_assoc] using hr))
theorem bytes_l0 (hl : ds.length ≤ 1048576) : ∀ (rest pre : List S84) (acc : List Int), ds = pre ++ rest → (∀ x ∈ rest, FitV x) → acc.length + (rest.flatMap valL).length < 140737488355328 →
    Ev (fun k => spec_l06Bytes.l0 k acc (pre.length : Int) id ds) (acc ++ rest.flatMap valL)
  | [], pre, acc, hx, ho, hb => by
    refine Ev.step (fun k => spec_l06Bytes.l0.eq_2 _ _ _ _ k) (Ev.ite_neg (by rw [hx]; exact end_lt) (Ev.eq (Ev.now _) (by simp)))
  | x :: rest, pre, acc, hx, ho, hb => by
    have hlt : pre.length < 1048576 := by rw [hx] at hl; simp at hl; omega
    have hrd : rd_T84 ds (pre.length : Int) = x := by rw [hx]; exact mid_getD _
    obtain ⟨ha, hb1, hc, hd, he⟩ := ho x (by simp)
    have hv : (valL x).length = (txtL x.f0).length + (putL x.f1.length).length + (x.f1.flatMap txtL).length + (putL x.f2.length).length + (x.f2.flatMap numL).length := by
      unfold valL
      simp only [List.length_append]
      omega
    rw [List.flatMap_cons, List.length_append] at hb
    refine Ev.step (fun k => spec_l06Bytes.l0.eq_2 _ _ _ _ k) (Ev.ite_pos (by rw [hx]; exact mid_lt) (Ev.ite_pos (by omega) ?_))
    rw [hrd]
    refine Ev.bind (l06PutText_ev acc x.f0 (by omega) (by omega)) (Ev.bind (l03Put x.f1.length (by omega)) (Ev.ite_pos (by rw [List.length_append]; omega) ?_))
    refine bytes_l1 id ds pre.length hlt x (by omega) (by omega) _ x.f1 [] _ rfl hd he (by simp only [List.length_append]; omega) ?_
    have e : (pre.length + 1 : Nat) = (pre ++ [x]).length := by simp
    rw [e]
    refine Ev.eq (Ev.congr (fun k => ?_) (bytes_l0 hl rest (pre ++ [x]) (acc ++ valL x) (by rw [hx]; simp) (fun y hy => ho y (by simp [hy])) (by rw [List.length_append]; omega))) (by simp)
    simp [valL, List.append_assoc]
theorem l06Bytes_ev (hf : FitD id ds) (hb : (docL id ds).length < 140737488355328) : Ev (fun k => spec_l06Bytes.f k id ds) (docL id ds) := by
  obtain ⟨h1, h2, h3⟩ := hf
  unfold docL at hb ⊢
  simp only [List.length_append] at hb
  refine Ev.bind (l06PutText_ev [] id (by omega) (by simp only [List.length_nil]; omega)) (Ev.bind (l03Put ds.length (by omega)) (Ev.ite_pos (by simp only [List.nil_append]; omega) ?_))
  refine Ev.eq (bytes_l0 id ds (by omega) ds [] _ rfl h3 (by simp only [List.nil_append, List.length_append]; omega)) (by simp)
theorem impl_l2 (i : Nat) (hi : i < 1048576) (xs : List Int) (hl : xs.length ≤ 1048576) : ∀ (rest pre : List Int), xs = pre ++ rest →
    ((∀ n ∈ rest, OkN n) → ∀ r, Ev (fun k => impl_DocBytes.l0 k ds (ds.length : Int) ((i + 1 : Nat) : Int) id ds) r → Ev (fun k => impl_DocBytes.l2 k ds (ds.length : Int) (i : Int) xs (xs.length : Int) (pre.length : Int) id ds) r) ∧
    ((¬ ∀ n ∈ rest, OkN n) → Ev (fun k => impl_DocBytes.l2 k ds (ds.length : Int) (i : Int) xs (xs.length : Int) (pre.length : Int) id ds) ([], 12))
  | [], pre, hx => by
    refine ⟨fun _ r hr => ?_, fun h => absurd (by simp) h⟩
    refine Ev.step (fun k => impl_DocBytes.l2.eq_2 _ _ _ _ _ _ _ _ k) (Ev.ite_neg (by rw [hx]; exact end_lt) ?_)
    rw [wrap64_of (by omega) (by omega)]
    exact hr
  | n :: rest, pre, hx => by
    have hlt : pre.length < 1048576 := by rw [hx] at hl; simp at hl; omega
    have hrd : rd xs (pre.length : Int) = n := by rw [hx]; exact mid_getD _
    have hm : (pre.length : Int) < (xs.length : Int) := by rw [hx]; exact mid_lt
    have ih := impl_l2 i hi xs hl rest (pre ++ [n]) (by rw [hx]; simp)
    have hw : impl_within.f n (-1000000000000) 1000000000000 = some (decide (OkN n)) := by
      unfold impl_within.f OkN
      by_cases h : n ≥ -1000000000000
      · rw [if_pos h]
        congr 1
        simp [show -1000000000000 ≤ n from h]
      · rw [if_neg h]
        congr 1
        simp [show ¬ -1000000000000 ≤ n from h]
    refine ⟨fun h r hr => ?_, fun h => ?_⟩
    · refine Ev.step (fun k => impl_DocBytes.l2.eq_2 _ _ _ _ _ _ _ _ k) (Ev.ite_pos hm (Ev.ite_pos (by omega) (Ev.ite_pos hm ?_)))
      rw [hrd, wrap_next (x := n) (by omega)]
      exact Ev.const hw (Ev.ite_pos (by simpa using h n (by simp)) (ih.1 (fun m hm => h m (by simp [hm])) r hr))
    · refine Ev.step (fun k => impl_DocBytes.l2.eq_2 _ _ _ _ _ _ _ _ k) (Ev.ite_pos hm (Ev.ite_pos (by omega) (Ev.ite_pos hm ?_)))
      rw [hrd, wrap_next (x := n) (by omega)]
      refine Ev.const hw ?_
      by_cases h0 : OkN n
      · refine Ev.ite_pos (by simpa using h0) (ih.2 (fun h2 => h (fun m hm => ?_)))
        rcases List.mem_cons.1 hm with rfl | hm
        · exact h0
        · exact h2 m hm
      · exact Ev.ite_neg (by simpa using h0) (Ev.now _)
theorem impl_l1 (i : Nat) (hi : i < 1048576) (x : S84) (hl : x.f1.length ≤ 1048576) (hl2 : x.f2.length ≤ 1048576) : ∀ (rest pre : List ByteArray), x.f1 = pre ++ rest →
    (((∀ t ∈ rest, FitT t) ∧ ∀ n ∈ x.f2, OkN n) → ∀ r, Ev (fun k => impl_DocBytes.l0 k ds (ds.length : Int) ((i + 1 : Nat) : Int) id ds) r → Ev (fun k => impl_DocBytes.l1 k ds (ds.length : Int) (i : Int) x.f1 (x.f1.length : Int) (pre.length : Int) id ds x.f0 x.f1 x.f2) r) ∧
    ((¬ ((∀ t ∈ rest, FitT t) ∧ ∀ n ∈ x.f2, OkN n)) → Ev (fun k => impl_DocBytes.l1 k ds (ds.length : Int) (i : Int) x.f1 (x.f1.length : Int) (pre.length : Int) id ds x.f0 x.f1 x.f2) ([], 12))
  | [], pre, hx => by
    have h2 := impl_l2 id ds i hi x.f2 hl2 x.f2 [] rfl
    refine ⟨fun h r hr => ?_, fun h => ?_⟩
    · exact Ev.step (fun k => impl_DocBytes.l1.eq_2 _ _ _ _ _ _ _ _ _ _ _ k) (Ev.ite_neg (by rw [hx]; exact end_lt) (h2.1 h.2 r hr))
    · exact Ev.step (fun k => impl_DocBytes.l1.eq_2 _ _ _ _ _ _ _ _ _ _ _ k) (Ev.ite_neg (by rw [hx]; exact end_lt) (h2.2 (fun h3 => h ⟨by simp, h3⟩)))
  | t :: rest, pre, hx => by
    have hlt : pre.length < 1048576 := by rw [hx] at hl; simp at hl; omega
    have hrd : rdOf ByteArray.empty x.f1 (pre.length : Int) = t := by rw [hx]; exact mid_getD _
    have hm : (pre.length : Int) < (x.f1.length : Int) := by rw [hx]; exact mid_lt
    have ih := impl_l1 i hi x hl hl2 rest (pre ++ [t]) (by rw [hx]; simp)
    refine ⟨fun h r hr => ?_, fun h => ?_⟩
    · have hn : t.size ≤ 65536 := h.1 t (by simp)
      refine Ev.step (fun k => impl_DocBytes.l1.eq_2 _ _ _ _ _ _ _ _ _ _ _ k) (Ev.ite_pos hm (Ev.ite_pos (by omega) (Ev.ite_pos hm ?_)))
      rw [hrd, wrap_next (x := t) (by omega)]
      exact Ev.ite_neg (by omega) (ih.1 ⟨fun m hm => h.1 m (by simp [hm]), h.2⟩ r hr)
    · refine Ev.step (fun k => impl_DocBytes.l1.eq_2 _ _ _ _ _ _ _ _ _ _ _ k) (Ev.ite_pos hm (Ev.ite_pos (by omega) (Ev.ite_pos hm ?_)))
      rw [hrd, wrap_next (x := t) (by omega)]
      by_cases h0 : (t.size : Int) > 65536
      · exact Ev.ite_pos h0 (Ev.now _)
      · refine Ev.ite_neg h0 (ih.2 (fun h2 => h ⟨fun m hm => ?_, h2.2⟩))
        rcases List.mem_cons.1 hm with rfl | hm
        · show m.size ≤ 65536
          omega
        · exact h2.1 m hm
theorem impl_l5 (i : Nat) (hi : i < 1048576) (xs : List Int) (hl : xs.length ≤ 1048576) (r : List Int × Int) : ∀ (rest pre : List Int) (acc : List Int), xs = pre ++ rest → (∀ n ∈ rest, OkN n) → acc.length + (rest.flatMap numL).length < 140737488355328 →
    Ev (fun k => impl_DocBytes.l3 k (acc ++ rest.flatMap numL) ds (ds.length : Int) ((i + 1 : Nat) : Int)) r → Ev (fun k => impl_DocBytes.l5 k acc ds (ds.length : Int) (i : Int) xs (xs.length : Int) (pre.length : Int)) r
  | [], pre, acc, hx, ho, hb, hr => by
    refine Ev.step (fun k => impl_DocBytes.l5.eq_2 _ _ _ _ _ _ _ k) (Ev.ite_neg (by rw [hx]; exact end_lt) ?_)
    rw [wrap64_of (by omega) (by omega)]
    simpa using hr
  | n :: rest, pre, acc, hx, ho, hb, hr => by
    have hlt : pre.length < 1048576 := by rw [hx] at hl; simp at hl; omega
    have hrd : rd xs (pre.length : Int) = n := by rw [hx]; exact mid_getD _
    have hm : (pre.length : Int) < (xs.length : Int) := by rw [hx]; exact mid_lt
    obtain ⟨h0, h1⟩ := ho n (by simp)
    rw [List.flatMap_cons, List.length_append] at hb
    rw [List.flatMap_cons, ← List.append_assoc] at hr
    have next := impl_l5 i hi xs hl r rest (pre ++ [n]) (acc ++ numL n) (by rw [hx]; simp) (fun m hm => ho m (by simp [hm])) (by rw [List.length_append]; omega) hr
    refine Ev.step (fun k => impl_DocBytes.l5.eq_2 _ _ _ _ _ _ _ k) (Ev.ite_pos hm (Ev.ite_pos (by omega) (Ev.ite_pos hm ?_)))
    rw [hrd, wrap_next (x := n) (by omega)]
    unfold numL numN at hb next
    by_cases h : n < 0
    · rw [if_pos h] at hb next
      have e : wrap64 ((wrap64 ((-2) * n)) - 1) = (((-2 * n - 1).toNat : Nat) : Int) := by
        rw [wrap64_of (x := (-2) * n) (by omega) (by omega), wrap64_of (by omega) (by omega)]
        omega
      refine Ev.ite_pos h ?_
      rw [e]
      exact Ev.bind (putInt_ev acc _ (by omega) (by omega)) next
    · rw [if_neg h] at hb next
      have e : wrap64 (2 * n) = (((2 * n).toNat : Nat) : Int) := by
        rw [wrap64_of (by omega) (by omega)]
        omega
      refine Ev.ite_neg h ?_
      rw [e]
      exact Ev.bind (putInt_ev acc _ (by omega) (by omega)) next
theorem impl_l4 (i : Nat) (hi : i < 1048576) (x : S84) (hl : x.f1.length ≤ 1048576) (hl2 : x.f2.length ≤ 1048576) (r : List Int × Int) : ∀ (rest pre : List ByteArray) (acc : List Int), x.f1 = pre ++ rest → (∀ t ∈ rest, FitT t) → (∀ n ∈ x.f2, OkN n) → acc.length + (rest.flatMap txtL).length + (putL x.f2.length).length + (x.f2.flatMap numL).length < 140737488355328 →
    Ev (fun k => impl_DocBytes.l3 k (acc ++ (rest.flatMap txtL ++ (putL x.f2.length ++ x.f2.flatMap numL))) ds (ds.length : Int) ((i + 1 : Nat) : Int)) r → Ev (fun k => impl_DocBytes.l4 k acc ds (ds.length : Int) (i : Int) x.f1 (x.f1.length : Int) (pre.length : Int) x.f0 x.f1 x.f2) r
  | [], pre, acc, hx, ho, ho2, hb, hr => by
    refine Ev.step (fun k => impl_DocBytes.l4.eq_2 _ _ _ _ _ _ _ _ _ _ k) (Ev.ite_neg (by rw [hx]; exact end_lt) (Ev.bind (putInt_ev acc x.f2.length (by omega) (by omega)) ?_))
    exact impl_l5 ds i hi x.f2 hl2 r x.f2 [] _ rfl ho2 (by rw [List.length_append]; omega) (by simpa using hr)
  | t :: rest, pre, acc, hx, ho, ho2, hb, hr => by
    have hlt : pre.length < 1048576 := by rw [hx] at hl; simp at hl; omega
    have hrd : rdOf ByteArray.empty x.f1 (pre.length : Int) = t := by rw [hx]; exact mid_getD _
    have hm : (pre.length : Int) < (x.f1.length : Int) := by rw [hx]; exact mid_lt
    have ht : t.size ≤ 65536 := ho t (by simp)
    rw [List.flatMap_cons, List.length_append] at hb
    refine Ev.step (fun k => impl_DocBytes.l4.eq_2 _ _ _ _ _ _ _ _ _ _ k) (Ev.ite_pos hm (Ev.ite_pos (by omega) (Ev.ite_pos hm ?_)))
    rw [hrd, wrap_next (x := t) (by omega)]
    exact Ev.bind (putText_ev acc t (by omega) (by omega)) (impl_l4 i hi x hl hl2 r rest (pre ++ [t]) (acc ++ txtL t) (by rw [hx]; simp) (fun m hm => ho m (by simp [hm])) ho2 (by rw [List.length_append]; omega) (by simpa [List.append_assoc] using hr))
theorem impl_l3 (hl : ds.length ≤ 1048576) : ∀ (rest pre : List S84) (acc : List Int), ds = pre ++ rest → (∀ x ∈ rest, FitV x) → acc.length + (rest.flatMap valL).length < 140737488355328 →
    Ev (fun k => impl_DocBytes.l3 k acc ds (ds.length : Int) (pre.length : Int)) (acc ++ rest.flatMap valL, 0)
  | [], pre, acc, hx, ho, hb => by
    refine Ev.step (fun k => impl_DocBytes.l3.eq_2 _ _ _ _ k) (Ev.ite_neg (by rw [hx]; exact end_lt) (Ev.eq (Ev.now _) (by simp)))
  | x :: rest, pre, acc, hx, ho, hb => by
    have hlt : pre.length < 1048576 := by rw [hx] at hl; simp at hl; omega
    have hrd : rd_T84 ds (pre.length : Int) = x := by rw [hx]; exact mid_getD _
    have hm : (pre.length : Int) < (ds.length : Int) := by rw [hx]; exact mid_lt
    obtain ⟨ha, hb1, hc, hd, he⟩ := ho x (by simp)
    have hv : (valL x).length = (txtL x.f0).length + (putL x.f1.length).length + (x.f1.flatMap txtL).length + (putL x.f2.length).length + (x.f2.flatMap numL).length := by
      unfold valL
      simp only [List.length_append]
      omega
    rw [List.flatMap_cons, List.length_append] at hb
    refine Ev.step (fun k => impl_DocBytes.l3.eq_2 _ _ _ _ k) (Ev.ite_pos hm (Ev.ite_pos (by omega) (Ev.ite_pos hm ?_)))
    rw [hrd]
    refine Ev.bind (putText_ev acc x.f0 (by omega) (by omega)) (Ev.bind (putInt_ev _ x.f1.length (by omega) (by rw [List.length_append]; omega)) ?_)
    refine impl_l4 ds pre.length hlt x (by omega) (by omega) _ x.f1 [] _ rfl hd he (by simp only [List.length_append]; omega) ?_
    have e : (pre.length + 1 : Nat) = (pre ++ [x]).length := by simp
    rw [e]
    refine Ev.eq (Ev.congr (fun k => ?_) (impl_l3 hl rest (pre ++ [x]) (acc ++ valL x) (by rw [hx]; simp) (fun y hy => ho y (by simp [hy])) (by rw [List.length_append]; omega))) (by simp)
    simp [valL, List.append_assoc]
theorem impl_l0 (hl : ds.length ≤ 4096) (hid : id.size ≤ 65536) (hv : ∀ x ∈ ds, x.f1.length ≤ 1048576 ∧ x.f2.length ≤ 1048576) (hb : (docL id ds).length < 140737488355328) : ∀ (rest pre : List S84), ds = pre ++ rest →
    ((∀ x ∈ rest, FitV x) → (∀ x ∈ pre, FitV x) → Ev (fun k => impl_DocBytes.l0 k ds (ds.length : Int) (pre.length : Int) id ds) (docL id ds, 0)) ∧ ((¬ ∀ x ∈ rest, FitV x) → Ev (fun k => impl_DocBytes.l0 k ds (ds.length : Int) (pre.length : Int) id ds) ([], 12))
  | [], pre, hx => by
    refine ⟨fun _ h => ?_, fun h => absurd (by simp) h⟩
    have hall : ∀ x ∈ ds, FitV x := by rw [hx]; simpa using h
    unfold docL at hb ⊢
    simp only [List.length_append] at hb
    refine Ev.step (fun k => impl_DocBytes.l0.eq_2 _ _ _ _ _ k) (Ev.ite_neg (by rw [hx]; exact end_lt) ?_)
    refine Ev.bind (putText_ev [] id (by omega) (by simp only [List.length_nil]; omega)) (Ev.bind (putInt_ev _ ds.length (by omega) (by simp only [List.nil_append]; omega)) ?_)
    refine Ev.eq (impl_l3 ds (by omega) ds [] _ rfl hall (by simp only [List.nil_append, List.length_append]; omega)) (by simp)
  | x :: rest, pre, hx => by
    have hlt : pre.length < 1048576 := by rw [hx] at hl; simp at hl; omega
    have hrd : rd_T84 ds (pre.length : Int) = x := by rw [hx]; exact mid_getD _
    have hm : (pre.length : Int) < (ds.length : Int) := by rw [hx]; exact mid_lt
    have hvx := hv x (by rw [hx]; simp)
    have ih := impl_l0 hl hid hv hb rest (pre ++ [x]) (by rw [hx]; simp)
    have e : ((pre ++ [x]).length : Int) = ((pre.length + 1 : Nat) : Int) := by simp
    rw [e] at ih
    have h1 := impl_l1 id ds pre.length hlt x hvx.1 hvx.2 x.f1 [] rfl
    refine ⟨fun h hp => ?_, fun h => ?_⟩
    · have hfx := h x (by simp)
      obtain ⟨ha, hb1, hc, hd, he⟩ := hfx
      refine Ev.step (fun k => impl_DocBytes.l0.eq_2 _ _ _ _ _ k) (Ev.ite_pos hm (Ev.ite_pos (by omega) (Ev.ite_pos hm ?_)))
      rw [hrd]
      refine Ev.ite_neg (by omega) (Ev.ite_neg (by omega) (Ev.step (fun k => impl_DocBytes.j2.eq_2 _ _ _ _ _ _ _ _ _ k) (Ev.ite_neg (by simp; omega) (h1.1 ⟨hd, he⟩ _ (ih.1 (fun y hy => h y (by simp [hy])) (fun y hy => ?_))))))
      rcases List.mem_append.1 hy with hy | hy
      · exact hp y hy
      · rw [List.mem_singleton.1 hy]
        exact h x (by simp)
    · refine Ev.step (fun k => impl_DocBytes.l0.eq_2 _ _ _ _ _ k) (Ev.ite_pos hm (Ev.ite_pos (by omega) (Ev.ite_pos hm ?_)))
      rw [hrd]
      have big : Ev (fun k => impl_DocBytes.j2 k ds (ds.length : Int) (pre.length : Int) true id ds x.f0 x.f1 x.f2) ([], 12) := Ev.step (fun k => impl_DocBytes.j2.eq_2 _ _ _ _ _ _ _ _ _ k) (Ev.ite_pos rfl (Ev.now _))
      by_cases ha : (x.f0.size : Int) > 65536
      · exact Ev.ite_pos ha big
      · refine Ev.ite_neg ha ?_
        by_cases hb1 : (x.f1.length : Int) > 4096
        · exact Ev.ite_pos hb1 big
        · refine Ev.ite_neg hb1 ?_
          by_cases hc : (x.f2.length : Int) > 4096
          · exact Ev.step (fun k => impl_DocBytes.j2.eq_2 _ _ _ _ _ _ _ _ _ k) (Ev.ite_pos (by simpa using hc) (Ev.now _))
          · refine Ev.step (fun k => impl_DocBytes.j2.eq_2 _ _ _ _ _ _ _ _ _ k) (Ev.ite_neg (by simp; omega) ?_)
            by_cases hd : (∀ t ∈ x.f1, FitT t) ∧ ∀ n ∈ x.f2, OkN n
            · refine h1.1 hd _ (ih.2 (fun h2 => h (fun y hy => ?_)))
              rcases List.mem_cons.1 hy with rfl | hy
              · exact ⟨by omega, by omega, by omega, hd.1, hd.2⟩
              · exact h2 y hy
            · exact h1.2 hd
open Classical in
 
noncomputable def docR (id : ByteArray) (ds : List S84) : List Int × Int := if FitD id ds then (docL id ds, 0) else ([], 12)
theorem impl_DocBytes_ev (hv : ∀ x ∈ ds, x.f1.length ≤ 1048576 ∧ x.f2.length ≤ 1048576) (hb : (docL id ds).length < 140737488355328) : Ev (fun k => impl_DocBytes.f k id ds) (docR id ds) := by
  unfold docR impl_DocBytes.f
  by_cases ha : (id.size : Int) > 65536
  · rw [if_neg (fun h => by have := h.1; omega)]
    exact Ev.ite_pos ha (Ev.step (fun k => impl_DocBytes.j0.eq_2 _ _ _ k) (Ev.ite_pos rfl (Ev.now _)))
  · refine Ev.ite_neg ha ?_
    by_cases hc : (ds.length : Int) > 4096
    · rw [if_neg (fun h => by have := h.2.1; omega)]
      exact Ev.step (fun k => impl_DocBytes.j0.eq_2 _ _ _ k) (Ev.ite_pos (by simpa using hc) (Ev.now _))
    · refine Ev.step (fun k => impl_DocBytes.j0.eq_2 _ _ _ k) (Ev.ite_neg (by simp; omega) ?_)
      have h0 := impl_l0 id ds (by omega) (by omega) hv hb ds [] rfl
      by_cases hd : ∀ x ∈ ds, FitV x
      · rw [if_pos ⟨by omega, by omega, hd⟩]
        exact h0.1 hd (by simp)
      · rw [if_neg (fun h => hd h.2.2)]
        exact h0.2 hd
theorem spec_DocBytes_ev (hl : ds.length ≤ 1048576) (hv : ∀ x ∈ ds, x.f1.length ≤ 1048576 ∧ x.f2.length ≤ 1048576) (hb : (docL id ds).length < 140737488355328) : Ev (fun k => spec_DocBytes.f k id ds) (docR id ds) := by
  have h0 := fits_ev id ds hl hv
  unfold docR spec_DocBytes.f
  by_cases h : FitD id ds
  · rw [if_pos h]
    exact Ev.bind (h0.1 h) (Ev.ite_pos rfl (Ev.bind (l06Bytes_ev id ds h hb) (Ev.now _)))
  · rw [if_neg h]
    exact Ev.bind (h0.2 h) (Ev.ite_neg (by simp) (Ev.now _))
end
theorem flatMap_le {α : Type} (f : α → List Int) (g : α → Nat) : ∀ (xs : List α), (∀ x ∈ xs, (f x).length ≤ g x) → (xs.flatMap f).length ≤ (xs.map g).sum
  | [], _ => by simp
  | x :: xs, h => by
    rw [List.flatMap_cons, List.length_append, List.map_cons, List.sum_cons]
    have := h x (by simp)
    have := flatMap_le f g xs (fun y hy => h y (by simp [hy]))
    omega
theorem txtL_le (s : ByteArray) (h : s.size ≤ 9223372036854775807) : (txtL s).length ≤ 9 + s.size := by
  unfold txtL
  rw [List.length_append, bytesOf_length]
  have := putL_len s.size h
  omega
end Go.Proofs.Ytndjodgcemgpfaa.Q
end

section
set_option linter.unusedVariables false
set_option linter.unusedSimpArgs false
namespace Go.Proofs.Ytndjodgcemgpfaa.Q
open Go.RowKit Go.Proofs.YtndjodgcemgpfaaW.PrintWords Go.Proofs.YtndjodgcemgpfaaW.PrintLast Go.Proofs.YtndjodgcemgpfaaW.PrintMore
set_option maxHeartbeats 2000000 in
set_option maxRecDepth 100000 in
theorem laws_FnExactDocBytes.walk0 (k : Nat) (id : ByteArray) (A : Option Addr) (c : Nat) (vs : List S134) (w : World) (hr : Kd.C k134 w A vs.length vs) (hc : vs.length ≤ c)
    (sz : Int) (h1 : laws_szDoc.f k id vs 1048576 = some sz) (hsz : sz < 0) :
    Calls Try.prog 3 #[.agg #[.string id, .slice A vs.length c]] w fun e w' => e = .returned (.bool true) ∧ Below w.heap.size w w' := by
  have hu24 := Try.underlying24
  have HR := Aside0.mk hr
  have HC := Aside0.mk hc
  have H1 := Aside0.mk h1
  clear hr hc h1
  have hsz' : decide (sz < 0) = true := decide_eq_true (by omega)
  have HB := Aside0.mk (Below.refl w.heap.size w)
  go_enter Try.func3, Try.ntmps3
  go_wp2_with fail
  go_at_call 9
  refine (laws_szDoc.calls k id _ _ vs 1048576 sz _ (Kd.C_below HR.out (below_alloc HB.out _)) HC.out H1.out).mono ?_
  rintro e w1 ⟨rfl, hb⟩
  have HB1 := Aside0.mk (below_step (below_alloc HB.out _) hb)
  clear HB hb
  go_wp2_with fail
  go_ret
  exact ⟨rfl, HB1.out⟩
theorem wf_i64 {n : Int} (h : (Lit.int .i64 n).wf = true) : -9223372036854775808 ≤ n ∧ n ≤ 9223372036854775807 := by
  simp [Lit.wf, IntKind.min, IntKind.max, IntKind.signed, IntKind.bits] at h
  omega
theorem numL_wf {n : Int} (h : (Lit.int .i64 n).wf = true) : (numL n).length ≤ 10 := by
  have := wf_i64 h
  refine putL_length 9 _ ?_
  unfold numN
  split <;> omega
theorem docL_le (id : ByteArray) (vs : List S134) (hw : wD id vs ≤ 1048576) (hvs : ∀ x ∈ vs, ∀ y ∈ x.f2, (Lit.int .i64 y).wf = true) : (docL id (vs.map cV)).length < 140737488355328 := by
  have hw' : id.size + (vs.length + sumV vs) ≤ 1048576 := hw
  have h1 := txtL_le id (by omega)
  have h2 := putL_len (vs.map cV).length (by rw [List.length_map]; omega)
  have h3 : ((vs.map cV).flatMap valL).length ≤ ((vs.map cV).map fun x : S84 => 27 + 10 * (x.f0.size + (x.f1.length + sumS x.f1) + x.f2.length)).sum := by
    refine flatMap_le _ _ _ (fun x hx => ?_)
    obtain ⟨y, hy, rfl⟩ := List.mem_map.1 hx
    have hwy : wV y ≤ sumV vs := sum_le wV vs y hy
    have e : wV y = y.f0.size + (y.f1.length + sumS y.f1) + y.f2.length := rfl
    show (valL (cV y)).length ≤ 27 + 10 * (y.f0.size + (y.f1.length + sumS y.f1) + y.f2.length)
    unfold valL
    simp only [List.length_append]
    have a1 := txtL_le y.f0 (by omega)
    have a2 := putL_len y.f1.length (by omega)
    have a3 := putL_len y.f2.length (by omega)
    have a4 : (y.f1.flatMap txtL).length ≤ (y.f1.map fun s => 9 + s.size).sum := flatMap_le _ _ _ (fun s hs => txtL_le s (by
      have := sum_le (fun s : ByteArray => s.size) y.f1 s hs
      have e2 : sumS y.f1 = (y.f1.map fun s => s.size).sum := rfl
      omega))
    have a5 : (y.f1.map fun s => 9 + s.size).sum = 9 * y.f1.length + sumS y.f1 := by
      clear a4 a2 e hwy hx
      unfold sumS
      induction y.f1 with
      | nil => rfl
      | cons s l ih => simp only [List.map_cons, List.sum_cons, List.length_cons, ih]; omega
    have a6 : (y.f2.flatMap numL).length ≤ (y.f2.map fun _ => 10).sum := flatMap_le _ _ _ (fun n hn => numL_wf (hvs y hy n hn))
    have a7 : (y.f2.map fun _ => 10).sum = 10 * y.f2.length := by
      clear a6 a3 e hwy hx
      induction y.f2 with
      | nil => rfl
      | cons s l ih => simp only [List.map_cons, List.sum_cons, List.length_cons, ih]; omega
    show (txtL y.f0).length + ((putL y.f1.length).length + ((y.f1.flatMap txtL).length + ((putL y.f2.length).length + (y.f2.flatMap numL).length))) ≤ _
    omega
  have h4 : ((vs.map cV).map fun x : S84 => 27 + 10 * (x.f0.size + (x.f1.length + sumS x.f1) + x.f2.length)).sum = 27 * vs.length + 10 * sumV vs := by
    clear h3 h2 h1 hw hw' hvs
    unfold sumV
    induction vs with
    | nil => rfl
    | cons s l ih =>
      simp only [List.map_cons, List.sum_cons, List.length_cons]
      rw [ih]
      have e : wV s = s.f0.size + (s.f1.length + sumS s.f1) + s.f2.length := rfl
      show 27 + 10 * (s.f0.size + (s.f1.length + sumS s.f1) + s.f2.length) + _ = _
      omega
  unfold docL
  simp only [List.length_append]
  omega
theorem cntVS_cV (vs : List S134) : cntVS (vs.map cV) ≤ vs.length + sumV vs := by
  unfold cntVS sumV
  induction vs with
  | nil => simp
  | cons s l ih =>
    simp only [List.map_cons, List.sum_cons, List.length_cons]
    have e : wV s = s.f0.size + (s.f1.length + sumS s.f1) + s.f2.length := rfl
    have e2 : cntV (cV s) = 1 + s.f1.length + s.f2.length := rfl
    omega
theorem laws_FnExactDocBytes.true_ (id : ByteArray) (A : Option Addr) (c : Nat) (vs : List S134) (w : World) (hr : Kd.C k134 w A vs.length vs) (hc : vs.length ≤ c) (hid : id.size ≤ maxLen)
    (hvs : ∀ x ∈ vs, OkV x ∧ ∀ y ∈ x.f2, (Lit.int .i64 y).wf = true) :
    Calls Try.prog 3 #[.agg #[.string id, .slice A vs.length c]] w fun e w' => e = .returned (.bool true) ∧ Below w.heap.size w w' := by
  have hn : vs.length ≤ 9223372036854775807 := hr.2.1
  have hsz := szDoc_ev id vs 1048576 hid hn (fun x hx => (hvs x hx).1) (by omega) (by omega)
  by_cases hw : wD id vs ≤ 1048576
  · have hw' : id.size + (vs.length + sumV vs) ≤ 1048576 := hw
    have hlen := lenV_of (vs := vs) (by omega)
    have hl84 : ∀ x ∈ vs.map cV, x.f1.length ≤ 1048576 ∧ x.f2.length ≤ 1048576 := fun x hx => by
      obtain ⟨y, hy, rfl⟩ := List.mem_map.1 hx
      exact hlen y hy
    have hdl : (vs.map cV).length ≤ 1048576 := by rw [List.length_map]; omega
    have hb := docL_le id vs hw (fun x hx => (hvs x hx).2)
    have hcv := cntVS_cV vs
    have hrl : (docR id (vs.map cV)).1.length < 140737488355328 := by
      unfold docR
      split
      · exact hb
      · simp
    obtain ⟨K1, e1⟩ := hsz
    obtain ⟨K2, e2⟩ := toDoc_ev id vs (by omega) hlen
    obtain ⟨K3, e3⟩ := spec_DocBytes_ev id (vs.map cV) hdl hl84 hb
    obtain ⟨K4, e4⟩ := impl_DocBytes_ev id (vs.map cV) hl84 hb
    obtain ⟨K5, e5⟩ := eqByteS_ev (docR id (vs.map cV)).1 (by omega)
    obtain ⟨K6, e6⟩ := eqDoc_ev id (vs.map cV) (by omega) hl84
    obtain ⟨K7, e7⟩ := markValueS_ev (vs.map cV) 1 (by omega) (by omega) (by omega)
    obtain ⟨K8, e8⟩ := markByteS_ev (docR id (vs.map cV)).1 1 (by omega) (by omega)
    obtain ⟨K9, e9⟩ := heldByteS_ev (docR id (vs.map cV)).1.length 1 (by omega) (by omega)
    have hk : ∃ k, K1 ≤ k ∧ K2 ≤ k ∧ K3 ≤ k ∧ K4 ≤ k ∧ K5 ≤ k ∧ K6 ≤ k ∧ K7 ≤ k ∧ K8 ≤ k ∧ K9 ≤ k := ⟨K1 + K2 + K3 + K4 + K5 + K6 + K7 + K8 + K9, by omega, by omega, by omega, by omega, by omega, by omega, by omega, by omega, by omega⟩
    obtain ⟨k, b1, b2, b3, b4, b5, b6, b7, b8, b9⟩ := hk
    exact laws_FnExactDocBytes.walk k id A c vs w hr hc _ _ _ _ _ _ _ _ (e1 k b1) (e2 k b2) (e3 k b3) (e4 k b4) (e5 k b5) (e6 k b6) (e7 k b7) (e8 k b8) (e9 k b9) (by rw [lessBy_pos (by omega)]; omega) (by omega) (by omega)
  · obtain ⟨K1, e1⟩ := hsz
    exact laws_FnExactDocBytes.walk0 K1 id A c vs w hr hc _ (e1 K1 (Nat.le_refl _)) (by rw [lessBy_neg (by omega)]; omega)
end Go.Proofs.Ytndjodgcemgpfaa.Q
end
