/- A part of the proof: the texts Qpdoc, Qpdoc2, Qprec, Qwdoc, Qldoc, Qlrec, packed. -/
import Derived.Laws.BitsAllLaws
import Derived.Test.YtndjodgcemgpfaaKb9

section
set_option linter.unusedVariables false
set_option linter.unusedSimpArgs false
namespace Go.Proofs.Ytndjodgcemgpfaa.Q
open Go.RowKit Go.Proofs.YtndjodgcemgpfaaW.PrintWords Go.Proofs.YtndjodgcemgpfaaW.PrintLast Go.Proofs.YtndjodgcemgpfaaW.PrintMore
def putL (n : Nat) : List Int := if h : n < 128 then [(n : Int)] else ((128 + n % 128 : Nat) : Int) :: putL (n / 128)
termination_by n
decreasing_by omega
theorem putL_small {n : Nat} (h : n < 128) : putL n = [(n : Int)] := by rw [putL, dif_pos h]
theorem putL_big {n : Nat} (h : ¬ n < 128) : putL n = ((128 + n % 128 : Nat) : Int) :: putL (n / 128) := by rw [putL, dif_neg h]
theorem putL_length : ∀ (d n : Nat), n < 128 ^ (d + 1) → (putL n).length ≤ d + 1
  | 0, n, h => by rw [putL_small (by simpa using h)]; simp
  | d + 1, n, h => by
    by_cases hn : n < 128
    · rw [putL_small hn]; simp
    · rw [putL_big hn, List.length_cons]
      have := putL_length d (n / 128) (by rw [Nat.pow_succ] at h; omega)
      omega
theorem putL_len (n : Nat) (h : n ≤ 9223372036854775807) : (putL n).length ≤ 9 := putL_length 8 n (by omega)
theorem l03Put_ev : ∀ (d n : Nat), n < 128 ^ (d + 1) → n ≤ 9223372036854775807 → Ev (fun k => spec_l03Put.f k (n : Int)) (putL n) := by
  intro d
  induction d with
  | zero =>
    intro n h hb
    have hn : n < 128 := by simpa using h
    refine Ev.step (fun k => spec_l03Put.f.eq_2 _ k) (Ev.ite_pos (by omega) (Ev.eq (Ev.now _) ?_))
    rw [putL_small hn]
    congr 1
    omega
  | succ d ih =>
    intro n h hb
    by_cases hn : n < 128
    · refine Ev.step (fun k => spec_l03Put.f.eq_2 _ k) (Ev.ite_pos (by omega) (Ev.eq (Ev.now _) ?_))
      rw [putL_small hn]
      congr 1
      omega
    · have h1 : wrap64 (Int.tdiv (n : Int) 128) = ((n / 128 : Nat) : Int) := by
        rw [Int.tdiv_eq_ediv_of_nonneg (by omega), wrap64_of (by omega) (by omega)]
        omega
      have h2 : (wrap64 (128 + (Int.tmod (n : Int) 128))) % 256 = ((128 + n % 128 : Nat) : Int) := by
        rw [Int.tmod_eq_emod_of_nonneg (by omega), wrap64_of (by omega) (by omega)]
        omega
      have hlt : n / 128 < 128 ^ (d + 1) := by rw [Nat.pow_succ] at h; omega
      refine Ev.step (fun k => spec_l03Put.f.eq_2 _ k) (Ev.ite_neg (by omega) (Ev.some_bind ?_))
      rw [h1, h2]
      refine Ev.bind (ih (n / 128) hlt (by omega)) (Ev.ite_pos ?_ (Ev.eq (Ev.now _) (by rw [putL_big hn]; rfl)))
      have := putL_len (n / 128) (by omega)
      simp only [List.length_singleton]
      omega
theorem l03Put (n : Nat) (hb : n ≤ 9223372036854775807) : Ev (fun k => spec_l03Put.f k (n : Int)) (putL n) := l03Put_ev 8 n (by omega) hb
theorem or128 : ∀ a : Nat, a < 256 → a ||| 128 = 128 + a % 128 := by decide +kernel
theorem putInt_l0 : ∀ (d n : Nat) (acc : List Int), n < 128 ^ (d + 1) → n ≤ 9223372036854775807 → acc.length + (putL n).length < 140737488355328 → Ev (fun k => impl_putInt.l0 k acc (n : Int)) (acc ++ putL n) := by
  intro d
  induction d with
  | zero =>
    intro n acc h hb hl
    have hn : n < 128 := by simpa using h
    refine Ev.step (fun k => impl_putInt.l0.eq_2 _ _ k) (Ev.ite_neg (by omega) (Ev.ite_pos (by omega) (Ev.eq (Ev.now _) ?_)))
    rw [putL_small hn]
    congr 2
    omega
  | succ d ih =>
    intro n acc h hb hl
    by_cases hn : n < 128
    · refine Ev.step (fun k => impl_putInt.l0.eq_2 _ _ k) (Ev.ite_neg (by omega) (Ev.ite_pos (by omega) (Ev.eq (Ev.now _) ?_)))
      rw [putL_small hn]
      congr 2
      omega
    · have h1 : (n : Int) / 128 = ((n / 128 : Nat) : Int) := by omega
      have h2 : Go.bits .or .u8 ((n : Int) % 256) 128 = ((128 + n % 128 : Nat) : Int) := by
        have e : (n : Int) % 256 = ((n % 256 : Nat) : Int) := by omega
        have := or128 (n % 256) (by omega)
        rw [e]
        have hb8 := u8_or_nat (n % 256) 128 (by omega) (by omega)
        have e2 : ((128 : Nat) : Int) = 128 := rfl
        rw [e2] at hb8
        rw [hb8, this]
        omega
      have hlt : n / 128 < 128 ^ (d + 1) := by rw [Nat.pow_succ] at h; omega
      rw [putL_big hn, List.length_cons] at hl
      refine Ev.step (fun k => impl_putInt.l0.eq_2 _ _ k) (Ev.ite_pos (by omega) (Ev.ite_pos (by omega) ?_))
      rw [h1, h2, putL_big hn]
      refine Ev.eq (ih (n / 128) _ hlt (by omega) (by rw [List.length_append, List.length_singleton]; omega)) (by simp)
theorem putInt_ev (acc : List Int) (n : Nat) (hb : n ≤ 9223372036854775807) (hl : acc.length + (putL n).length < 140737488355328) : Ev (fun k => impl_putInt.f k acc (n : Int)) (acc ++ putL n) := putInt_l0 8 n acc (by omega) hb hl
def txtL (s : ByteArray) : List Int := putL s.size ++ bytesOf s
theorem putText_ev (acc : List Int) (s : ByteArray) (hb : s.size ≤ 9223372036854775807) (hl : acc.length + (txtL s).length < 140737488355328) : Ev (fun k => impl_putText.f k acc s) (acc ++ txtL s) := by
  unfold txtL at hl ⊢
  rw [List.length_append, bytesOf_length] at hl
  refine Ev.bind (putInt_ev acc s.size hb (by omega)) (Ev.ite_pos (by rw [List.length_append]; omega) (Ev.eq (Ev.now _) (by simp)))
theorem l06PutText_ev (acc : List Int) (s : ByteArray) (hb : s.size ≤ 9223372036854775807) (hl : acc.length + (txtL s).length < 140737488355328) : Ev (fun k => spec_l06PutText.f k acc s) (acc ++ txtL s) := by
  unfold txtL at hl ⊢
  rw [List.length_append, bytesOf_length] at hl
  refine Ev.bind (l03Put s.size hb) (Ev.ite_pos (by omega) (Ev.some_bind (Ev.ite_pos (by rw [List.length_append]; omega) (Ev.eq (Ev.now _) (by simp)))))
def numN (n : Int) : Nat := if n < 0 then (-2 * n - 1).toNat else (2 * n).toNat
def numL (n : Int) : List Int := putL (numN n)
def OkN (n : Int) : Prop := -1000000000000 ≤ n ∧ n ≤ 1000000000000
theorem l06PutNumber_ev (acc : List Int) (n : Int) (hb : OkN n) (hl : acc.length + (numL n).length < 140737488355328) : Ev (fun k => spec_l06PutNumber.f k acc n) (acc ++ numL n) := by
  obtain ⟨h0, h1⟩ := hb
  unfold numL numN at hl ⊢
  unfold spec_l06PutNumber.f
  by_cases h : n < 0
  · rw [if_pos h] at hl ⊢
    have e : wrap64 ((wrap64 ((-2) * n)) - 1) = (((-2 * n - 1).toNat : Nat) : Int) := by
      rw [wrap64_of (x := (-2) * n) (by omega) (by omega), wrap64_of (by omega) (by omega)]
      omega
    refine Ev.ite_pos h ?_
    rw [e]
    exact Ev.bind (l03Put _ (by omega)) (Ev.ite_pos (by omega) (Ev.now _))
  · rw [if_neg h] at hl ⊢
    have e : wrap64 (2 * n) = (((2 * n).toNat : Nat) : Int) := by
      rw [wrap64_of (by omega) (by omega)]
      omega
    refine Ev.ite_neg h ?_
    rw [e]
    exact Ev.bind (l03Put _ (by omega)) (Ev.ite_pos (by omega) (Ev.now _))
def FitT (t : ByteArray) : Prop := t.size ≤ 65536
def FitV (x : S84) : Prop := x.f0.size ≤ 65536 ∧ x.f1.length ≤ 4096 ∧ x.f2.length ≤ 4096 ∧ (∀ t ∈ x.f1, FitT t) ∧ ∀ n ∈ x.f2, OkN n
def FitD (id : ByteArray) (ds : List S84) : Prop := id.size ≤ 65536 ∧ ds.length ≤ 4096 ∧ ∀ x ∈ ds, FitV x
section
variable (id : ByteArray) (ds : List S84)
theorem fits_l2 (i : Nat) (hi : i < 1048576) (x : S84) (hl : x.f2.length ≤ 1048576) : ∀ (rest pre : List Int), x.f2 = pre ++ rest →
    ((∀ n ∈ rest, OkN n) → ∀ r, Ev (fun k => spec_l06Fits.l0 k ((i + 1 : Nat) : Int) id ds) r → Ev (fun k => spec_l06Fits.l2 k (i : Int) (pre.length : Int) id ds x.f0 x.f1 x.f2) r) ∧
    ((¬ ∀ n ∈ rest, OkN n) → Ev (fun k => spec_l06Fits.l2 k (i : Int) (pre.length : Int) id ds x.f0 x.f1 x.f2) false)
  | [], pre, hx => by
    refine ⟨fun _ r hr => ?_, fun h => absurd (by simp) h⟩
    refine Ev.step (fun k => spec_l06Fits.l2.eq_2 _ _ _ _ _ _ _ k) (Ev.ite_neg (by rw [hx]; exact end_lt) ?_)
    rw [wrap64_of (by omega) (by omega)]
    exact hr
  | n :: rest, pre, hx => by
    have hlt : pre.length < 1048576 := by rw [hx] at hl; simp at hl; omega
    have hrd : rd x.f2 (pre.length : Int) = n := by rw [hx]; exact mid_getD _
    have ih := fits_l2 i hi x hl rest (pre ++ [n]) (by rw [hx]; simp)
    refine ⟨fun h r hr => ?_, fun h => ?_⟩
    · have hn := h n (by simp)
      refine Ev.step (fun k => spec_l06Fits.l2.eq_2 _ _ _ _ _ _ _ k) (Ev.ite_pos (by rw [hx]; exact mid_lt) (Ev.ite_pos (by omega) ?_))
      rw [hrd, wrap_next (x := n) (by omega)]
      exact Ev.ite_neg (by have := hn.1; omega) (Ev.ite_neg (by have := hn.2; omega) (ih.1 (fun m hm => h m (by simp [hm])) r hr))
    · refine Ev.step (fun k => spec_l06Fits.l2.eq_2 _ _ _ _ _ _ _ k) (Ev.ite_pos (by rw [hx]; exact mid_lt) (Ev.ite_pos (by omega) ?_))
      rw [hrd, wrap_next (x := n) (by omega)]
      by_cases h0 : n < -1000000000000
      · exact Ev.ite_pos h0 (Ev.now _)
      · refine Ev.ite_neg h0 ?_
        by_cases h1 : n > 1000000000000
        · exact Ev.ite_pos h1 (Ev.now _)
        · exact Ev.ite_neg h1 (ih.2 (fun h2 => h (fun m hm => by
            rcases List.mem_cons.1 hm with rfl | hm
            · exact ⟨by omega, by omega⟩
            · exact h2 m hm)))
theorem fits_l1 (i : Nat) (hi : i < 1048576) (x : S84) (hl : x.f1.length ≤ 1048576) (hl2 : x.f2.length ≤ 1048576) : ∀ (rest pre : List ByteArray), x.f1 = pre ++ rest →
    (((∀ t ∈ rest, FitT t) ∧ ∀ n ∈ x.f2, OkN n) → ∀ r, Ev (fun k => spec_l06Fits.l0 k ((i + 1 : Nat) : Int) id ds) r → Ev (fun k => spec_l06Fits.l1 k (i : Int) (pre.length : Int) id ds x.f0 x.f1 x.f2) r) ∧
    ((¬ ((∀ t ∈ rest, FitT t) ∧ ∀ n ∈ x.f2, OkN n)) → Ev (fun k => spec_l06Fits.l1 k (i : Int) (pre.length : Int) id ds x.f0 x.f1 x.f2) false)
  | [], pre, hx => by
    have h2 := fits_l2 id ds i hi x hl2 x.f2 [] rfl
    refine ⟨fun h r hr => ?_, fun h => ?_⟩
    · exact Ev.step (fun k => spec_l06Fits.l1.eq_2 _ _ _ _ _ _ _ k) (Ev.ite_neg (by rw [hx]; exact end_lt) (h2.1 h.2 r hr))
    · exact Ev.step (fun k => spec_l06Fits.l1.eq_2 _ _ _ _ _ _ _ k) (Ev.ite_neg (by rw [hx]; exact end_lt) (h2.2 (fun h3 => h ⟨by simp, h3⟩)))
  | t :: rest, pre, hx => by
    have hlt : pre.length < 1048576 := by rw [hx] at hl; simp at hl; omega
    have hrd : rdOf ByteArray.empty x.f1 (pre.length : Int) = t := by rw [hx]; exact mid_getD _
    have ih := fits_l1 i hi x hl hl2 rest (pre ++ [t]) (by rw [hx]; simp)
    refine ⟨fun h r hr => ?_, fun h => ?_⟩
    · have hn : t.size ≤ 65536 := h.1 t (by simp)
      refine Ev.step (fun k => spec_l06Fits.l1.eq_2 _ _ _ _ _ _ _ k) (Ev.ite_pos (by rw [hx]; exact mid_lt) (Ev.ite_pos (by omega) ?_))
      rw [hrd, wrap_next (x := t) (by omega)]
      exact Ev.ite_neg (by omega) (ih.1 ⟨fun m hm => h.1 m (by simp [hm]), h.2⟩ r hr)
    · refine Ev.step (fun k => spec_l06Fits.l1.eq_2 _ _ _ _ _ _ _ k) (Ev.ite_pos (by rw [hx]; exact mid_lt) (Ev.ite_pos (by omega) ?_))
      rw [hrd, wrap_next (x := t) (by omega)]
      by_cases h0 : (t.size : Int) > 65536
      · exact Ev.ite_pos h0 (Ev.now _)
      · refine Ev.ite_neg h0 (ih.2 (fun h2 => h ⟨fun m hm => ?_, h2.2⟩))
        rcases List.mem_cons.1 hm with rfl | hm
        · show m.size ≤ 65536
          omega
        · exact h2.1 m hm
theorem fits_l0 (hl : ds.length ≤ 1048576) (hv : ∀ x ∈ ds, x.f1.length ≤ 1048576 ∧ x.f2.length ≤ 1048576) : ∀ (rest pre : List S84), ds = pre ++ rest →
    ((∀ x ∈ rest, FitV x) → Ev (fun k => spec_l06Fits.l0 k (pre.length : Int) id ds) true) ∧ ((¬ ∀ x ∈ rest, FitV x) → Ev (fun k => spec_l06Fits.l0 k (pre.length : Int) id ds) false)
  | [], pre, hx => by
    refine ⟨fun h => ?_, fun h => absurd (by simp) h⟩
    exact Ev.step (fun k => spec_l06Fits.l0.eq_2 _ _ _ k) (Ev.ite_neg (by rw [hx]; exact end_lt) (Ev.now _))
  | x :: rest, pre, hx => by
    have hlt : pre.length < 1048576 := by rw [hx] at hl; simp at hl; omega
    have hrd : rd_T84 ds (pre.length : Int) = x := by rw [hx]; exact mid_getD _
    have hvx := hv x (by rw [hx]; simp)
    have ih := fits_l0 hl hv rest (pre ++ [x]) (by rw [hx]; simp)
    have e : ((pre ++ [x]).length : Int) = ((pre.length + 1 : Nat) : Int) := by simp
    rw [e] at ih
    have h1 := fits_l1 id ds pre.length hlt x hvx.1 hvx.2 x.f1 [] rfl
    refine ⟨fun h => ?_, fun h => ?_⟩
    · obtain ⟨ha, hb, hc, hd, he⟩ := h x (by simp)
      refine Ev.step (fun k => spec_l06Fits.l0.eq_2 _ _ _ k) (Ev.ite_pos (by rw [hx]; exact mid_lt) (Ev.ite_pos (by omega) ?_))
      rw [hrd]
      refine Ev.ite_neg (by omega) (Ev.ite_neg (by omega) (Ev.step (fun k => spec_l06Fits.j2.eq_2 _ _ _ _ _ _ _ k) (Ev.ite_neg (by simp; omega) (h1.1 ⟨hd, he⟩ true (ih.1 (fun y hy => h y (by simp [hy])))))))
    · refine Ev.step (fun k => spec_l06Fits.l0.eq_2 _ _ _ k) (Ev.ite_pos (by rw [hx]; exact mid_lt) (Ev.ite_pos (by omega) ?_))
      rw [hrd]
      have big : Ev (fun k => spec_l06Fits.j2 k (pre.length : Int) true id ds x.f0 x.f1 x.f2) false := Ev.step (fun k => spec_l06Fits.j2.eq_2 _ _ _ _ _ _ _ k) (Ev.ite_pos rfl (Ev.now _))
      by_cases ha : (x.f0.size : Int) > 65536
      · exact Ev.ite_pos ha big
      · refine Ev.ite_neg ha ?_
        by_cases hb : (x.f1.length : Int) > 4096
        · exact Ev.ite_pos hb big
        · refine Ev.ite_neg hb ?_
          by_cases hc : (x.f2.length : Int) > 4096
          · exact Ev.step (fun k => spec_l06Fits.j2.eq_2 _ _ _ _ _ _ _ k) (Ev.ite_pos (by simpa using hc) (Ev.now _))
          · refine Ev.step (fun k => spec_l06Fits.j2.eq_2 _ _ _ _ _ _ _ k) (Ev.ite_neg (by simp; omega) ?_)
            by_cases hd : (∀ t ∈ x.f1, FitT t) ∧ ∀ n ∈ x.f2, OkN n
            · refine h1.1 hd false (ih.2 (fun h2 => h (fun y hy => ?_)))
              rcases List.mem_cons.1 hy with rfl | hy
              · exact ⟨by omega, by omega, by omega, hd.1, hd.2⟩
              · exact h2 y hy
            · exact h1.2 hd
theorem fits_ev (hl : ds.length ≤ 1048576) (hv : ∀ x ∈ ds, x.f1.length ≤ 1048576 ∧ x.f2.length ≤ 1048576) :
    (FitD id ds → Ev (fun k => spec_l06Fits.f k id ds) true) ∧ (¬ FitD id ds → Ev (fun k => spec_l06Fits.f k id ds) false) := by
  have h0 := fits_l0 id ds hl hv ds [] rfl
  refine ⟨fun h => ?_, fun h => ?_⟩
  · obtain ⟨ha, hb, hc⟩ := h
    exact Ev.ite_neg (by omega) (Ev.step (fun k => spec_l06Fits.j0.eq_2 _ _ _ k) (Ev.ite_neg (by simp; omega) (h0.1 hc)))
  · unfold spec_l06Fits.f
    by_cases ha : (id.size : Int) > 65536
    · exact Ev.ite_pos ha (Ev.step (fun k => spec_l06Fits.j0.eq_2 _ _ _ k) (Ev.ite_pos rfl (Ev.now _)))
    · refine Ev.ite_neg ha ?_
      by_cases hb : (ds.length : Int) > 4096
      · exact Ev.step (fun k => spec_l06Fits.j0.eq_2 _ _ _ k) (Ev.ite_pos (by simpa using hb) (Ev.now _))
      · exact Ev.step (fun k => spec_l06Fits.j0.eq_2 _ _ _ k) (Ev.ite_neg (by simp; omega) (h0.2 (fun h2 => h ⟨by omega, by omega, h2⟩)))
end
end Go.Proofs.Ytndjodgcemgpfaa.Q
end

section
set_option linter.unusedVariables false
set_option linter.unusedSimpArgs false
namespace Go.Proofs.Ytndjodgcemgpfaa.Q
open Go.RowKit Go.Proofs.YtndjodgcemgpfaaW.PrintWords Go.Proofs.YtndjodgcemgpfaaW.PrintLast Go.Proofs.YtndjodgcemgpfaaW.PrintMore
instance : DecidablePred OkN := fun n => inferInstanceAs (Decidable (_ ∧ _))
def valL (x : S84) : List Int := txtL x.f0 ++ (putL x.f1.length ++ (x.f1.flatMap txtL ++ (putL x.f2.length ++ x.f2.flatMap numL)))
def docL (id : ByteArray) (ds : List S84) : List Int := txtL id ++ (putL ds.length ++ ds.flatMap valL)
section
variable (id : ByteArray) (ds : List S84)
theorem bytes_l2 (i : Nat) (hi : i < 1048576) (x : S84) (hl : x.f2.length ≤ 1048576) (r : List Int) : ∀ (rest pre : List Int) (acc : List Int), x.f2 = pre ++ rest → (∀ n ∈ rest, OkN n) → acc.length + (rest.flatMap numL).length < 140737488355328 →
    Ev (fun k => spec_l06Bytes.l0 k (acc ++ rest.flatMap numL) ((i + 1 : Nat) : Int) id ds) r → Ev (fun k => spec_l06Bytes.l2 k acc (i : Int) (pre.length : Int) id ds x.f0 x.f1 x.f2) r
  | [], pre, acc, hx, ho, hb, hr => by
    refine Ev.step (fun k => spec_l06Bytes.l2.eq_2 _ _ _ _ _ _ _ _ k) (Ev.ite_neg (by rw [hx]; exact end_lt) ?_)
    rw [wrap64_of (by omega) (by omega)]
    simpa using hr
  | n :: rest, pre, acc, hx, ho, hb, hr => by
    have hlt : pre.length < 1048576 := by rw [hx] at hl; simp at hl; omega
    have hrd : rd x.f2 (pre.length : Int) = n := by rw [hx]; exact mid_getD _
    rw [List.flatMap_cons, List.length_append] at hb
    rw [List.flatMap_cons, ← List.append_assoc] at hr
    refine Ev.step (fun k => spec_l06Bytes.l2.eq_2 _ _ _ _ _ _ _ _ k) (Ev.ite_pos (by rw [hx]; exact mid_lt) (Ev.ite_pos (by omega) ?_))
    rw [hrd, wrap_next (x := n) (by omega)]
    exact Ev.bind (l06PutNumber_ev acc n (ho n (by simp)) (by omega)) (bytes_l2 i hi x hl r rest (pre ++ [n]) (acc ++ numL n) (by rw [hx]; simp) (fun m hm => ho m (by simp [hm])) (by rw [List.length_append]; omega) hr)
theorem bytes_l1 (i : Nat) (hi : i < 1048576) (x : S84) (hl : x.f1.length ≤ 1048576) (hl2 : x.f2.length ≤ 1048576) (r : List Int) : ∀ (rest pre : List ByteArray) (acc : List Int), x.f1 = pre ++ rest → (∀ t ∈ rest, FitT t) → (∀ n ∈ x.f2, OkN n) → acc.length + (rest.flatMap txtL).length + (putL x.f2.length).length + (x.f2.flatMap numL).length < 140737488355328 →
    Ev (fun k => spec_l06Bytes.l0 k (acc ++ (rest.flatMap txtL ++ (putL x.f2.length ++ x.f2.flatMap numL))) ((i + 1 : Nat) : Int) id ds) r → Ev (fun k => spec_l06Bytes.l1 k acc (i : Int) (pre.length : Int) id ds x.f0 x.f1 x.f2) r
  | [], pre, acc, hx, ho, ho2, hb, hr => by
    refine Ev.step (fun k => spec_l06Bytes.l1.eq_2 _ _ _ _ _ _ _ _ k) (Ev.ite_neg (by rw [hx]; exact end_lt) (Ev.bind (l03Put x.f2.length (by omega)) (Ev.ite_pos (by omega) ?_)))
    exact bytes_l2 id ds i hi x hl2 r x.f2 [] _ rfl ho2 (by rw [List.length_append]; omega) (by simpa using hr)
  | t :: rest, pre, acc, hx, ho, ho2, hb, hr => by
    have hlt : pre.length < 1048576 := by rw [hx] at hl; simp at hl; omega
    have hrd : rdOf ByteArray.empty x.f1 (pre.length : Int) = t := by rw [hx]; exact mid_getD _
    have ht : t.size ≤ 65536 := ho t (by simp)
    rw [List.flatMap_cons, List.length_append] at hb
    refine Ev.step (fun k => spec_l06Bytes.l1.eq_2 _ _ _ _ _ _ _ _ k) (Ev.ite_pos (by rw [hx]; exact mid_lt) (Ev.ite_pos (by omega) ?_))
    rw [hrd, wrap_next (x := t) (by omega)]
    exact Ev.bind (l06PutText_ev acc t (by omega) (by omega)) (bytes_l1 i hi x hl hl2 r rest (pre ++ [t]) (acc ++ txtL t) (by rw [hx]; simp) (fun m hm => ho m (by simp [hm])) ho2 (by rw [List.length_append]; omega) (by simpa [List.append_assoc] using hr))
theorem bytes_l0 (hl : ds.length ≤ 1048576) : ∀ (rest pre : List S84) (acc : List Int), ds = pre ++ rest → (∀ x ∈ rest, FitV x) → acc.length + (rest.flatMap valL).length < 140737488355328 →
    Ev (fun k => spec_l06Bytes.l0 k acc (pre.length : Int) id ds) (acc ++ rest.flatMap valL)
  | [], pre, acc, hx, ho, hb => by
    refine Ev.step (fun k => spec_l06Bytes.l0.eq_2 _ _ _ _ k) (Ev.ite_neg (by rw [hx]; exact end_lt) (Ev.eq (Ev.now _) (by simp)))
  | x :: rest, pre, acc, hx, ho, hb => by
    have hlt : pre.length < 1048576 := by rw [hx] at hl; simp at hl; omega
    have hrd : rd_T84 ds (pre.length : Int) = x := by rw [hx]; exact mid_getD _
    obtain ⟨ha, hb1, hc, hd, he⟩ := ho x (by simp)
    have hv : (valL x).length = (txtL x.f0).length + (putL x.f1.length).length + (x.f1.flatMap txtL).length + (putL x.f2.length).length + (x.f2.flatMap numL).length := by
      unfold valL
      simp only [List.length_append]
      omega
    rw [List.flatMap_cons, List.length_append] at hb
    refine Ev.step (fun k => spec_l06Bytes.l0.eq_2 _ _ _ _ k) (Ev.ite_pos (by rw [hx]; exact mid_lt) (Ev.ite_pos (by omega) ?_))
    rw [hrd]
    refine Ev.bind (l06PutText_ev acc x.f0 (by omega) (by omega)) (Ev.bind (l03Put x.f1.length (by omega)) (Ev.ite_pos (by rw [List.length_append]; omega) ?_))
    refine bytes_l1 id ds pre.length hlt x (by omega) (by omega) _ x.f1 [] _ rfl hd he (by simp only [List.length_append]; omega) ?_
    have e : (pre.length + 1 : Nat) = (pre ++ [x]).length := by simp
    rw [e]
    refine Ev.eq (Ev.congr (fun k => ?_) (bytes_l0 hl rest (pre ++ [x]) (acc ++ valL x) (by rw [hx]; simp) (fun y hy => ho y (by simp [hy])) (by rw [List.length_append]; omega))) (by simp)
    simp [valL, List.append_assoc]
theorem l06Bytes_ev (hf : FitD id ds) (hb : (docL id ds).length < 140737488355328) : Ev (fun k => spec_l06Bytes.f k id ds) (docL id ds) := by
  obtain ⟨h1, h2, h3⟩ := hf
  unfold docL at hb ⊢
  simp only [List.length_append] at hb
  refine Ev.bind (l06PutText_ev [] id (by omega) (by simp only [List.length_nil]; omega)) (Ev.bind (l03Put ds.length (by omega)) (Ev.ite_pos (by simp only [List.nil_append]; omega) ?_))
  refine Ev.eq (bytes_l0 id ds (by omega) ds [] _ rfl h3 (by simp only [List.nil_append, List.length_append]; omega)) (by simp)
theorem impl_l2 (i : Nat) (hi : i < 1048576) (xs : List Int) (hl : xs.length ≤ 1048576) : ∀ (rest pre : List Int), xs = pre ++ rest →
    ((∀ n ∈ rest, OkN n) → ∀ r, Ev (fun k => impl_DocBytes.l0 k ds (ds.length : Int) ((i + 1 : Nat) : Int) id ds) r → Ev (fun k => impl_DocBytes.l2 k ds (ds.length : Int) (i : Int) xs (xs.length : Int) (pre.length : Int) id ds) r) ∧
    ((¬ ∀ n ∈ rest, OkN n) → Ev (fun k => impl_DocBytes.l2 k ds (ds.length : Int) (i : Int) xs (xs.length : Int) (pre.length : Int) id ds) ([], 12))
  | [], pre, hx => by
    refine ⟨fun _ r hr => ?_, fun h => absurd (by simp) h⟩
    refine Ev.step (fun k => impl_DocBytes.l2.eq_2 _ _ _ _ _ _ _ _ k) (Ev.ite_neg (by rw [hx]; exact end_lt) ?_)
    rw [wrap64_of (by omega) (by omega)]
    exact hr
  | n :: rest, pre, hx => by
    have hlt : pre.length < 1048576 := by rw [hx] at hl; simp at hl; omega
    have hrd : rd xs (pre.length : Int) = n := by rw [hx]; exact mid_getD _
    have hm : (pre.length : Int) < (xs.length : Int) := by rw [hx]; exact mid_lt
    have ih := impl_l2 i hi xs hl rest (pre ++ [n]) (by rw [hx]; simp)
    have hw : impl_within.f n (-1000000000000) 1000000000000 = some (decide (OkN n)) := by
      unfold impl_within.f OkN
      by_cases h : n ≥ -1000000000000
      · rw [if_pos h]
        congr 1
        simp [show -1000000000000 ≤ n from h]
      · rw [if_neg h]
        congr 1
        simp [show ¬ -1000000000000 ≤ n from h]
    refine ⟨fun h r hr => ?_, fun h => ?_⟩
    · refine Ev.step (fun k => impl_DocBytes.l2.eq_2 _ _ _ _ _ _ _ _ k) (Ev.ite_pos hm (Ev.ite_pos (by omega) (Ev.ite_pos hm ?_)))
      rw [hrd, wrap_next (x := n) (by omega)]
      exact Ev.const hw (Ev.ite_pos (by simpa using h n (by simp)) (ih.1 (fun m hm => h m (by simp [hm])) r hr))
    · refine Ev.step (fun k => impl_DocBytes.l2.eq_2 _ _ _ _ _ _ _ _ k) (Ev.ite_pos hm (Ev.ite_pos (by omega) (Ev.ite_pos hm ?_)))
      rw [hrd, wrap_next (x := n) (by omega)]
      refine Ev.const hw ?_
      by_cases h0 : OkN n
      · refine Ev.ite_pos (by simpa using h0) (ih.2 (fun h2 => h (fun m hm => ?_)))
        rcases List.mem_cons.1 hm with rfl | hm
        · exact h0
        · exact h2 m hm
      · exact Ev.ite_neg (by simpa using h0) (Ev.now _)
theorem impl_l1 (i : Nat) (hi : i < 1048576) (x : S84) (hl : x.f1.length ≤ 1048576) (hl2 : x.f2.length ≤ 1048576) : ∀ (rest pre : List ByteArray), x.f1 = pre ++ rest →
    (((∀ t ∈ rest, FitT t) ∧ ∀ n ∈ x.f2, OkN n) → ∀ r, Ev (fun k => impl_DocBytes.l0 k ds (ds.length : Int) ((i + 1 : Nat) : Int) id ds) r → Ev (fun k => impl_DocBytes.l1 k ds (ds.length : Int) (i : Int) x.f1 (x.f1.length : Int) (pre.length : Int) id ds x.f0 x.f1 x.f2) r) ∧
    ((¬ ((∀ t ∈ rest, FitT t) ∧ ∀ n ∈ x.f2, OkN n)) → Ev (fun k => impl_DocBytes.l1 k ds (ds.length : Int) (i : Int) x.f1 (x.f1.length : Int) (pre.length : Int) id ds x.f0 x.f1 x.f2) ([], 12))
  | [], pre, hx => by
    have h2 := impl_l2 id ds i hi x.f2 hl2 x.f2 [] rfl
    refine ⟨fun h r hr => ?_, fun h => ?_⟩
    · exact Ev.step (fun k => impl_DocBytes.l1.eq_2 _ _ _ _ _ _ _ _ _ _ _ k) (Ev.ite_neg (by rw [hx]; exact end_lt) (h2.1 h.2 r hr))
    · exact Ev.step (fun k => impl_DocBytes.l1.eq_2 _ _ _ _ _ _ _ _ _ _ _ k) (Ev.ite_neg (by rw [hx]; exact end_lt) (h2.2 (fun h3 => h ⟨by simp, h3⟩)))
  | t :: rest, pre, hx => by
    have hlt : pre.length < 1048576 := by rw [hx] at hl; simp at hl; omega
    have hrd : rdOf ByteArray.empty x.f1 (pre.length : Int) = t := by rw [hx]; exact mid_getD _
    have hm : (pre.length : Int) < (x.f1.length : Int) := by rw [hx]; exact mid_lt
    have ih := impl_l1 i hi x hl hl2 rest (pre ++ [t]) (by rw [hx]; simp)
    refine ⟨fun h r hr => ?_, fun h => ?_⟩
    · have hn : t.size ≤ 65536 := h.1 t (by simp)
      refine Ev.step (fun k => impl_DocBytes.l1.eq_2 _ _ _ _ _ _ _ _ _ _ _ k) (Ev.ite_pos hm (Ev.ite_pos (by omega) (Ev.ite_pos hm ?_)))
      rw [hrd, wrap_next (x := t) (by omega)]
      exact Ev.ite_neg (by omega) (ih.1 ⟨fun m hm => h.1 m (by simp [hm]), h.2⟩ r hr)
    · refine Ev.step (fun k => impl_DocBytes.l1.eq_2 _ _ _ _ _ _ _ _ _ _ _ k) (Ev.ite_pos hm (Ev.ite_pos (by omega) (Ev.ite_pos hm ?_)))
      rw [hrd, wrap_next (x := t) (by omega)]
      by_cases h0 : (t.size : Int) > 65536
      · exact Ev.ite_pos h0 (Ev.now _)
      · refine Ev.ite_neg h0 (ih.2 (fun h2 => h ⟨fun m hm => ?_, h2.2⟩))
        rcases List.mem_cons.1 hm with rfl | hm
        · show m.size ≤ 65536
          omega
        · exact h2.1 m hm
theorem impl_l5 (i : Nat) (hi : i < 1048576) (xs : List Int) (hl : xs.length ≤ 1048576) (r : List Int × Int) : ∀ (rest pre : List Int) (acc : List Int), xs = pre ++ rest → (∀ n ∈ rest, OkN n) → acc.length + (rest.flatMap numL).length < 140737488355328 →
    Ev (fun k => impl_DocBytes.l3 k (acc ++ rest.flatMap numL) ds (ds.length : Int) ((i + 1 : Nat) : Int)) r → Ev (fun k => impl_DocBytes.l5 k acc ds (ds.length : Int) (i : Int) xs (xs.length : Int) (pre.length : Int)) r
  | [], pre, acc, hx, ho, hb, hr => by
    refine Ev.step (fun k => impl_DocBytes.l5.eq_2 _ _ _ _ _ _ _ k) (Ev.ite_neg (by rw [hx]; exact end_lt) ?_)
    rw [wrap64_of (by omega) (by omega)]
    simpa using hr
  | n :: rest, pre, acc, hx, ho, hb, hr => by
    have hlt : pre.length < 1048576 := by rw [hx] at hl; simp at hl; omega
    have hrd : rd xs (pre.length : Int) = n := by rw [hx]; exact mid_getD _
    have hm : (pre.length : Int) < (xs.length : Int) := by rw [hx]; exact mid_lt
    obtain ⟨h0, h1⟩ := ho n (by simp)
    rw [List.flatMap_cons, List.length_append] at hb
    rw [List.flatMap_cons, ← List.append_assoc] at hr
    have next := impl_l5 i hi xs hl r rest (pre ++ [n]) (acc ++ numL n) (by rw [hx]; simp) (fun m hm => ho m (by simp [hm])) (by rw [List.length_append]; omega) hr
    refine Ev.step (fun k => impl_DocBytes.l5.eq_2 _ _ _ _ _ _ _ k) (Ev.ite_pos hm (Ev.ite_pos (by omega) (Ev.ite_pos hm ?_)))
    rw [hrd, wrap_next (x := n) (by omega)]
    unfold numL numN at hb next
    by_cases h : n < 0
    · rw [if_pos h] at hb next
      have e : wrap64 ((wrap64 ((-2) * n)) - 1) = (((-2 * n - 1).toNat : Nat) : Int) := by
        rw [wrap64_of (x := (-2) * n) (by omega) (by omega), wrap64_of (by omega) (by omega)]
        omega
      refine Ev.ite_pos h ?_
      rw [e]
      exact Ev.bind (putInt_ev acc _ (by omega) (by omega)) next
    · rw [if_neg h] at hb next
      have e : wrap64 (2 * n) = (((2 * n).toNat : Nat) : Int) := by
        rw [wrap64_of (by omega) (by omega)]
        omega
      refine Ev.ite_neg h ?_
      rw [e]
      exact Ev.bind (putInt_ev acc _ (by omega) (by omega)) next
theorem impl_l4 (i : Nat) (hi : i < 1048576) (x : S84) (hl : x.f1.length ≤ 1048576) (hl2 : x.f2.length ≤ 1048576) (r : List Int × Int) : ∀ (rest pre : List ByteArray) (acc : List Int), x.f1 = pre ++ rest → (∀ t ∈ rest, FitT t) → (∀ n ∈ x.f2, OkN n) → acc.length + (rest.flatMap txtL).length + (putL x.f2.length).length + (x.f2.flatMap numL).length < 140737488355328 →
    Ev (fun k => impl_DocBytes.l3 k (acc ++ (rest.flatMap txtL ++ (putL x.f2.length ++ x.f2.flatMap numL))) ds (ds.length : Int) ((i + 1 : Nat) : Int)) r → Ev (fun k => impl_DocBytes.l4 k acc ds (ds.length : Int) (i : Int) x.f1 (x.f1.length : Int) (pre.length : Int) x.f0 x.f1 x.f2) r
  | [], pre, acc, hx, ho, ho2, hb, hr => by
    refine Ev.step (fun k => impl_DocBytes.l4.eq_2 _ _ _ _ _ _ _ _ _ _ k) (Ev.ite_neg (by rw [hx]; exact end_lt) (Ev.bind (putInt_ev acc x.f2.length (by omega) (by omega)) ?_))
    exact impl_l5 ds i hi x.f2 hl2 r x.f2 [] _ rfl ho2 (by rw [List.length_append]; omega) (by simpa using hr)
  | t :: rest, pre, acc, hx, ho, ho2, hb, hr => by
    have hlt : pre.length < 1048576 := by rw [hx] at hl; simp at hl; omega
    have hrd : rdOf ByteArray.empty x.f1 (pre.length : Int) = t := by rw [hx]; exact mid_getD _
    have hm : (pre.length : Int) < (x.f1.length : Int) := by rw [hx]; exact mid_lt
    have ht : t.size ≤ 65536 := ho t (by simp)
    rw [List.flatMap_cons, List.length_append] at hb
    refine Ev.step (fun k => impl_DocBytes.l4.eq_2 _ _ _ _ _ _ _ _ _ _ k) (Ev.ite_pos hm (Ev.ite_pos (by omega) (Ev.ite_pos hm ?_)))
    rw [hrd, wrap_next (x := t) (by omega)]
    exact Ev.bind (putText_ev acc t (by omega) (by omega)) (impl_l4 i hi x hl hl2 r rest (pre ++ [t]) (acc ++ txtL t) (by rw [hx]; simp) (fun m hm => ho m (by simp [hm])) ho2 (by rw [List.length_append]; omega) (by simpa [List.append_assoc] using hr))
theorem impl_l3 (hl : ds.length ≤ 1048576) : ∀ (rest pre : List S84) (acc : List Int), ds = pre ++ rest → (∀ x ∈ rest, FitV x) → acc.length + (rest.flatMap valL).length < 140737488355328 →
    Ev (fun k => impl_DocBytes.l3 k acc ds (ds.length : Int) (pre.length : Int)) (acc ++ rest.flatMap valL, 0)
  | [], pre, acc, hx, ho, hb => by
    refine Ev.step (fun k => impl_DocBytes.l3.eq_2 _ _ _ _ k) (Ev.ite_neg (by rw [hx]; exact end_lt) (Ev.eq (Ev.now _) (by simp)))
  | x :: rest, pre, acc, hx, ho, hb => by
    have hlt : pre.length < 1048576 := by rw [hx] at hl; simp at hl; omega
    have hrd : rd_T84 ds (pre.length : Int) = x := by rw [hx]; exact mid_getD _
    have hm : (pre.length : Int) < (ds.length : Int) := by rw [hx]; exact mid_lt
    obtain ⟨ha, hb1, hc, hd, he⟩ := ho x (by simp)
    have hv : (valL x).length = (txtL x.f0).length + (putL x.f1.length).length + (x.f1.flatMap txtL).length + (putL x.f2.length).length + (x.f2.flatMap numL).length := by
      unfold valL
      simp only [List.length_append]
      omega
    rw [List.flatMap_cons, List.length_append] at hb
    refine Ev.step (fun k => impl_DocBytes.l3.eq_2 _ _ _ _ k) (Ev.ite_pos hm (Ev.ite_pos (by omega) (Ev.ite_pos hm ?_)))
    rw [hrd]
    refine Ev.bind (putText_ev acc x.f0 (by omega) (by omega)) (Ev.bind (putInt_ev _ x.f1.length (by omega) (by rw [List.length_append]; omega)) ?_)
    refine impl_l4 ds pre.length hlt x (by omega) (by omega) _ x.f1 [] _ rfl hd he (by simp only [List.length_append]; omega) ?_
    have e : (pre.length + 1 : Nat) = (pre ++ [x]).length := by simp
    rw [e]
    refine Ev.eq (Ev.congr (fun k => ?_) (impl_l3 hl rest (pre ++ [x]) (acc ++ valL x) (by rw [hx]; simp) (fun y hy => ho y (by simp [hy])) (by rw [List.length_append]; omega))) (by simp)
    simp [valL, List.append_assoc]
theorem impl_l0 (hl : ds.length ≤ 4096) (hid : id.size ≤ 65536) (hv : ∀ x ∈ ds, x.f1.length ≤ 1048576 ∧ x.f2.length ≤ 1048576) (hb : (docL id ds).length < 140737488355328) : ∀ (rest pre : List S84), ds = pre ++ rest →
    ((∀ x ∈ rest, FitV x) → (∀ x ∈ pre, FitV x) → Ev (fun k => impl_DocBytes.l0 k ds (ds.length : Int) (pre.length : Int) id ds) (docL id ds, 0)) ∧ ((¬ ∀ x ∈ rest, FitV x) → Ev (fun k => impl_DocBytes.l0 k ds (ds.length : Int) (pre.length : Int) id ds) ([], 12))
  | [], pre, hx => by
    refine ⟨fun _ h => ?_, fun h => absurd (by simp) h⟩
    have hall : ∀ x ∈ ds, FitV x := by rw [hx]; simpa using h
    unfold docL at hb ⊢
    simp only [List.length_append] at hb
    refine Ev.step (fun k => impl_DocBytes.l0.eq_2 _ _ _ _ _ k) (Ev.ite_neg (by rw [hx]; exact end_lt) ?_)
    refine Ev.bind (putText_ev [] id (by omega) (by simp only [List.length_nil]; omega)) (Ev.bind (putInt_ev _ ds.length (by omega) (by simp only [List.nil_append]; omega)) ?_)
    refine Ev.eq (impl_l3 ds (by omega) ds [] _ rfl hall (by simp only [List.nil_append, List.length_append]; omega)) (by simp)
  | x :: rest, pre, hx => by
    have hlt : pre.length < 1048576 := by rw [hx] at hl; simp at hl; omega
    have hrd : rd_T84 ds (pre.length : Int) = x := by rw [hx]; exact mid_getD _
    have hm : (pre.length : Int) < (ds.length : Int) := by rw [hx]; exact mid_lt
    have hvx := hv x (by rw [hx]; simp)
    have ih := impl_l0 hl hid hv hb rest (pre ++ [x]) (by rw [hx]; simp)
    have e : ((pre ++ [x]).length : Int) = ((pre.length + 1 : Nat) : Int) := by simp
    rw [e] at ih
    have h1 := impl_l1 id ds pre.length hlt x hvx.1 hvx.2 x.f1 [] rfl
    refine ⟨fun h hp => ?_, fun h => ?_⟩
    · have hfx := h x (by simp)
      obtain ⟨ha, hb1, hc, hd, he⟩ := hfx
      refine Ev.step (fun k => impl_DocBytes.l0.eq_2 _ _ _ _ _ k) (Ev.ite_pos hm (Ev.ite_pos (by omega) (Ev.ite_pos hm ?_)))
      rw [hrd]
      refine Ev.ite_neg (by omega) (Ev.ite_neg (by omega) (Ev.step (fun k => impl_DocBytes.j2.eq_2 _ _ _ _ _ _ _ _ _ k) (Ev.ite_neg (by simp; omega) (h1.1 ⟨hd, he⟩ _ (ih.1 (fun y hy => h y (by simp [hy])) (fun y hy => ?_))))))
      rcases List.mem_append.1 hy with hy | hy
      · exact hp y hy
      · rw [List.mem_singleton.1 hy]
        exact h x (by simp)
    · refine Ev.step (fun k => impl_DocBytes.l0.eq_2 _ _ _ _ _ k) (Ev.ite_pos hm (Ev.ite_pos (by omega) (Ev.ite_pos hm ?_)))
      rw [hrd]
      have big : Ev (fun k => impl_DocBytes.j2 k ds (ds.length : Int) (pre.length : Int) true id ds x.f0 x.f1 x.f2) ([], 12) := Ev.step (fun k => impl_DocBytes.j2.eq_2 _ _ _ _ _ _ _ _ _ k) (Ev.ite_pos rfl (Ev.now _))
      by_cases ha : (x.f0.size : Int) > 65536
      · exact Ev.ite_pos ha big
      · refine Ev.ite_neg ha ?_
        by_cases hb1 : (x.f1.length : Int) > 4096
        · exact Ev.ite_pos hb1 big
        · refine Ev.ite_neg hb1 ?_
          by_cases hc : (x.f2.length : Int) > 4096
          · exact Ev.step (fun k => impl_DocBytes.j2.eq_2 _ _ _ _ _ _ _ _ _ k) (Ev.ite_pos (by simpa using hc) (Ev.now _))
          · refine Ev.step (fun k => impl_DocBytes.j2.eq_2 _ _ _ _ _ _ _ _ _ k) (Ev.ite_neg (by simp; omega) ?_)
            by_cases hd : (∀ t ∈ x.f1, FitT t) ∧ ∀ n ∈ x.f2, OkN n
            · refine h1.1 hd _ (ih.2 (fun h2 => h (fun y hy => ?_)))
              rcases List.mem_cons.1 hy with rfl | hy
              · exact ⟨by omega, by omega, by omega, hd.1, hd.2⟩
              · exact h2 y hy
            · exact h1.2 hd
open Classical in
 
noncomputable def docR (id : ByteArray) (ds : List S84) : List Int × Int := if FitD id ds then (docL id ds, 0) else ([], 12)
theorem impl_DocBytes_ev (hv : ∀ x ∈ ds, x.f1.length ≤ 1048576 ∧ x.f2.length ≤ 1048576) (hb : (docL id ds).length < 140737488355328) : Ev (fun k => impl_DocBytes.f k id ds) (docR id ds) := by
  unfold docR impl_DocBytes.f
  by_cases ha : (id.size : Int) > 65536
  · rw [if_neg (fun h => by have := h.1; omega)]
    exact Ev.ite_pos ha (Ev.step (fun k => impl_DocBytes.j0.eq_2 _ _ _ k) (Ev.ite_pos rfl (Ev.now _)))
  · refine Ev.ite_neg ha ?_
    by_cases hc : (ds.length : Int) > 4096
    · rw [if_neg (fun h => by have := h.2.1; omega)]
      exact Ev.step (fun k => impl_DocBytes.j0.eq_2 _ _ _ k) (Ev.ite_pos (by simpa using hc) (Ev.now _))
    · refine Ev.step (fun k => impl_DocBytes.j0.eq_2 _ _ _ k) (Ev.ite_neg (by simp; omega) ?_)
      have h0 := impl_l0 id ds (by omega) (by omega) hv hb ds [] rfl
      by_cases hd : ∀ x ∈ ds, FitV x
      · rw [if_pos ⟨by omega, by omega, hd⟩]
        exact h0.1 hd (by simp)
      · rw [if_neg (fun h => hd h.2.2)]
        exact h0.2 hd
theorem spec_DocBytes_ev (hl : ds.length ≤ 1048576) (hv : ∀ x ∈ ds, x.f1.length ≤ 1048576 ∧ x.f2.length ≤ 1048576) (hb : (docL id ds).length < 140737488355328) : Ev (fun k => spec_DocBytes.f k id ds) (docR id ds) := by
  have h0 := fits_ev id ds hl hv
  unfold docR spec_DocBytes.f
  by_cases h : FitD id ds
  · rw [if_pos h]
    exact Ev.bind (h0.1 h) (Ev.ite_pos rfl (Ev.bind (l06Bytes_ev id ds h hb) (Ev.now _)))
  · rw [if_neg h]
    exact Ev.bind (h0.2 h) (Ev.ite_neg (by simp) (Ev.now _))
end
theorem flatMap_le {α : Type} (f : α → List Int) (g : α → Nat) : ∀ (xs : List α), (∀ x ∈ xs, (f x).length ≤ g x) → (xs.flatMap f).length ≤ (xs.map g).sum
  | [], _ => by simp
  | x :: xs, h => by
    rw [List.flatMap_cons, List.length_append, List.map_cons, List.sum_cons]
    have := h x (by simp)
    have := flatMap_le f g xs (fun y hy => h y (by simp [hy]))
    omega
theorem txtL_le (s : ByteArray) (h : s.size ≤ 9223372036854775807) : (txtL s).length ≤ 9 + s.size := by
  unfold txtL
  rw [List.length_append, bytesOf_length]
  have := putL_len s.size h
  omega
end Go.Proofs.Ytndjodgcemgpfaa.Q
end

section
set_option linter.unusedVariables false
set_option linter.unusedSimpArgs false
namespace Go.Proofs.Ytndjodgcemgpfaa.Q
open Go.RowKit Go.Proofs.YtndjodgcemgpfaaW.PrintWords Go.Proofs.YtndjodgcemgpfaaW.PrintLast Go.Proofs.YtndjodgcemgpfaaW.PrintMore
def OkB (s : ByteArray) : Prop := ∀ i : Nat, i < s.size → 33 ≤ bt s (i : Int) ∧ bt s (i : Int) ≤ 126
def OkId (s : ByteArray) : Prop := (1 ≤ s.size ∧ s.size ≤ 30) ∧ OkB s
theorem wrap_succ {i : Nat} (h : i < 4611686018427387904) : wrap64 ((i : Int) + 1) = ((i + 1 : Nat) : Int) := by
  rw [wrap64_of (by omega) (by omega)]
  omega
theorem oIdOk_l0 (s : ByteArray) (hs : s.size ≤ 4611686018427387903) : ∀ (n i : Nat), i + n = s.size → (∀ j, j < i → 33 ≤ bt s (j : Int) ∧ bt s (j : Int) ≤ 126) →
    (OkB s → Ev (fun k => impl_oIdOk.l0 k s (s.size : Int) (i : Int)) true) ∧ (¬ OkB s → Ev (fun k => impl_oIdOk.l0 k s (s.size : Int) (i : Int)) false) := by
  intro n
  induction n with
  | zero =>
    intro i hi hj
    refine ⟨fun _ => Ev.step (fun k => impl_oIdOk.l0.eq_2 _ _ _ k) (Ev.ite_neg (by omega) (Ev.now _)), fun h => absurd (fun j hj' => hj j (by omega)) h⟩
  | succ n ih =>
    intro i hi hj
    by_cases h1 : bt s (i : Int) < 33
    · refine ⟨fun h => absurd (h i (by omega)).1 (by omega), fun _ => Ev.step (fun k => impl_oIdOk.l0.eq_2 _ _ _ k) (Ev.ite_pos (by omega) (Ev.ite_pos (by omega) (Ev.ite_pos (by omega) (Ev.ite_pos h1 (Ev.now _)))))⟩
    · by_cases h2 : bt s (i : Int) > 126
      · refine ⟨fun h => absurd (h i (by omega)).2 (by omega), fun _ => Ev.step (fun k => impl_oIdOk.l0.eq_2 _ _ _ k) (Ev.ite_pos (by omega) (Ev.ite_pos (by omega) (Ev.ite_pos (by omega) (Ev.ite_neg h1 (Ev.ite_pos h2 (Ev.now _))))))⟩
      · have := ih (i + 1) (by omega) (fun j hj' => by
          by_cases hji : j = i
          · subst hji; exact ⟨by omega, by omega⟩
          · exact hj j (by omega))
        rw [← wrap_succ (by omega)] at this
        exact ⟨fun h => Ev.step (fun k => impl_oIdOk.l0.eq_2 _ _ _ k) (Ev.ite_pos (by omega) (Ev.ite_pos (by omega) (Ev.ite_pos (by omega) (Ev.ite_neg h1 (Ev.ite_neg h2 (this.1 h)))))),
          fun h => Ev.step (fun k => impl_oIdOk.l0.eq_2 _ _ _ k) (Ev.ite_pos (by omega) (Ev.ite_pos (by omega) (Ev.ite_pos (by omega) (Ev.ite_neg h1 (Ev.ite_neg h2 (this.2 h))))))⟩
theorem oIdOk_ev (s : ByteArray) (hs : s.size ≤ 4611686018427387903) : (OkId s → Ev (fun k => impl_oIdOk.f k s) true) ∧ (¬ OkId s → Ev (fun k => impl_oIdOk.f k s) false) := by
  unfold impl_oIdOk.f OkId
  have h := oIdOk_l0 s hs s.size 0 (by omega) (fun j hj => by omega)
  by_cases h1 : (s.size : Int) < 1
  · exact ⟨fun h => by omega, fun _ => Ev.ite_pos h1 (Ev.step (fun k => impl_oIdOk.j0.eq_2 _ _ k) (Ev.ite_pos rfl (Ev.now _)))⟩
  · by_cases h2 : (s.size : Int) > 30
    · exact ⟨fun h => by omega, fun _ => Ev.ite_neg h1 (Ev.step (fun k => impl_oIdOk.j0.eq_2 _ _ k) (Ev.ite_pos (by simpa using h2) (Ev.now _)))⟩
    · exact ⟨fun hh => Ev.ite_neg h1 (Ev.step (fun k => impl_oIdOk.j0.eq_2 _ _ k) (Ev.ite_neg (by simp; omega) (h.1 hh.2))),
        fun hh => Ev.ite_neg h1 (Ev.step (fun k => impl_oIdOk.j0.eq_2 _ _ k) (Ev.ite_neg (by simp; omega) (h.2 (fun h3 => hh ⟨⟨by omega, by omega⟩, h3⟩))))⟩
theorem l06Id_l0 (s : ByteArray) (hs : s.size ≤ 4611686018427387903) : ∀ (n i : Nat), i + n = s.size → (∀ j, j < i → 33 ≤ bt s (j : Int) ∧ bt s (j : Int) ≤ 126) →
    (OkId s → Ev (fun k => spec_l06Id.l0 k s (i : Int)) true) ∧ (¬ OkId s → Ev (fun k => spec_l06Id.l0 k s (i : Int)) false) := by
  intro n
  induction n with
  | zero =>
    intro i hi hj
    have hb : OkB s := fun j hj' => hj j (by omega)
    refine ⟨fun h => Ev.step (fun k => spec_l06Id.l0.eq_2 _ _ k) (Ev.ite_neg (by omega) (Ev.ite_pos (by have := h.1; omega) (Ev.eq (Ev.now _) (by have := h.1; simp; omega)))), fun h => Ev.step (fun k => spec_l06Id.l0.eq_2 _ _ k) (Ev.ite_neg (by omega) ?_)⟩
    by_cases h1 : (s.size : Int) ≥ 1
    · exact Ev.ite_pos h1 (Ev.eq (Ev.now _) (by
        simp only [decide_eq_false_iff_not]
        intro h2
        exact h ⟨⟨by omega, by omega⟩, hb⟩))
    · exact Ev.ite_neg h1 (Ev.now _)
  | succ n ih =>
    intro i hi hj
    by_cases h1 : bt s (i : Int) < 33
    · refine ⟨fun h => absurd (h.2 i (by omega)).1 (by omega), fun _ => Ev.step (fun k => spec_l06Id.l0.eq_2 _ _ k) (Ev.ite_pos (by omega) (Ev.ite_pos (by omega) (Ev.ite_pos h1 (Ev.now _))))⟩
    · by_cases h2 : bt s (i : Int) > 126
      · refine ⟨fun h => absurd (h.2 i (by omega)).2 (by omega), fun _ => Ev.step (fun k => spec_l06Id.l0.eq_2 _ _ k) (Ev.ite_pos (by omega) (Ev.ite_pos (by omega) (Ev.ite_neg h1 (Ev.ite_pos h2 (Ev.now _)))))⟩
      · have := ih (i + 1) (by omega) (fun j hj' => by
          by_cases hji : j = i
          · subst hji; exact ⟨by omega, by omega⟩
          · exact hj j (by omega))
        rw [← wrap_succ (by omega)] at this
        exact ⟨fun h => Ev.step (fun k => spec_l06Id.l0.eq_2 _ _ k) (Ev.ite_pos (by omega) (Ev.ite_pos (by omega) (Ev.ite_neg h1 (Ev.ite_neg h2 (this.1 h))))),
          fun h => Ev.step (fun k => spec_l06Id.l0.eq_2 _ _ k) (Ev.ite_pos (by omega) (Ev.ite_pos (by omega) (Ev.ite_neg h1 (Ev.ite_neg h2 (this.2 h)))))⟩
theorem l06Id_ev (s : ByteArray) (hs : s.size ≤ 4611686018427387903) : (OkId s → Ev (fun k => spec_l06Id.f k s) true) ∧ (¬ OkId s → Ev (fun k => spec_l06Id.f k s) false) :=
  l06Id_l0 s hs s.size 0 (by omega) (fun j hj => by omega)
def IsB (xs : List Int) : Prop := ∀ b ∈ xs, 0 ≤ b ∧ b < 256
theorem isB_append {xs ys : List Int} (h1 : IsB xs) (h2 : IsB ys) : IsB (xs ++ ys) := fun b hb => (List.mem_append.1 hb).elim (h1 b) (h2 b)
theorem putL_isB : ∀ n : Nat, IsB (putL n) := by
  intro n
  induction n using Nat.strongRecOn with
  | ind n ih =>
    by_cases h : n < 128
    · rw [putL_small h]
      intro b hb
      rw [List.mem_singleton.1 hb]
      omega
    · rw [putL_big h]
      intro b hb
      rcases List.mem_cons.1 hb with rfl | hb
      · omega
      · exact ih (n / 128) (by omega) b hb
theorem bytesOf_isB (s : ByteArray) : IsB (bytesOf s) := by
  intro b hb
  unfold bytesOf at hb
  obtain ⟨x, _, rfl⟩ := List.mem_map.1 hb
  have := x.toNat_lt
  omega
theorem flatMap_isB {α : Type} (f : α → List Int) (xs : List α) (h : ∀ x ∈ xs, IsB (f x)) : IsB (xs.flatMap f) := fun b hb => by
  obtain ⟨x, hx, hb⟩ := List.mem_flatMap.1 hb
  exact h x hx b hb
theorem txtL_isB (s : ByteArray) : IsB (txtL s) := isB_append (putL_isB _) (bytesOf_isB _)
theorem docL_isB (id : ByteArray) (ds : List S84) : IsB (docL id ds) :=
  isB_append (txtL_isB _) (isB_append (putL_isB _) (flatMap_isB _ _ fun x _ => isB_append (txtL_isB _) (isB_append (putL_isB _) (isB_append (flatMap_isB _ _ fun s _ => txtL_isB s) (isB_append (putL_isB _) (flatMap_isB _ _ fun n _ => putL_isB _))))))
def hx (h c : Int) : Int := (((h.toNat ^^^ c.toNat : Nat) : Int) * 16777619) % 4294967296
theorem xor_i64 (a b : Int) (h1 : 0 ≤ a) (h2 : a < 4294967296) (h3 : 0 ≤ b) (h4 : b < 4294967296) : Go.bits .xor .i64 a b = ((a.toNat ^^^ b.toNat : Nat) : Int) := by
  obtain ⟨A, rfl⟩ := Int.eq_ofNat_of_zero_le h1
  obtain ⟨B, rfl⟩ := Int.eq_ofNat_of_zero_le h3
  have hx : A ^^^ B < 2 ^ 32 := Nat.xor_lt_two_pow (by omega) (by omega)
  show IntKind.i64.wrap ((BitVec.ofInt 64 (A : Int) ^^^ BitVec.ofInt 64 (B : Int)).toNat : Int) = _
  rw [BitVec.toNat_xor, BitVec.ofInt_natCast, BitVec.ofInt_natCast, BitVec.toNat_ofNat, BitVec.toNat_ofNat, Nat.mod_eq_of_lt (by omega), Nat.mod_eq_of_lt (by omega), IntKind.wrap_i64]
  simp only [Int.toNat_natCast]
  omega
theorem xor_lt (a b : Int) (h2 : a < 4294967296) (h4 : b < 4294967296) : ((a.toNat ^^^ b.toNat : Nat) : Int) < 4294967296 := by
  have hx : a.toNat ^^^ b.toNat < 2 ^ 32 := Nat.xor_lt_two_pow (by omega) (by omega)
  omega
def sumL (xs : List Int) : Int := if 1048576 < xs.length then 0 else xs.foldl hx 2166136261
theorem foldl_hx (xs : List Int) (h : Int) (h0 : 0 ≤ h) (h1 : h < 4294967296) : 0 ≤ xs.foldl hx h ∧ xs.foldl hx h < 4294967296 := by
  induction xs generalizing h with
  | nil => exact ⟨h0, h1⟩
  | cons x xs ih => exact ih _ (by unfold hx; omega) (by unfold hx; omega)
theorem sumL_lt (xs : List Int) : 0 ≤ sumL xs ∧ sumL xs < 4294967296 := by
  unfold sumL
  split
  · omega
  · exact foldl_hx xs _ (by omega) (by omega)
theorem implSum_l0 (xs : List Int) (hb : IsB xs) (hl : xs.length ≤ 1048576) : ∀ (rest pre : List Int) (h : Int), xs = pre ++ rest → 0 ≤ h → h < 4294967296 →
    Ev (fun k => impl_Sum32.l0 k h xs (xs.length : Int) (pre.length : Int)) (rest.foldl hx h) := by
  intro rest
  induction rest with
  | nil =>
    intro pre h he h0 h1
    refine Ev.step (fun k => impl_Sum32.l0.eq_2 _ _ _ _ k) (Ev.ite_neg (by rw [he]; exact end_lt) (Ev.eq (Ev.now _) ?_))
    rw [wrap64_of (by omega) (by omega)]
    rfl
  | cons x rest ih =>
    intro pre h he h0 h1
    have hm : ((pre.length : Int)) < (xs.length : Int) := by rw [he]; exact mid_lt
    have hr : rd xs (pre.length : Int) = x := by rw [he]; exact mid_getD 0
    have hx' := hb x (by rw [he]; simp)
    refine Ev.step (fun k => impl_Sum32.l0.eq_2 _ _ _ _ k) (Ev.ite_pos hm (Ev.ite_pos (by omega) (Ev.ite_pos hm ?_)))
    rw [hr, wrap_next (x := x) (by omega), show x % 4294967296 = x from by omega, u32_xor h x h0 h1 hx'.1 (by omega)]
    exact ih (pre ++ [x]) (hx h x) (by rw [he, snoc_cons]) (by unfold hx; omega) (by unfold hx; omega)
theorem implSum_ev (xs : List Int) (hb : IsB xs) : Ev (fun k => impl_Sum32.f k xs) (sumL xs) := by
  unfold impl_Sum32.f sumL
  by_cases h : 1048576 < xs.length
  · rw [if_pos h]
    exact Ev.ite_pos (by omega) (Ev.now _)
  · rw [if_neg h]
    exact Ev.ite_neg (by omega) (implSum_l0 xs hb (by omega) xs [] _ rfl (by omega) (by omega))
theorem specSum_l0 (xs : List Int) (hb : IsB xs) (hl : xs.length ≤ 1048576) : ∀ (rest pre : List Int) (h : Int), xs = pre ++ rest → 0 ≤ h → h < 4294967296 →
    Ev (fun k => spec_Sum32.l0 k xs h (pre.length : Int)) (rest.foldl hx h) := by
  intro rest
  induction rest with
  | nil =>
    intro pre h he h0 h1
    exact Ev.step (fun k => spec_Sum32.l0.eq_2 _ _ _ k) (Ev.ite_neg (by rw [he]; exact end_lt) (Ev.now _))
  | cons x rest ih =>
    intro pre h he h0 h1
    have hm : ((pre.length : Int)) < (xs.length : Int) := by rw [he]; exact mid_lt
    have hr : rd xs (pre.length : Int) = x := by rw [he]; exact mid_getD 0
    have hx' := hb x (by rw [he]; simp)
    have hlt := xor_lt h x h1 (by omega)
    refine Ev.step (fun k => spec_Sum32.l0.eq_2 _ _ _ k) (Ev.ite_pos hm (Ev.ite_pos (by omega) ?_))
    rw [hr, wrap_next (x := x) (by omega), wrap64_of (x := x) (by omega) (by omega), xor_i64 h x h0 h1 hx'.1 (by omega), wrap64_of (by omega) (by omega), Int.tmod_eq_emod_of_nonneg (by omega)]
    exact ih (pre ++ [x]) (hx h x) (by rw [he, snoc_cons]) (by unfold hx; omega) (by unfold hx; omega)
theorem specSum_ev (xs : List Int) (hb : IsB xs) : Ev (fun k => spec_Sum32.f k xs) (sumL xs) := by
  unfold spec_Sum32.f sumL
  by_cases h : 1048576 < xs.length
  · rw [if_pos h]
    exact Ev.ite_pos (by omega) (Ev.now _)
  · rw [if_neg h]
    exact Ev.ite_neg (by omega) (specSum_l0 xs hb (by omega) xs [] _ rfl (by omega) (by omega))
def fourL (a : Int) : List Int := [(a / 16777216) % 256, (a / 65536) % 256, (a / 256) % 256, a % 256]
theorem specFour (a : Int) (h0 : 0 ≤ a) (h1 : a < 4294967296) : spec_l04Four.f a = some (fourL a) := by
  unfold spec_l04Four.f fourL
  have t1 : Int.tdiv a 16777216 = a / 16777216 := Int.tdiv_eq_ediv_of_nonneg h0
  have t2 : Int.tdiv a 65536 = a / 65536 := Int.tdiv_eq_ediv_of_nonneg h0
  have t3 : Int.tdiv a 256 = a / 256 := Int.tdiv_eq_ediv_of_nonneg h0
  rw [t1, t2, t3, wrap64_of (x := a / 16777216) (by omega) (by omega), wrap64_of (x := a / 65536) (by omega) (by omega), wrap64_of (x := a / 256) (by omega) (by omega),
    Int.tmod_eq_emod_of_nonneg (by omega), Int.tmod_eq_emod_of_nonneg (by omega), Int.tmod_eq_emod_of_nonneg h0]
  simp
theorem implFour (a : Int) : impl_oFour.f a = some (fourL a) := rfl
def partL (kind : Int) (seq : Nat) (body : List Int) : List Int := ([kind % 256] ++ putL seq) ++ body
theorem partL_isB (kind : Int) (seq : Nat) {body : List Int} (h : IsB body) : IsB (partL kind seq body) :=
  isB_append (isB_append (fun b hb => by rw [List.mem_singleton.1 hb]; omega) (putL_isB _)) h
def recL (part : List Int) : List Int := (putL part.length ++ part) ++ fourL (sumL part)
theorem recL_length (part : List Int) : (recL part).length = (putL part.length).length + part.length + 4 := by simp only [recL, fourL, List.length_append, List.length_cons, List.length_nil]
def finR (part : List Int) : List Int × Int := if (recL part).length ≤ 1048576 then (recL part, 0) else ([], 2)
open Classical in
 
noncomputable def recR (kind seq : Int) (id did : ByteArray) (ds : List S84) : List Int × Int :=
  if 1 ≤ seq ∧ seq ≤ 4611686018427387903 then
    if kind = 1 then (if id.toList = [] ∧ OkId did ∧ FitD did ds then finR (partL kind seq.toNat (docL did ds)) else ([], 1))
    else if kind = 2 then (if OkId id ∧ did.toList = [] ∧ ds.length = 0 then finR (partL kind seq.toNat (bytesOf id)) else ([], 1))
    else ([], 1)
  else ([], 1)
theorem within_true (n : Int) (h0 : 0 ≤ n) (h1 : n ≤ 4611686018427387903) : impl_within.f n 0 4611686018427387903 = some true := by
  unfold impl_within.f
  rw [if_pos h0]
  simp [h1]
theorem implPutInt_ev (n : Nat) (h1 : n ≤ 4611686018427387903) : Ev (fun k => impl_PutInt.f k (n : Int)) (putL n, 0) := by
  unfold impl_PutInt.f
  have := putL_len n (by omega)
  exact Ev.const (within_true _ (by omega) (by omega)) (Ev.ite_pos rfl (Ev.bind (putInt_ev [] n (by omega) (by simp only [List.length_nil]; omega)) (Ev.now _)))
theorem impl_j1 (part : List Int) (hb : IsB part) (hl : part.length < 140737488355000) : Ev (fun k => impl_RecordBytes.j1 k part) (finR part) := by
  have hp := putL_len part.length (by omega)
  have hr := recL_length part
  refine Ev.step (fun k => impl_RecordBytes.j1.eq_2 _ k) (Ev.bind (implPutInt_ev part.length (by omega)) ?_)
  unfold finR
  show Ev (fun k => if (wrap64 ((wrap64 (((putL part.length).length : Int) + (part.length : Int))) + 4)) > 1048576 then _ else _) _
  rw [wrap64_of (x := ((putL part.length).length : Int) + (part.length : Int)) (by omega) (by omega), wrap64_of (by omega) (by omega)]
  by_cases h : (recL part).length ≤ 1048576
  · rw [if_pos h]
    refine Ev.ite_neg (by omega) (Ev.ite_pos (by show (putL part.length).length + part.length < _; omega) (Ev.some_bind (Ev.bind (implSum_ev part hb) (Ev.const (implFour _) (Ev.ite_pos ?_ (Ev.now _))))))
    simp only [List.length_append, fourL, List.length_cons, List.length_nil]
    omega
  · rw [if_neg h]
    exact Ev.ite_pos (by omega) (Ev.now _)
theorem impl_RecordBytes_ev (kind seq : Int) (id did : ByteArray) (ds : List S84) (hid : id.size ≤ 1048576) (hdid : did.size ≤ 1048576) (hv : ∀ x ∈ ds, x.f1.length ≤ 1048576 ∧ x.f2.length ≤ 1048576) (hb : (docL did ds).length < 140737488350000) :
    Ev (fun k => impl_RecordBytes.f k kind seq id did ds) (recR kind seq id did ds) := by
  unfold impl_RecordBytes.f recR
  by_cases h1 : seq < 1
  · rw [if_neg (by omega)]
    exact Ev.ite_pos h1 (Ev.step (fun k => impl_RecordBytes.j0.eq_2 _ _ _ _ _ _ k) (Ev.ite_pos rfl (Ev.now _)))
  · refine Ev.ite_neg h1 ?_
    by_cases h2 : seq > 4611686018427387903
    · rw [if_neg (by omega)]
      exact Ev.step (fun k => impl_RecordBytes.j0.eq_2 _ _ _ _ _ _ k) (Ev.ite_pos (by simpa using h2) (Ev.now _))
    · rw [if_pos ⟨by omega, by omega⟩]
      obtain ⟨n, rfl⟩ := Int.eq_ofNat_of_zero_le (a := seq) (by omega)
      have hp := putL_len n (by omega)
      refine Ev.step (fun k => impl_RecordBytes.j0.eq_2 _ _ _ _ _ _ k) (Ev.ite_neg (by simpa using h2) (Ev.bind (implPutInt_ev n (by omega)) (Ev.some_bind (Ev.ite_pos (by simp only [List.length_singleton]; omega) (Ev.some_bind ?_)))))
      by_cases k1 : kind = 1
      · rw [if_pos k1]
        refine Ev.ite_pos k1 (Ev.bind (impl_DocBytes_ev did ds hv (by omega)) ?_)
        unfold docR
        by_cases hf : FitD did ds
        · rw [if_pos hf]
          refine Ev.ite_pos rfl ?_
          have ho := oIdOk_ev did (by omega)
          by_cases hi : OkId did
          · refine Ev.bind (ho.1 hi) (Ev.ite_pos rfl ?_)
            by_cases he : id.toList = []
            · rw [if_pos ⟨he, hi, hf⟩]
              exact Ev.ite_pos he (Ev.ite_pos (by simp only [List.length_append, List.length_singleton]; omega) (impl_j1 _ (partL_isB kind n (docL_isB did ds)) (by simp only [List.length_append, List.length_singleton]; omega)))
            · rw [if_neg (fun h => he h.1)]
              exact Ev.ite_neg he (Ev.now _)
          · rw [if_neg (fun h => hi h.2.1)]
            exact Ev.bind (ho.2 hi) (Ev.ite_neg (by simp) (Ev.now _))
        · rw [if_neg hf, if_neg (fun h => hf h.2.2)]
          exact Ev.ite_neg (by simp) (Ev.now _)
      · rw [if_neg k1]
        refine Ev.ite_neg k1 ?_
        by_cases k2 : kind = 2
        · rw [if_pos k2]
          refine Ev.ite_pos k2 ?_
          have ho := oIdOk_ev id (by omega)
          by_cases hi : OkId id
          · refine Ev.bind (ho.1 hi) (Ev.ite_pos rfl ?_)
            by_cases he : did.toList = []
            · by_cases hn : ds.length = 0
              · rw [if_pos ⟨hi, he, hn⟩]
                have hbl := bytesOf_length id
                have hz : impl_oZeroDoc.f did ds = some true := by unfold impl_oZeroDoc.f; rw [if_pos he]; simp [hn]
                exact Ev.const hz (Ev.ite_pos rfl (Ev.ite_pos (by simp only [List.length_append, List.length_singleton]; omega) (impl_j1 _ (partL_isB kind n (bytesOf_isB id)) (by simp only [partL, List.length_append, List.length_singleton]; omega))))
              · rw [if_neg (fun h => hn h.2.2)]
                have hz : impl_oZeroDoc.f did ds = some false := by unfold impl_oZeroDoc.f; rw [if_pos he]; congr 1; exact beq_false_of_ne (by omega)
                exact Ev.const hz (Ev.ite_neg (by simp) (Ev.now _))
            · rw [if_neg (fun h => he h.2.1)]
              have hz : impl_oZeroDoc.f did ds = some false := by unfold impl_oZeroDoc.f; rw [if_neg he]
              exact Ev.const hz (Ev.ite_neg (by simp) (Ev.now _))
          · rw [if_neg (fun h => hi h.1)]
            exact Ev.bind (ho.2 hi) (Ev.ite_neg (by simp) (Ev.now _))
        · rw [if_neg k2]
          exact Ev.ite_neg k2 (Ev.now _)
open Classical in
noncomputable def recOk (kind seq : Int) (id did : ByteArray) (ds : List S84) : Bool :=
  decide ((1 ≤ seq ∧ seq ≤ 4611686018427387903) ∧ ((kind = 1 ∧ id.toList = [] ∧ OkId did ∧ FitD did ds) ∨ (kind = 2 ∧ OkId id ∧ did.toList = [] ∧ ds.length = 0)))
open Classical in
theorem specOk_ev (kind seq : Int) (id did : ByteArray) (ds : List S84) (hid : id.size ≤ 1048576) (hdid : did.size ≤ 1048576) (hl : ds.length ≤ 1048576) (hv : ∀ x ∈ ds, x.f1.length ≤ 1048576 ∧ x.f2.length ≤ 1048576) :
    Ev (fun k => spec_l14RecordOK.f k kind seq id did ds) (recOk kind seq id did ds) := by
  unfold spec_l14RecordOK.f
  by_cases h1 : seq < 1
  · exact Ev.ite_pos h1 (Ev.step (fun k => spec_l14RecordOK.j0.eq_2 _ _ _ _ _ _ k) (Ev.ite_pos rfl (Ev.eq (Ev.now _) (by symm; unfold recOk; exact decide_eq_false (by omega)))))
  · refine Ev.ite_neg h1 ?_
    by_cases h2 : seq > 4611686018427387903
    · exact Ev.step (fun k => spec_l14RecordOK.j0.eq_2 _ _ _ _ _ _ k) (Ev.ite_pos (by simpa using h2) (Ev.eq (Ev.now _) (by symm; unfold recOk; exact decide_eq_false (by omega))))
    · refine Ev.step (fun k => spec_l14RecordOK.j0.eq_2 _ _ _ _ _ _ k) (Ev.ite_neg (by simpa using h2) ?_)
      by_cases k1 : kind = 1
      · refine Ev.ite_pos k1 ?_
        by_cases he : id.toList = []
        · refine Ev.ite_pos he ?_
          have ho := l06Id_ev did (by omega)
          by_cases hi : OkId did
          · refine Ev.bind (ho.1 hi) (Ev.ite_pos rfl ?_)
            have hf := fits_ev did ds hl hv
            by_cases hd : FitD did ds
            · exact Ev.bind (hf.1 hd) (Ev.eq (Ev.now _) (by symm; unfold recOk; exact decide_eq_true ⟨⟨by omega, by omega⟩, Or.inl ⟨k1, he, hi, hd⟩⟩))
            · exact Ev.bind (hf.2 hd) (Ev.eq (Ev.now _) (by symm; unfold recOk; exact decide_eq_false (fun h => h.2.elim (fun h => hd h.2.2.2) (fun h => by omega))))
          · exact Ev.bind (ho.2 hi) (Ev.ite_neg (by simp) (Ev.eq (Ev.now _) (by symm; unfold recOk; exact decide_eq_false (fun h => h.2.elim (fun h => hi h.2.2.1) (fun h => by omega)))))
        · exact Ev.ite_neg he (Ev.eq (Ev.now _) (by symm; unfold recOk; exact decide_eq_false (fun h => h.2.elim (fun h => he h.2.1) (fun h => by omega))))
      · refine Ev.ite_neg k1 ?_
        by_cases k2 : kind = 2
        · refine Ev.ite_pos k2 ?_
          have ho := l06Id_ev id (by omega)
          by_cases hi : OkId id
          · refine Ev.bind (ho.1 hi) (Ev.ite_pos rfl ?_)
            unfold spec_l14EmptyDoc.f
            by_cases he : did.toList = []
            · refine Ev.const (if_pos he) (Ev.eq (Ev.now _) ?_)
              unfold recOk
              by_cases hn : ds.length = 0
              · rw [decide_eq_true ⟨⟨by omega, by omega⟩, Or.inr ⟨k2, hi, he, hn⟩⟩]
                simp [hn]
              · rw [decide_eq_false (fun h => h.2.elim (fun h => by omega) (fun h => hn h.2.2.2))]
                exact beq_false_of_ne (by omega)
            · exact Ev.const (if_neg he) (Ev.eq (Ev.now _) (by symm; unfold recOk; exact decide_eq_false (fun h => h.2.elim (fun h => by omega) (fun h => he h.2.2.1))))
          · exact Ev.bind (ho.2 hi) (Ev.ite_neg (by simp) (Ev.eq (Ev.now _) (by symm; unfold recOk; exact decide_eq_false (fun h => h.2.elim (fun h => by omega) (fun h => hi h.2.1)))))
        · exact Ev.ite_neg k2 (Ev.eq (Ev.now _) (by symm; unfold recOk; exact decide_eq_false (fun h => h.2.elim (fun h => k1 h.1) (fun h => k2 h.1))))
theorem specBytes_put (n : Nat) (hn : n ≤ 4611686018427387903) (id did : ByteArray) (ds : List S84) (hf : FitD did ds) (hb : (docL did ds).length < 140737488350000) :
    Ev (fun k => spec_l14Bytes.f k 1 (n : Int) id did ds) (recL (partL 1 n (docL did ds))) := by
  have hp := putL_len n (by omega)
  have hpl : (partL 1 n (docL did ds)).length = 1 + (putL n).length + (docL did ds).length := by simp only [partL, List.length_append, List.length_singleton]
  have hp2 := putL_len (partL 1 n (docL did ds)).length (by omega)
  have hs := sumL_lt (partL 1 n (docL did ds))
  refine Ev.some_bind (Ev.bind (l03Put n (by omega)) (Ev.ite_pos (by simp only [List.length_singleton]; omega) (Ev.some_bind (Ev.ite_pos rfl (Ev.bind (l06Bytes_ev did ds hf (by omega)) (Ev.ite_pos (by simp only [List.length_append, List.length_singleton]; omega) (Ev.some_bind ?_)))))))
  refine Ev.bind (l03Put (partL 1 n (docL did ds)).length (by omega)) (Ev.ite_pos ?_ (Ev.some_bind (Ev.bind (specSum_ev _ (partL_isB 1 n (docL_isB did ds))) (Ev.const (specFour _ hs.1 hs.2) (Ev.ite_pos ?_ (Ev.now _))))))
  · show (putL (partL 1 n (docL did ds)).length).length + (partL 1 n (docL did ds)).length < _
    omega
  · show ((putL (partL 1 n (docL did ds)).length) ++ (partL 1 n (docL did ds))).length + 4 < _
    rw [List.length_append]
    omega
theorem specBytes_del (n : Nat) (hn : n ≤ 4611686018427387903) (id did : ByteArray) (ds : List S84) (hid : id.size ≤ 1048576) :
    Ev (fun k => spec_l14Bytes.f k 2 (n : Int) id did ds) (recL (partL 2 n (bytesOf id))) := by
  have hp := putL_len n (by omega)
  have hbl := bytesOf_length id
  have hpl : (partL 2 n (bytesOf id)).length = 1 + (putL n).length + (bytesOf id).length := by simp only [partL, List.length_append, List.length_singleton]
  have hp2 := putL_len (partL 2 n (bytesOf id)).length (by omega)
  have hs := sumL_lt (partL 2 n (bytesOf id))
  refine Ev.some_bind (Ev.bind (l03Put n (by omega)) (Ev.ite_pos (by simp only [List.length_singleton]; omega) (Ev.some_bind (Ev.ite_neg (by decide) (Ev.ite_pos (by simp only [List.length_append, List.length_singleton]; omega) (Ev.some_bind ?_))))))
  refine Ev.bind (l03Put (partL 2 n (bytesOf id)).length (by omega)) (Ev.ite_pos ?_ (Ev.some_bind (Ev.bind (specSum_ev _ (partL_isB 2 n (bytesOf_isB id))) (Ev.const (specFour _ hs.1 hs.2) (Ev.ite_pos ?_ (Ev.now _))))))
  · show (putL (partL 2 n (bytesOf id)).length).length + (partL 2 n (bytesOf id)).length < _
    omega
  · show ((putL (partL 2 n (bytesOf id)).length) ++ (partL 2 n (bytesOf id))).length + 4 < _
    rw [List.length_append]
    omega
open Classical in
theorem spec_RecordBytes_ev (kind seq : Int) (id did : ByteArray) (ds : List S84) (hid : id.size ≤ 1048576) (hdid : did.size ≤ 1048576) (hl : ds.length ≤ 1048576) (hv : ∀ x ∈ ds, x.f1.length ≤ 1048576 ∧ x.f2.length ≤ 1048576) (hb : (docL did ds).length < 140737488350000) :
    Ev (fun k => spec_RecordBytes.f k kind seq id did ds) (recR kind seq id did ds) := by
  refine Ev.bind (specOk_ev kind seq id did ds hid hdid hl hv) ?_
  have fin : ∀ p : List Int, Ev (fun k : Nat => if ((recL p).length : Int) > 1048576 then (some (([] : List Int), (2 : Int))) else (some (recL p, 0))) (finR p) := fun p => by
    unfold finR
    by_cases h : (recL p).length ≤ 1048576
    · rw [if_pos h]
      exact Ev.ite_neg (by omega) (Ev.now _)
    · rw [if_neg h]
      exact Ev.ite_pos (by omega) (Ev.now _)
  unfold recR recOk
  by_cases hs : 1 ≤ seq ∧ seq ≤ 4611686018427387903
  · rw [if_pos hs]
    obtain ⟨n, rfl⟩ := Int.eq_ofNat_of_zero_le (a := seq) (by omega)
    by_cases k1 : kind = 1
    · rw [if_pos k1]
      subst k1
      by_cases h : id.toList = [] ∧ OkId did ∧ FitD did ds
      · rw [if_pos h]
        exact Ev.ite_pos (decide_eq_true ⟨hs, Or.inl ⟨rfl, h⟩⟩) (Ev.bind (specBytes_put n (by omega) id did ds h.2.2 hb) (fin _))
      · rw [if_neg h]
        exact Ev.ite_neg (by rw [decide_eq_true_iff]; exact fun hh => hh.2.elim (fun g => h g.2) (fun g => by omega)) (Ev.now _)
    · rw [if_neg k1]
      by_cases k2 : kind = 2
      · rw [if_pos k2]
        subst k2
        by_cases h : OkId id ∧ did.toList = [] ∧ ds.length = 0
        · rw [if_pos h]
          exact Ev.ite_pos (decide_eq_true ⟨hs, Or.inr ⟨rfl, h⟩⟩) (Ev.bind (specBytes_del n (by omega) id did ds hid) (fin _))
        · rw [if_neg h]
          exact Ev.ite_neg (by rw [decide_eq_true_iff]; exact fun hh => hh.2.elim (fun g => by omega) (fun g => h g.2)) (Ev.now _)
      · rw [if_neg k2]
        exact Ev.ite_neg (by rw [decide_eq_true_iff]; exact fun hh => hh.2.elim (fun g => k1 g.1) (fun g => k2 g.1)) (Ev.now _)
  · rw [if_neg hs]
    exact Ev.ite_neg (by rw [decide_eq_true_iff]; exact fun hh => hs hh.1) (Ev.now _)
end Go.Proofs.Ytndjodgcemgpfaa.Q
end

section
set_option linter.unusedVariables false
set_option linter.unusedSimpArgs false
namespace Go.Proofs.Ytndjodgcemgpfaa.Q
open Go.RowKit Go.Proofs.YtndjodgcemgpfaaW.PrintWords Go.Proofs.YtndjodgcemgpfaaW.PrintLast Go.Proofs.YtndjodgcemgpfaaW.PrintMore
set_option maxHeartbeats 8000000 in
set_option maxRecDepth 100000 in
theorem laws_FnExactDocBytes.walk (k : Nat) (id : ByteArray) (A : Option Addr) (c : Nat) (vs : List S134) (w : World) (hr : Kd.C k134 w A vs.length vs) (hc : vs.length ≤ c)
    (sz : Int) (ds : List S84) (wb : List Int) (wc k1 m : Int) (ds' : List S84) (wb' : List Int)
    (h1 : laws_szDoc.f k id vs 1048576 = some sz) (h2 : laws_toDoc.f k id vs = some (id, ds)) (h3 : spec_DocBytes.f k id ds = some (wb, wc)) (h4 : impl_DocBytes.f k id ds = some (wb, wc)) (h5 : laws_eqByteS.f k wb wb = some true) (h6 : laws_eqDoc.f k id ds id ds = some true) (h7 : laws_markValueS.f k ds 1 = some (k1, ds')) (h8 : laws_markByteS.f k wb 1 = some (m, wb')) (h9 : laws_heldByteS.f k wb' 1 = some m) (hsz : 0 ≤ sz) (hk1 : 0 ≤ k1) (hm : 0 ≤ m) :
    Calls Try.prog 3 #[.agg #[.string id, .slice A vs.length c]] w fun e w' => e = .returned (.bool true) ∧ Below w.heap.size w w' := by
  have hu24 := Try.underlying24
  have hu31 := Try.underlying31
  have HR := Aside0.mk hr
  have HC := Aside0.mk hc
  have H1 := Aside0.mk h1
  have H2 := Aside0.mk h2
  have H3 := Aside0.mk h3
  have H4 := Aside0.mk h4
  have H5 := Aside0.mk h5
  have H6 := Aside0.mk h6
  have H7 := Aside0.mk h7
  have H8 := Aside0.mk h8
  have H9 := Aside0.mk h9
  clear hr hc h1 h2 h3 h4 h5 h6 h7 h8 h9
  have hsz' : decide (sz < 0) = false := decide_eq_false (by omega)
  have hk1' : decide (k1 < 0) = false := decide_eq_false (by omega)
  have hm' : decide (m < 0) = false := decide_eq_false (by omega)
  have HB := Aside0.mk (Below.refl w.heap.size w)
  go_enter Try.func3, Try.ntmps3
  go_wp2_with fail
  go_at_call 9
  refine (laws_szDoc.calls k id _ _ vs 1048576 sz _ (Kd.C_below HR.out (below_alloc HB.out _)) HC.out H1.out).mono ?_
  rintro e w1 ⟨rfl, hb⟩
  have HB2 := Aside0.mk (below_step (below_alloc HB.out _) hb)
  have B_t_3 := Aside0.mk (blk_below (blk_new w _) hb)
  have Z4 := Aside0.mk (show w.heap.size + 1 ≤ w1.heap.size from by have := hb.size; simpa using this)
  clear HB  hb 
  have hx_t_0 : w1.cell? ⟨w.heap.size, 0, none⟩ = some (.string id) := (blk_cell B_t_3.out 0).trans rfl
  have hx_t_1 : w1.cell? ⟨w.heap.size, 1, none⟩ = some (.slice A vs.length c) := (blk_cell B_t_3.out 1).trans rfl
  go_wp2_with fail
  go_at_call 11
  refine (laws_toDoc.calls k id _ _ vs id ds _ (Kd.C_below HR.out HB2.out) HC.out H2.out).mono ?_
  rintro e w6 ⟨v5, rfl, ho0, hb⟩
  have HB7 := Aside0.mk (below_step HB2.out hb)
  have B_t_8 := Aside0.mk (blk_below B_t_3.out hb)
  have Z9 := Aside0.mk (show w1.heap.size ≤ w6.heap.size from by have := hb.size; simpa using this)
  have O_d1_10 := Aside0.mk (Kd.S_mono (ok' := fun k_ => w1.heap.size ≤ k_ ∧ k_ < w6.heap.size) (Kd.S_span ho0 HB2.out.size) (fun k_ hk_ => by simpa using hk_))
  obtain ⟨A11, c12, e13⟩ := Kd.S_slice O_d1_10.out
  subst e13
  clear HB2 B_t_3 hb ho0 hx_t_0 hx_t_1
  have hx_t_0 : w6.cell? ⟨w.heap.size, 0, none⟩ = some (.string id) := (blk_cell B_t_8.out 0).trans rfl
  have hx_t_1 : w6.cell? ⟨w.heap.size, 1, none⟩ = some (.slice A vs.length c) := (blk_cell B_t_8.out 1).trans rfl
  go_wp2_with fail
  go_at_call 10
  refine (spec_DocBytes.calls k id _ _ ds wb wc _ (Kd.S_reads' O_d1_10.out).2.2 (by have h_ := Kd.S_reads' O_d1_10.out; have := h_.1; have := h_.2.1; omega) H3.out).mono ?_
  rintro e w15 ⟨v14, rfl, ho0, hb⟩
  have HB16 := Aside0.mk (below_step HB7.out hb)
  have O_d1_17 := Aside0.mk (Kd.S_below O_d1_10.out hb)
  have B_t_18 := Aside0.mk (blk_below B_t_8.out hb)
  have Z19 := Aside0.mk (show w6.heap.size ≤ w15.heap.size from by have := hb.size; simpa using this)
  have O_w0_20 := Aside0.mk (Kd.R_mono (ok' := fun k_ => w6.heap.size ≤ k_ ∧ k_ < w15.heap.size) (Kd.R_span ho0 HB7.out.size) (fun k_ hk_ => by simpa using hk_))
  obtain ⟨A21, c22, e23⟩ := Kd.R_slice O_w0_20.out
  subst e23
  clear HB7 O_d1_10 B_t_8 hb ho0 hx_t_0 hx_t_1
  have hx_t_0 : w15.cell? ⟨w.heap.size, 0, none⟩ = some (.string id) := (blk_cell B_t_18.out 0).trans rfl
  have hx_t_1 : w15.cell? ⟨w.heap.size, 1, none⟩ = some (.slice A vs.length c) := (blk_cell B_t_18.out 1).trans rfl
  go_wp2_with fail
  go_at_call 11
  refine (laws_toDoc.calls k id _ _ vs id ds _ (Kd.C_below HR.out HB16.out) HC.out H2.out).mono ?_
  rintro e w25 ⟨v24, rfl, ho0, hb⟩
  have HB26 := Aside0.mk (below_step HB16.out hb)
  have O_d1_27 := Aside0.mk (Kd.S_below O_d1_17.out hb)
  have O_w0_28 := Aside0.mk (Kd.R_below O_w0_20.out hb)
  have B_t_29 := Aside0.mk (blk_below B_t_18.out hb)
  have Z30 := Aside0.mk (show w15.heap.size ≤ w25.heap.size from by have := hb.size; simpa using this)
  have O_x0_31 := Aside0.mk (Kd.S_mono (ok' := fun k_ => w15.heap.size ≤ k_ ∧ k_ < w25.heap.size) (Kd.S_span ho0 HB16.out.size) (fun k_ hk_ => by simpa using hk_))
  obtain ⟨A32, c33, e34⟩ := Kd.S_slice O_x0_31.out
  subst e34
  clear HB16 O_d1_17 O_w0_20 B_t_18 hb ho0 hx_t_0 hx_t_1
  have hx_t_0 : w25.cell? ⟨w.heap.size, 0, none⟩ = some (.string id) := (blk_cell B_t_29.out 0).trans rfl
  have hx_t_1 : w25.cell? ⟨w.heap.size, 1, none⟩ = some (.slice A vs.length c) := (blk_cell B_t_29.out 1).trans rfl
  go_wp2_with fail
  go_at_call 12
  refine (impl_DocBytes.calls k id _ _ ds wb wc _ (Kd.C_alloc (Kd.S_reads' O_x0_31.out).2.2 _) (by have h_ := Kd.S_reads' O_x0_31.out; have := h_.1; have := h_.2.1; omega) H4.out).mono ?_
  rintro e w36 ⟨v35, rfl, ho0, hb⟩
  have HB37 := Aside0.mk (below_step (below_alloc HB26.out _) hb)
  have O_d1_38 := Aside0.mk (Kd.S_below (Kd.S_alloc O_d1_27.out _) hb)
  have O_w0_39 := Aside0.mk (Kd.R_below (Kd.R_alloc O_w0_28.out _) hb)
  have O_x0_40 := Aside0.mk (Kd.S_below (Kd.S_alloc O_x0_31.out _) hb)
  have B_t_41 := Aside0.mk (blk_below (blk_alloc B_t_29.out _) hb)
  have B_x_42 := Aside0.mk (blk_below (blk_new w25 _) hb)
  have Z43 := Aside0.mk (show w25.heap.size + 1 ≤ w36.heap.size from by have := hb.size; simpa using this)
  have O_g0_44 := Aside0.mk (Kd.R_mono (ok' := fun k_ => w25.heap.size + 1 ≤ k_ ∧ k_ < w36.heap.size) (Kd.R_span ho0 (below_alloc HB26.out _).size) (fun k_ hk_ => by simpa using hk_))
  obtain ⟨A45, c46, e47⟩ := Kd.R_slice O_g0_44.out
  subst e47
  clear HB26 O_d1_27 O_w0_28 O_x0_31 B_t_29 hb ho0 hx_t_0 hx_t_1
  have hx_t_0 : w36.cell? ⟨w.heap.size, 0, none⟩ = some (.string id) := (blk_cell B_t_41.out 0).trans rfl
  have hx_t_1 : w36.cell? ⟨w.heap.size, 1, none⟩ = some (.slice A vs.length c) := (blk_cell B_t_41.out 1).trans rfl
  have hx_x_0 : w36.cell? ⟨w25.heap.size, 0, none⟩ = some (.string id) := (blk_cell B_x_42.out 0).trans rfl
  have hx_x_1 : w36.cell? ⟨w25.heap.size, 1, none⟩ = some (.slice A32 ds.length c33) := (blk_cell B_x_42.out 1).trans rfl
  go_wp2_with fail
  go_at_call 13
  refine (laws_eqByteS.calls k _ _ wb _ _ wb true _ (Kd.R_reads' O_g0_44.out).2.2 (by have h_ := Kd.R_reads' O_g0_44.out; have := h_.1; have := h_.2.1; omega) (Kd.R_reads' O_w0_39.out).2.2 (by have h_ := Kd.R_reads' O_w0_39.out; have := h_.1; have := h_.2.1; omega) H5.out).mono ?_
  rintro e w48 ⟨rfl, hd⟩
  have hb := hd.below
  have HB49 := Aside0.mk (below_step HB37.out hb)
  have O_d1_50 := Aside0.mk (Kd.S_below O_d1_38.out hb)
  have O_w0_51 := Aside0.mk (Kd.R_below O_w0_39.out hb)
  have O_x0_52 := Aside0.mk (Kd.S_below O_x0_40.out hb)
  have O_g0_53 := Aside0.mk (Kd.R_below O_g0_44.out hb)
  have B_t_54 := Aside0.mk (blk_below B_t_41.out hb)
  have B_x_55 := Aside0.mk (blk_below B_x_42.out hb)
  have Z56 := Aside0.mk (show w36.heap.size ≤ w48.heap.size from by have := hb.size; simpa using this)
  clear HB37 O_d1_38 O_w0_39 O_x0_40 O_g0_44 B_t_41 B_x_42 hb  hd hx_t_0 hx_t_1 hx_x_0 hx_x_1
  have hx_t_0 : w48.cell? ⟨w.heap.size, 0, none⟩ = some (.string id) := (blk_cell B_t_54.out 0).trans rfl
  have hx_t_1 : w48.cell? ⟨w.heap.size, 1, none⟩ = some (.slice A vs.length c) := (blk_cell B_t_54.out 1).trans rfl
  have hx_x_0 : w48.cell? ⟨w25.heap.size, 0, none⟩ = some (.string id) := (blk_cell B_x_55.out 0).trans rfl
  have hx_x_1 : w48.cell? ⟨w25.heap.size, 1, none⟩ = some (.slice A32 ds.length c33) := (blk_cell B_x_55.out 1).trans rfl
  go_wp2_with fail
  go_region_held3 (fun w' => w'.cell? ⟨w.heap.size, 0, none⟩ = some (.string id) ∧ w'.cell? ⟨w.heap.size, 1, none⟩ = some (.slice A vs.length c) ∧ w'.cell? ⟨w25.heap.size, 0, none⟩ = some (.string id) ∧ w'.cell? ⟨w25.heap.size, 1, none⟩ = some (.slice A32 ds.length c33))
    (first | exact ⟨hx_t_0, hx_t_1, hx_x_0, hx_x_1⟩ | exact ⟨hx0_.out, hx1_.out, hx2_.out, hx3_.out⟩ | exact ⟨hz0_.out, hz1_.out, hz2_.out, hz3_.out⟩)
    (first | (go_at_call 11; refine (laws_toDoc.calls k id _ _ vs id ds _ (Kd.C_below HR.out (below_drew HB49.out)) HC.out H2.out).mono ?_; rintro e w58 ⟨v57, rfl, ho0, hb⟩; have HB59 := Aside0.mk (below_step (below_drew HB49.out) hb); have O_d1_60 := Aside0.mk (Kd.S_below (Kd.S_drew O_d1_50.out) hb); have O_w0_61 := Aside0.mk (Kd.R_below (Kd.R_drew O_w0_51.out) hb); have O_x0_62 := Aside0.mk (Kd.S_below (Kd.S_drew O_x0_52.out) hb); have O_g0_63 := Aside0.mk (Kd.R_below (Kd.R_drew O_g0_53.out) hb); have B_t_64 := Aside0.mk (blk_below (blk_drew B_t_54.out) hb); have B_x_65 := Aside0.mk (blk_below (blk_drew B_x_55.out) hb); have Z66 := Aside0.mk (show w48.heap.size ≤ w58.heap.size from by have := hb.size; simpa using this); have O_y0_67 := Aside0.mk (Kd.S_mono (ok' := fun k_ => w48.heap.size ≤ k_ ∧ k_ < w58.heap.size) (Kd.S_span ho0 (below_drew HB49.out).size) (fun k_ hk_ => by simpa using hk_)); obtain ⟨A68, c69, e70⟩ := Kd.S_slice O_y0_67.out; subst e70; clear HB49 O_d1_50 O_w0_51 O_x0_52 O_g0_53 B_t_54 B_x_55 hb ho0; clear hx_t_0 hx_t_1 hx_x_0 hx_x_1; have hx0_ := Aside0.mk ((blk_cell B_t_64.out 0).trans rfl); have hx1_ := Aside0.mk ((blk_cell B_t_64.out 1).trans rfl); have hx2_ := Aside0.mk ((blk_cell B_x_65.out 0).trans rfl); have hx3_ := Aside0.mk ((blk_cell B_x_65.out 1).trans rfl)) | (go_at_call 14; refine (laws_eqDoc.calls k id _ _ ds id _ _ ds true _ (Kd.S_reads' O_x0_62.out).2.2 (by have h_ := Kd.S_reads' O_x0_62.out; have := h_.1; have := h_.2.1; omega) (Kd.S_reads' O_y0_67.out).2.2 (by have h_ := Kd.S_reads' O_y0_67.out; have := h_.1; have := h_.2.1; omega) H6.out).mono ?_; rintro e w71 ⟨rfl, hb⟩; have HB72 := Aside0.mk (below_step HB59.out hb); have O_d1_73 := Aside0.mk (Kd.S_below O_d1_60.out hb); have O_w0_74 := Aside0.mk (Kd.R_below O_w0_61.out hb); have O_x0_75 := Aside0.mk (Kd.S_below O_x0_62.out hb); have O_g0_76 := Aside0.mk (Kd.R_below O_g0_63.out hb); have O_y0_77 := Aside0.mk (Kd.S_below O_y0_67.out hb); have B_t_78 := Aside0.mk (blk_below B_t_64.out hb); have B_x_79 := Aside0.mk (blk_below B_x_65.out hb); have Z80 := Aside0.mk (show w58.heap.size ≤ w71.heap.size from by have := hb.size; simpa using this); clear HB59 O_d1_60 O_w0_61 O_x0_62 O_g0_63 O_y0_67 B_t_64 B_x_65 hb ; clear hx0_ hx1_ hx2_ hx3_; have hz0_ := Aside0.mk ((blk_cell B_t_78.out 0).trans rfl); have hz1_ := Aside0.mk ((blk_cell B_t_78.out 1).trans rfl); have hz2_ := Aside0.mk ((blk_cell B_x_79.out 0).trans rfl); have hz3_ := Aside0.mk ((blk_cell B_x_79.out 1).trans rfl)))
  clear hz0_ hz1_ hz2_ hz3_
  have hx_t_0 : w71.cell? ⟨w.heap.size, 0, none⟩ = some (.string id) := (blk_cell B_t_78.out 0).trans rfl
  have hx_t_1 : w71.cell? ⟨w.heap.size, 1, none⟩ = some (.slice A vs.length c) := (blk_cell B_t_78.out 1).trans rfl
  have hx_x_0 : w71.cell? ⟨w25.heap.size, 0, none⟩ = some (.string id) := (blk_cell B_x_79.out 0).trans rfl
  have hx_x_1 : w71.cell? ⟨w25.heap.size, 1, none⟩ = some (.slice A32 ds.length c33) := (blk_cell B_x_79.out 1).trans rfl
  go_wp2_with fail
  go_at_call 15
  refine (laws_markDoc.calls k (fun k_ => w15.heap.size ≤ k_ ∧ k_ < w25.heap.size) id _ ds 1 k1 ds' w _ HB72.out O_x0_75.out H7.out).mono ?_
  rintro e w81 ⟨rfl, hy, hb, hk⟩
  have HB82 := Aside0.mk hb
  have Z83 := Aside0.mk (show w71.heap.size ≤ w81.heap.size from by have := hk.1; simpa using this)
  have O_d1_84 := Aside0.mk (Kd.S_kept O_d1_73.out hk (fun k_ h1_ h2_ => by have := Z4.out; have := Z9.out; have := Z19.out; have := Z30.out; have := Z43.out; have := Z56.out; have := Z66.out; have := Z80.out; have := h1_.1; have := h1_.2; have := h2_.1; have := h2_.2; omega))
  have O_w0_85 := Aside0.mk (Kd.R_kept O_w0_74.out hk (fun k_ h1_ h2_ => by have := Z4.out; have := Z9.out; have := Z19.out; have := Z30.out; have := Z43.out; have := Z56.out; have := Z66.out; have := Z80.out; have := h1_.1; have := h1_.2; have := h2_.1; have := h2_.2; omega))
  have O_g0_86 := Aside0.mk (Kd.R_kept O_g0_76.out hk (fun k_ h1_ h2_ => by have := Z4.out; have := Z9.out; have := Z19.out; have := Z30.out; have := Z43.out; have := Z56.out; have := Z66.out; have := Z80.out; have := h1_.1; have := h1_.2; have := h2_.1; have := h2_.2; omega))
  have O_y0_87 := Aside0.mk (Kd.S_kept O_y0_77.out hk (fun k_ h1_ h2_ => by have := Z4.out; have := Z9.out; have := Z19.out; have := Z30.out; have := Z43.out; have := Z56.out; have := Z66.out; have := Z80.out; have := h1_.1; have := h1_.2; have := h2_.1; have := h2_.2; omega))
  have B_t_88 := Aside0.mk (blk_kept B_t_78.out hk (fun hs_ => absurd hs_ (by have := Z4.out; have := Z9.out; have := Z19.out; have := Z30.out; have := Z43.out; have := Z56.out; have := Z66.out; have := Z80.out; intro h_; have := h_.1; have := h_.2; omega)))
  have B_x_89 := Aside0.mk (blk_kept B_x_79.out hk (fun hs_ => absurd hs_ (by have := Z4.out; have := Z9.out; have := Z19.out; have := Z30.out; have := Z43.out; have := Z56.out; have := Z66.out; have := Z80.out; intro h_; have := h_.1; have := h_.2; omega)))
  have O_x0_90 := Aside0.mk (hy)
  clear HB72 O_d1_73 O_w0_74 O_g0_76 O_y0_77 B_t_78 B_x_79 O_x0_75 hy hb hk hx_t_0 hx_t_1 hx_x_0 hx_x_1
  have hx_t_0 : w81.cell? ⟨w.heap.size, 0, none⟩ = some (.string id) := (blk_cell B_t_88.out 0).trans rfl
  have hx_t_1 : w81.cell? ⟨w.heap.size, 1, none⟩ = some (.slice A vs.length c) := (blk_cell B_t_88.out 1).trans rfl
  have hx_x_0 : w81.cell? ⟨w25.heap.size, 0, none⟩ = some (.string id) := (blk_cell B_x_89.out 0).trans rfl
  have hx_x_1 : w81.cell? ⟨w25.heap.size, 1, none⟩ = some (.slice A32 ds.length c33) := (blk_cell B_x_89.out 1).trans rfl
  go_wp2_with fail
  go_at_call 13
  refine (laws_eqByteS.calls k _ _ wb _ _ wb true _ (Kd.R_reads' O_g0_86.out).2.2 (by have h_ := Kd.R_reads' O_g0_86.out; have := h_.1; have := h_.2.1; omega) (Kd.R_reads' O_w0_85.out).2.2 (by have h_ := Kd.R_reads' O_w0_85.out; have := h_.1; have := h_.2.1; omega) H5.out).mono ?_
  rintro e w91 ⟨rfl, hd⟩
  have hb := hd.below
  have HB92 := Aside0.mk (below_step HB82.out hb)
  have O_d1_93 := Aside0.mk (Kd.S_below O_d1_84.out hb)
  have O_w0_94 := Aside0.mk (Kd.R_below O_w0_85.out hb)
  have O_x0_95 := Aside0.mk (Kd.S_below O_x0_90.out hb)
  have O_g0_96 := Aside0.mk (Kd.R_below O_g0_86.out hb)
  have O_y0_97 := Aside0.mk (Kd.S_below O_y0_87.out hb)
  have B_t_98 := Aside0.mk (blk_below B_t_88.out hb)
  have B_x_99 := Aside0.mk (blk_below B_x_89.out hb)
  have Z100 := Aside0.mk (show w81.heap.size ≤ w91.heap.size from by have := hb.size; simpa using this)
  clear HB82 O_d1_84 O_w0_85 O_x0_90 O_g0_86 O_y0_87 B_t_88 B_x_89 hb  hd hx_t_0 hx_t_1 hx_x_0 hx_x_1
  have hx_t_0 : w91.cell? ⟨w.heap.size, 0, none⟩ = some (.string id) := (blk_cell B_t_98.out 0).trans rfl
  have hx_t_1 : w91.cell? ⟨w.heap.size, 1, none⟩ = some (.slice A vs.length c) := (blk_cell B_t_98.out 1).trans rfl
  have hx_x_0 : w91.cell? ⟨w25.heap.size, 0, none⟩ = some (.string id) := (blk_cell B_x_99.out 0).trans rfl
  have hx_x_1 : w91.cell? ⟨w25.heap.size, 1, none⟩ = some (.slice A32 ds.length c33) := (blk_cell B_x_99.out 1).trans rfl
  go_wp2_with fail
  go_at_call 16
  refine (laws_markByteS.calls k (fun k_ => w25.heap.size + 1 ≤ k_ ∧ k_ < w36.heap.size) _ wb 1 m wb' w _ HB92.out O_g0_96.out H8.out).mono ?_
  rintro e w101 ⟨rfl, hy, hb, hk⟩
  have HB102 := Aside0.mk hb
  have Z103 := Aside0.mk (show w91.heap.size ≤ w101.heap.size from by have := hk.1; simpa using this)
  have O_d1_104 := Aside0.mk (Kd.S_kept O_d1_93.out hk (fun k_ h1_ h2_ => by have := Z4.out; have := Z9.out; have := Z19.out; have := Z30.out; have := Z43.out; have := Z56.out; have := Z66.out; have := Z80.out; have := Z83.out; have := Z100.out; have := h1_.1; have := h1_.2; have := h2_.1; have := h2_.2; omega))
  have O_w0_105 := Aside0.mk (Kd.R_kept O_w0_94.out hk (fun k_ h1_ h2_ => by have := Z4.out; have := Z9.out; have := Z19.out; have := Z30.out; have := Z43.out; have := Z56.out; have := Z66.out; have := Z80.out; have := Z83.out; have := Z100.out; have := h1_.1; have := h1_.2; have := h2_.1; have := h2_.2; omega))
  have O_x0_106 := Aside0.mk (Kd.S_kept O_x0_95.out hk (fun k_ h1_ h2_ => by have := Z4.out; have := Z9.out; have := Z19.out; have := Z30.out; have := Z43.out; have := Z56.out; have := Z66.out; have := Z80.out; have := Z83.out; have := Z100.out; have := h1_.1; have := h1_.2; have := h2_.1; have := h2_.2; omega))
  have O_y0_107 := Aside0.mk (Kd.S_kept O_y0_97.out hk (fun k_ h1_ h2_ => by have := Z4.out; have := Z9.out; have := Z19.out; have := Z30.out; have := Z43.out; have := Z56.out; have := Z66.out; have := Z80.out; have := Z83.out; have := Z100.out; have := h1_.1; have := h1_.2; have := h2_.1; have := h2_.2; omega))
  have B_t_108 := Aside0.mk (blk_kept B_t_98.out hk (fun hs_ => absurd hs_ (by have := Z4.out; have := Z9.out; have := Z19.out; have := Z30.out; have := Z43.out; have := Z56.out; have := Z66.out; have := Z80.out; have := Z83.out; have := Z100.out; intro h_; have := h_.1; have := h_.2; omega)))
  have B_x_109 := Aside0.mk (blk_kept B_x_99.out hk (fun hs_ => absurd hs_ (by have := Z4.out; have := Z9.out; have := Z19.out; have := Z30.out; have := Z43.out; have := Z56.out; have := Z66.out; have := Z80.out; have := Z83.out; have := Z100.out; intro h_; have := h_.1; have := h_.2; omega)))
  have O_g0_110 := Aside0.mk (Kd.R_reok rfl hy (fun k_ e_ => O_g0_96.out.1 k_ e_))
  clear HB92 O_d1_93 O_w0_94 O_x0_95 O_y0_97 B_t_98 B_x_99 O_g0_96 hy hb hk hx_t_0 hx_t_1 hx_x_0 hx_x_1
  have hx_t_0 : w101.cell? ⟨w.heap.size, 0, none⟩ = some (.string id) := (blk_cell B_t_108.out 0).trans rfl
  have hx_t_1 : w101.cell? ⟨w.heap.size, 1, none⟩ = some (.slice A vs.length c) := (blk_cell B_t_108.out 1).trans rfl
  have hx_x_0 : w101.cell? ⟨w25.heap.size, 0, none⟩ = some (.string id) := (blk_cell B_x_109.out 0).trans rfl
  have hx_x_1 : w101.cell? ⟨w25.heap.size, 1, none⟩ = some (.slice A32 ds.length c33) := (blk_cell B_x_109.out 1).trans rfl
  go_wp2_with fail
  go_at_call 17
  refine calls_of_args (args' := #[.slice A45 wb'.length c46, .int .i64 1]) (by first | rfl | (rw [show wb'.length = wb.length from (Kd.R_reads' O_g0_110.out).1.symm])) ?_
  refine (laws_heldByteS.calls k _ _ wb' 1 m _ (Kd.R_reads' O_g0_110.out).2.2 (by have h_ := Kd.R_reads' O_g0_110.out; have := h_.1; have := h_.2.1; omega) H9.out).mono ?_
  rintro e w111 ⟨rfl, hd⟩
  have hb := hd.below
  have HB112 := Aside0.mk (below_step HB102.out hb)
  have O_d1_113 := Aside0.mk (Kd.S_below O_d1_104.out hb)
  have O_w0_114 := Aside0.mk (Kd.R_below O_w0_105.out hb)
  have O_x0_115 := Aside0.mk (Kd.S_below O_x0_106.out hb)
  have O_g0_116 := Aside0.mk (Kd.R_below O_g0_110.out hb)
  have O_y0_117 := Aside0.mk (Kd.S_below O_y0_107.out hb)
  have B_t_118 := Aside0.mk (blk_below B_t_108.out hb)
  have B_x_119 := Aside0.mk (blk_below B_x_109.out hb)
  have Z120 := Aside0.mk (show w101.heap.size ≤ w111.heap.size from by have := hb.size; simpa using this)
  clear HB102 O_d1_104 O_w0_105 O_x0_106 O_g0_110 O_y0_107 B_t_108 B_x_109 hb  hd hx_t_0 hx_t_1 hx_x_0 hx_x_1
  have hx_t_0 : w111.cell? ⟨w.heap.size, 0, none⟩ = some (.string id) := (blk_cell B_t_118.out 0).trans rfl
  have hx_t_1 : w111.cell? ⟨w.heap.size, 1, none⟩ = some (.slice A vs.length c) := (blk_cell B_t_118.out 1).trans rfl
  have hx_x_0 : w111.cell? ⟨w25.heap.size, 0, none⟩ = some (.string id) := (blk_cell B_x_119.out 0).trans rfl
  have hx_x_1 : w111.cell? ⟨w25.heap.size, 1, none⟩ = some (.slice A32 ds.length c33) := (blk_cell B_x_119.out 1).trans rfl
  go_wp2_with fail
  go_at_call 11
  refine (laws_toDoc.calls k id _ _ vs id ds _ (Kd.C_below HR.out HB112.out) HC.out H2.out).mono ?_
  rintro e w122 ⟨v121, rfl, ho0, hb⟩
  have HB123 := Aside0.mk (below_step HB112.out hb)
  have O_d1_124 := Aside0.mk (Kd.S_below O_d1_113.out hb)
  have O_w0_125 := Aside0.mk (Kd.R_below O_w0_114.out hb)
  have O_x0_126 := Aside0.mk (Kd.S_below O_x0_115.out hb)
  have O_g0_127 := Aside0.mk (Kd.R_below O_g0_116.out hb)
  have O_y0_128 := Aside0.mk (Kd.S_below O_y0_117.out hb)
  have B_t_129 := Aside0.mk (blk_below B_t_118.out hb)
  have B_x_130 := Aside0.mk (blk_below B_x_119.out hb)
  have Z131 := Aside0.mk (show w111.heap.size ≤ w122.heap.size from by have := hb.size; simpa using this)
  have O_d2_132 := Aside0.mk (Kd.S_mono (ok' := fun k_ => w111.heap.size ≤ k_ ∧ k_ < w122.heap.size) (Kd.S_span ho0 HB112.out.size) (fun k_ hk_ => by simpa using hk_))
  obtain ⟨A133, c134, e135⟩ := Kd.S_slice O_d2_132.out
  subst e135
  clear HB112 O_d1_113 O_w0_114 O_x0_115 O_g0_116 O_y0_117 B_t_118 B_x_119 hb ho0 hx_t_0 hx_t_1 hx_x_0 hx_x_1
  have hx_t_0 : w122.cell? ⟨w.heap.size, 0, none⟩ = some (.string id) := (blk_cell B_t_129.out 0).trans rfl
  have hx_t_1 : w122.cell? ⟨w.heap.size, 1, none⟩ = some (.slice A vs.length c) := (blk_cell B_t_129.out 1).trans rfl
  have hx_x_0 : w122.cell? ⟨w25.heap.size, 0, none⟩ = some (.string id) := (blk_cell B_x_130.out 0).trans rfl
  have hx_x_1 : w122.cell? ⟨w25.heap.size, 1, none⟩ = some (.slice A32 ds.length c33) := (blk_cell B_x_130.out 1).trans rfl
  go_wp2_with fail
  go_at_call 12
  refine (impl_DocBytes.calls k id _ _ ds wb wc _ (Kd.S_reads' O_d2_132.out).2.2 (by have h_ := Kd.S_reads' O_d2_132.out; have := h_.1; have := h_.2.1; omega) H4.out).mono ?_
  rintro e w137 ⟨v136, rfl, ho0, hb⟩
  have HB138 := Aside0.mk (below_step HB123.out hb)
  have O_d1_139 := Aside0.mk (Kd.S_below O_d1_124.out hb)
  have O_w0_140 := Aside0.mk (Kd.R_below O_w0_125.out hb)
  have O_x0_141 := Aside0.mk (Kd.S_below O_x0_126.out hb)
  have O_g0_142 := Aside0.mk (Kd.R_below O_g0_127.out hb)
  have O_y0_143 := Aside0.mk (Kd.S_below O_y0_128.out hb)
  have O_d2_144 := Aside0.mk (Kd.S_below O_d2_132.out hb)
  have B_t_145 := Aside0.mk (blk_below B_t_129.out hb)
  have B_x_146 := Aside0.mk (blk_below B_x_130.out hb)
  have Z147 := Aside0.mk (show w122.heap.size ≤ w137.heap.size from by have := hb.size; simpa using this)
  have O_h0_148 := Aside0.mk (Kd.R_mono (ok' := fun k_ => w122.heap.size ≤ k_ ∧ k_ < w137.heap.size) (Kd.R_span ho0 HB123.out.size) (fun k_ hk_ => by simpa using hk_))
  obtain ⟨A149, c150, e151⟩ := Kd.R_slice O_h0_148.out
  subst e151
  clear HB123 O_d1_124 O_w0_125 O_x0_126 O_g0_127 O_y0_128 O_d2_132 B_t_129 B_x_130 hb ho0 hx_t_0 hx_t_1 hx_x_0 hx_x_1
  have hx_t_0 : w137.cell? ⟨w.heap.size, 0, none⟩ = some (.string id) := (blk_cell B_t_145.out 0).trans rfl
  have hx_t_1 : w137.cell? ⟨w.heap.size, 1, none⟩ = some (.slice A vs.length c) := (blk_cell B_t_145.out 1).trans rfl
  have hx_x_0 : w137.cell? ⟨w25.heap.size, 0, none⟩ = some (.string id) := (blk_cell B_x_146.out 0).trans rfl
  have hx_x_1 : w137.cell? ⟨w25.heap.size, 1, none⟩ = some (.slice A32 ds.length c33) := (blk_cell B_x_146.out 1).trans rfl
  go_wp2_with fail
  go_at_call 13
  refine (laws_eqByteS.calls k _ _ wb _ _ wb true _ (Kd.R_reads' O_h0_148.out).2.2 (by have h_ := Kd.R_reads' O_h0_148.out; have := h_.1; have := h_.2.1; omega) (Kd.R_reads' O_w0_140.out).2.2 (by have h_ := Kd.R_reads' O_w0_140.out; have := h_.1; have := h_.2.1; omega) H5.out).mono ?_
  rintro e w152 ⟨rfl, hd⟩
  have hb := hd.below
  have HB153 := Aside0.mk (below_step HB138.out hb)
  have O_d1_154 := Aside0.mk (Kd.S_below O_d1_139.out hb)
  have O_w0_155 := Aside0.mk (Kd.R_below O_w0_140.out hb)
  have O_x0_156 := Aside0.mk (Kd.S_below O_x0_141.out hb)
  have O_g0_157 := Aside0.mk (Kd.R_below O_g0_142.out hb)
  have O_y0_158 := Aside0.mk (Kd.S_below O_y0_143.out hb)
  have O_d2_159 := Aside0.mk (Kd.S_below O_d2_144.out hb)
  have O_h0_160 := Aside0.mk (Kd.R_below O_h0_148.out hb)
  have B_t_161 := Aside0.mk (blk_below B_t_145.out hb)
  have B_x_162 := Aside0.mk (blk_below B_x_146.out hb)
  have Z163 := Aside0.mk (show w137.heap.size ≤ w152.heap.size from by have := hb.size; simpa using this)
  clear HB138 O_d1_139 O_w0_140 O_x0_141 O_g0_142 O_y0_143 O_d2_144 O_h0_148 B_t_145 B_x_146 hb  hd hx_t_0 hx_t_1 hx_x_0 hx_x_1
  have hx_t_0 : w152.cell? ⟨w.heap.size, 0, none⟩ = some (.string id) := (blk_cell B_t_161.out 0).trans rfl
  have hx_t_1 : w152.cell? ⟨w.heap.size, 1, none⟩ = some (.slice A vs.length c) := (blk_cell B_t_161.out 1).trans rfl
  have hx_x_0 : w152.cell? ⟨w25.heap.size, 0, none⟩ = some (.string id) := (blk_cell B_x_162.out 0).trans rfl
  have hx_x_1 : w152.cell? ⟨w25.heap.size, 1, none⟩ = some (.slice A32 ds.length c33) := (blk_cell B_x_162.out 1).trans rfl
  go_wp2_with fail
  go_at_call 17
  refine calls_of_args (args' := #[.slice A45 wb'.length c46, .int .i64 1]) (by first | rfl | (rw [show wb'.length = wb.length from (Kd.R_reads' O_g0_157.out).1.symm])) ?_
  refine (laws_heldByteS.calls k _ _ wb' 1 m _ (Kd.R_reads' O_g0_157.out).2.2 (by have h_ := Kd.R_reads' O_g0_157.out; have := h_.1; have := h_.2.1; omega) H9.out).mono ?_
  rintro e w164 ⟨rfl, hd⟩
  have hb := hd.below
  have HB165 := Aside0.mk (below_step HB153.out hb)
  have O_d1_166 := Aside0.mk (Kd.S_below O_d1_154.out hb)
  have O_w0_167 := Aside0.mk (Kd.R_below O_w0_155.out hb)
  have O_x0_168 := Aside0.mk (Kd.S_below O_x0_156.out hb)
  have O_g0_169 := Aside0.mk (Kd.R_below O_g0_157.out hb)
  have O_y0_170 := Aside0.mk (Kd.S_below O_y0_158.out hb)
  have O_d2_171 := Aside0.mk (Kd.S_below O_d2_159.out hb)
  have O_h0_172 := Aside0.mk (Kd.R_below O_h0_160.out hb)
  have B_t_173 := Aside0.mk (blk_below B_t_161.out hb)
  have B_x_174 := Aside0.mk (blk_below B_x_162.out hb)
  have Z175 := Aside0.mk (show w152.heap.size ≤ w164.heap.size from by have := hb.size; simpa using this)
  clear HB153 O_d1_154 O_w0_155 O_x0_156 O_g0_157 O_y0_158 O_d2_159 O_h0_160 B_t_161 B_x_162 hb  hd hx_t_0 hx_t_1 hx_x_0 hx_x_1
  go_wp2_with fail
  go_ret
  exact ⟨rfl, HB165.out⟩
end Go.Proofs.Ytndjodgcemgpfaa.Q
end

section
set_option linter.unusedVariables false
set_option linter.unusedSimpArgs false
namespace Go.Proofs.Ytndjodgcemgpfaa.Q
open Go.RowKit Go.Proofs.YtndjodgcemgpfaaW.PrintWords Go.Proofs.YtndjodgcemgpfaaW.PrintLast Go.Proofs.YtndjodgcemgpfaaW.PrintMore
set_option maxHeartbeats 2000000 in
set_option maxRecDepth 100000 in
theorem laws_FnExactDocBytes.walk0 (k : Nat) (id : ByteArray) (A : Option Addr) (c : Nat) (vs : List S134) (w : World) (hr : Kd.C k134 w A vs.length vs) (hc : vs.length ≤ c)
    (sz : Int) (h1 : laws_szDoc.f k id vs 1048576 = some sz) (hsz : sz < 0) :
    Calls Try.prog 3 #[.agg #[.string id, .slice A vs.length c]] w fun e w' => e = .returned (.bool true) ∧ Below w.heap.size w w' := by
  have hu24 := Try.underlying24
  have HR := Aside0.mk hr
  have HC := Aside0.mk hc
  have H1 := Aside0.mk h1
  clear hr hc h1
  have hsz' : decide (sz < 0) = true := decide_eq_true (by omega)
  have HB := Aside0.mk (Below.refl w.heap.size w)
  go_enter Try.func3, Try.ntmps3
  go_wp2_with fail
  go_at_call 9
  refine (laws_szDoc.calls k id _ _ vs 1048576 sz _ (Kd.C_below HR.out (below_alloc HB.out _)) HC.out H1.out).mono ?_
  rintro e w1 ⟨rfl, hb⟩
  have HB1 := Aside0.mk (below_step (below_alloc HB.out _) hb)
  clear HB hb
  go_wp2_with fail
  go_ret
  exact ⟨rfl, HB1.out⟩
theorem wf_i64 {n : Int} (h : (Lit.int .i64 n).wf = true) : -9223372036854775808 ≤ n ∧ n ≤ 9223372036854775807 := by
  simp [Lit.wf, IntKind.min, IntKind.max, IntKind.signed, IntKind.bits] at h
  omega
theorem numL_wf {n : Int} (h : (Lit.int .i64 n).wf = true) : (numL n).length ≤ 10 := by
  have := wf_i64 h
  refine putL_length 9 _ ?_
  unfold numN
  split <;> omega
theorem docL_le2 (id : ByteArray) (vs : List S134) (hw : wD id vs ≤ 1048576) (hvs : ∀ x ∈ vs, ∀ y ∈ x.f2, (Lit.int .i64 y).wf = true) : (docL id (vs.map cV)).length < 140737488350000 := by
  have hw' : id.size + (vs.length + sumV vs) ≤ 1048576 := hw
  have h1 := txtL_le id (by omega)
  have h2 := putL_len (vs.map cV).length (by rw [List.length_map]; omega)
  have h3 : ((vs.map cV).flatMap valL).length ≤ ((vs.map cV).map fun x : S84 => 27 + 10 * (x.f0.size + (x.f1.length + sumS x.f1) + x.f2.length)).sum := by
    refine flatMap_le _ _ _ (fun x hx => ?_)
    obtain ⟨y, hy, rfl⟩ := List.mem_map.1 hx
    have hwy : wV y ≤ sumV vs := sum_le wV vs y hy
    have e : wV y = y.f0.size + (y.f1.length + sumS y.f1) + y.f2.length := rfl
    show (valL (cV y)).length ≤ 27 + 10 * (y.f0.size + (y.f1.length + sumS y.f1) + y.f2.length)
    unfold valL
    simp only [List.length_append]
    have a1 := txtL_le y.f0 (by omega)
    have a2 := putL_len y.f1.length (by omega)
    have a3 := putL_len y.f2.length (by omega)
    have a4 : (y.f1.flatMap txtL).length ≤ (y.f1.map fun s => 9 + s.size).sum := flatMap_le _ _ _ (fun s hs => txtL_le s (by
      have := sum_le (fun s : ByteArray => s.size) y.f1 s hs
      have e2 : sumS y.f1 = (y.f1.map fun s => s.size).sum := rfl
      omega))
    have a5 : (y.f1.map fun s => 9 + s.size).sum = 9 * y.f1.length + sumS y.f1 := by
      clear a4 a2 e hwy hx
      unfold sumS
      induction y.f1 with
      | nil => rfl
      | cons s l ih => simp only [List.map_cons, List.sum_cons, List.length_cons, ih]; omega
    have a6 : (y.f2.flatMap numL).length ≤ (y.f2.map fun _ => 10).sum := flatMap_le _ _ _ (fun n hn => numL_wf (hvs y hy n hn))
    have a7 : (y.f2.map fun _ => 10).sum = 10 * y.f2.length := by
      clear a6 a3 e hwy hx
      induction y.f2 with
      | nil => rfl
      | cons s l ih => simp only [List.map_cons, List.sum_cons, List.length_cons, ih]; omega
    show (txtL y.f0).length + ((putL y.f1.length).length + ((y.f1.flatMap txtL).length + ((putL y.f2.length).length + (y.f2.flatMap numL).length))) ≤ _
    omega
  have h4 : ((vs.map cV).map fun x : S84 => 27 + 10 * (x.f0.size + (x.f1.length + sumS x.f1) + x.f2.length)).sum = 27 * vs.length + 10 * sumV vs := by
    clear h3 h2 h1 hw hw' hvs
    unfold sumV
    induction vs with
    | nil => rfl
    | cons s l ih =>
      simp only [List.map_cons, List.sum_cons, List.length_cons]
      rw [ih]
      have e : wV s = s.f0.size + (s.f1.length + sumS s.f1) + s.f2.length := rfl
      show 27 + 10 * (s.f0.size + (s.f1.length + sumS s.f1) + s.f2.length) + _ = _
      omega
  unfold docL
  simp only [List.length_append]
  omega
theorem docL_le (id : ByteArray) (vs : List S134) (hw : wD id vs ≤ 1048576) (hvs : ∀ x ∈ vs, ∀ y ∈ x.f2, (Lit.int .i64 y).wf = true) : (docL id (vs.map cV)).length < 140737488355328 := by
  have := docL_le2 id vs hw hvs
  omega
theorem cntVS_cV (vs : List S134) : cntVS (vs.map cV) ≤ vs.length + sumV vs := by
  unfold cntVS sumV
  induction vs with
  | nil => simp
  | cons s l ih =>
    simp only [List.map_cons, List.sum_cons, List.length_cons]
    have e : wV s = s.f0.size + (s.f1.length + sumS s.f1) + s.f2.length := rfl
    have e2 : cntV (cV s) = 1 + s.f1.length + s.f2.length := rfl
    omega
theorem laws_FnExactDocBytes.true_ (id : ByteArray) (A : Option Addr) (c : Nat) (vs : List S134) (w : World) (hr : Kd.C k134 w A vs.length vs) (hc : vs.length ≤ c) (hid : id.size ≤ maxLen)
    (hvs : ∀ x ∈ vs, OkV x ∧ ∀ y ∈ x.f2, (Lit.int .i64 y).wf = true) :
    Calls Try.prog 3 #[.agg #[.string id, .slice A vs.length c]] w fun e w' => e = .returned (.bool true) ∧ Below w.heap.size w w' := by
  have hn : vs.length ≤ 9223372036854775807 := hr.2.1
  have hsz := szDoc_ev id vs 1048576 hid hn (fun x hx => (hvs x hx).1) (by omega) (by omega)
  by_cases hw : wD id vs ≤ 1048576
  · have hw' : id.size + (vs.length + sumV vs) ≤ 1048576 := hw
    have hlen := lenV_of (vs := vs) (by omega)
    have hl84 : ∀ x ∈ vs.map cV, x.f1.length ≤ 1048576 ∧ x.f2.length ≤ 1048576 := fun x hx => by
      obtain ⟨y, hy, rfl⟩ := List.mem_map.1 hx
      exact hlen y hy
    have hdl : (vs.map cV).length ≤ 1048576 := by rw [List.length_map]; omega
    have hb := docL_le id vs hw (fun x hx => (hvs x hx).2)
    have hcv := cntVS_cV vs
    have hrl : (docR id (vs.map cV)).1.length < 140737488355328 := by
      unfold docR
      split
      · exact hb
      · simp
    obtain ⟨K1, e1⟩ := hsz
    obtain ⟨K2, e2⟩ := toDoc_ev id vs (by omega) hlen
    obtain ⟨K3, e3⟩ := spec_DocBytes_ev id (vs.map cV) hdl hl84 hb
    obtain ⟨K4, e4⟩ := impl_DocBytes_ev id (vs.map cV) hl84 hb
    obtain ⟨K5, e5⟩ := eqByteS_ev (docR id (vs.map cV)).1 (by omega)
    obtain ⟨K6, e6⟩ := eqDoc_ev id (vs.map cV) (by omega) hl84
    obtain ⟨K7, e7⟩ := markValueS_ev (vs.map cV) 1 (by omega) (by omega) (by omega)
    obtain ⟨K8, e8⟩ := markByteS_ev (docR id (vs.map cV)).1 1 (by omega) (by omega)
    obtain ⟨K9, e9⟩ := heldByteS_ev (docR id (vs.map cV)).1.length 1 (by omega) (by omega)
    have hk : ∃ k, K1 ≤ k ∧ K2 ≤ k ∧ K3 ≤ k ∧ K4 ≤ k ∧ K5 ≤ k ∧ K6 ≤ k ∧ K7 ≤ k ∧ K8 ≤ k ∧ K9 ≤ k := ⟨K1 + K2 + K3 + K4 + K5 + K6 + K7 + K8 + K9, by omega, by omega, by omega, by omega, by omega, by omega, by omega, by omega, by omega⟩
    obtain ⟨k, b1, b2, b3, b4, b5, b6, b7, b8, b9⟩ := hk
    exact laws_FnExactDocBytes.walk k id A c vs w hr hc _ _ _ _ _ _ _ _ (e1 k b1) (e2 k b2) (e3 k b3) (e4 k b4) (e5 k b5) (e6 k b6) (e7 k b7) (e8 k b8) (e9 k b9) (by rw [lessBy_pos (by omega)]; omega) (by omega) (by omega)
  · obtain ⟨K1, e1⟩ := hsz
    exact laws_FnExactDocBytes.walk0 K1 id A c vs w hr hc _ (e1 K1 (Nat.le_refl _)) (by rw [lessBy_neg (by omega)]; omega)
end Go.Proofs.Ytndjodgcemgpfaa.Q
end

section
set_option linter.unusedVariables false
set_option linter.unusedSimpArgs false
namespace Go.Proofs.Ytndjodgcemgpfaa.Q
open Go.RowKit Go.Proofs.YtndjodgcemgpfaaW.PrintWords Go.Proofs.YtndjodgcemgpfaaW.PrintLast Go.Proofs.YtndjodgcemgpfaaW.PrintMore
set_option maxHeartbeats 2000000 in
set_option maxRecDepth 100000 in
theorem laws_FnExactRecordBytes.walk0 (k : Nat) (kd sq : Int) (id did : ByteArray) (A : Option Addr) (c : Nat) (vs : List S134) (w : World) (hr : Kd.C k134 w A vs.length vs) (hc : vs.length ≤ c)
    (sz : Int) (h1 : laws_szRecord.f k kd sq id did vs 1048576 = some sz) (hsz : sz < 0) :
    Calls Try.prog 5 #[.agg #[.int .i64 kd, .int .i64 sq, .string id, .string did, .slice A vs.length c]] w fun e w' => e = .returned (.bool true) ∧ Below w.heap.size w w' := by
  have hu43 := Try.underlying43
  have hu24 := Try.underlying24
  have HR := Aside0.mk hr
  have HC := Aside0.mk hc
  have H1 := Aside0.mk h1
  clear hr hc h1
  have hsz' : decide (sz < 0) = true := decide_eq_true (by omega)
  have HB := Aside0.mk (Below.refl w.heap.size w)
  go_enter Try.func5, Try.ntmps5
  go_wp2_with fail
  go_at_call 22
  refine (laws_szRecord.calls k kd sq id did _ _ vs 1048576 sz _ (Kd.C_below HR.out (below_alloc HB.out _)) HC.out H1.out).mono ?_
  rintro e w1 ⟨rfl, hb⟩
  have HB1 := Aside0.mk (below_step (below_alloc HB.out _) hb)
  clear HB hb
  go_wp2_with fail
  go_ret
  exact ⟨rfl, HB1.out⟩
theorem szRecord_ev (kd sq : Int) (id did : ByteArray) (vs : List S134) (hid : id.size ≤ maxLen) (hdid : did.size ≤ maxLen) (hn : vs.length ≤ 9223372036854775807) (hs : ∀ x ∈ vs, OkV x) :
    Ev (fun k => laws_szRecord.f k kd sq id did vs 1048576) (lessBy 1048576 (id.size + wD did vs)) := by
  unfold laws_szRecord.f
  have hm : maxLen = 9223372036854775807 := rfl
  rw [wrap64_of (by omega) (by omega)]
  by_cases h : (1048576 - (id.size : Int)) < 0
  · rw [lessBy_neg (by omega)]
    exact Ev.ite_pos h (Ev.now _)
  · refine Ev.ite_neg h (Ev.bind (szDoc_ev did vs _ hdid hn hs (by omega) (by omega)) ?_)
    by_cases h2 : (wD did vs : Int) ≤ 1048576 - (id.size : Int)
    · rw [lessBy_pos h2, lessBy_pos (by omega)]
      exact Ev.ite_neg (by omega) (Ev.eq (Ev.now _) (by omega))
    · rw [lessBy_neg h2, lessBy_neg (by omega)]
      exact Ev.ite_pos (by omega) (Ev.now _)
theorem laws_FnExactRecordBytes.true_ (kd sq : Int) (id did : ByteArray) (A : Option Addr) (c : Nat) (vs : List S134) (w : World) (hr : Kd.C k134 w A vs.length vs) (hc : vs.length ≤ c) (hid : id.size ≤ maxLen) (hdid : did.size ≤ maxLen)
    (hvs : ∀ x ∈ vs, OkV x ∧ ∀ y ∈ x.f2, (Lit.int .i64 y).wf = true) :
    Calls Try.prog 5 #[.agg #[.int .i64 kd, .int .i64 sq, .string id, .string did, .slice A vs.length c]] w fun e w' => e = .returned (.bool true) ∧ Below w.heap.size w w' := by
  have hn : vs.length ≤ 9223372036854775807 := hr.2.1
  have hsz := szRecord_ev kd sq id did vs hid hdid hn (fun x hx => (hvs x hx).1)
  by_cases hw0 : id.size + wD did vs ≤ 1048576
  · have hw : wD did vs ≤ 1048576 := by omega
    have hw' : did.size + (vs.length + sumV vs) ≤ 1048576 := hw
    have hlen := lenV_of (vs := vs) (by omega)
    have hl84 : ∀ x ∈ vs.map cV, x.f1.length ≤ 1048576 ∧ x.f2.length ≤ 1048576 := fun x hx => by
      obtain ⟨y, hy, rfl⟩ := List.mem_map.1 hx
      exact hlen y hy
    have hdl : (vs.map cV).length ≤ 1048576 := by rw [List.length_map]; omega
    have hb : (docL did (vs.map cV)).length < 140737488350000 := docL_le2 did vs hw (fun x hx => (hvs x hx).2)
    have hcv := cntVS_cV vs
    have hrl : (recR kd sq id did (vs.map cV)).1.length ≤ 1048576 := by
      have fin : ∀ p, (finR p).1.length ≤ 1048576 := fun p => by unfold finR; split <;> simp_all
      unfold recR
      split
      · split
        · split
          · exact fin _
          · simp
        · split
          · split
            · exact fin _
            · simp
          · simp
      · simp
    obtain ⟨K1, e1⟩ := hsz
    have toR : Ev (fun k => laws_toRecord.f k kd sq id did vs) (kd, sq, id, did, vs.map cV) := by
      unfold laws_toRecord.f
      exact Ev.bind (toDoc_ev did vs (by omega) hlen) (Ev.now _)
    have eqR : Ev (fun k => laws_eqRecord.f k kd sq id did (vs.map cV) kd sq id did (vs.map cV)) true := by
      unfold laws_eqRecord.f
      exact Ev.ite_pos rfl (Ev.ite_pos rfl (Ev.ite_pos rfl (Ev.bind (eqDoc_ev did (vs.map cV) (by omega) hl84) (Ev.ite_pos rfl (Ev.now _)))))
    obtain ⟨K2, e2⟩ := toR
    obtain ⟨K3, e3⟩ := spec_RecordBytes_ev kd sq id did (vs.map cV) (by omega) (by omega) hdl hl84 hb
    obtain ⟨K4, e4⟩ := impl_RecordBytes_ev kd sq id did (vs.map cV) (by omega) (by omega) hl84 hb
    obtain ⟨K5, e5⟩ := eqByteS_ev (recR kd sq id did (vs.map cV)).1 (by omega)
    obtain ⟨K6, e6⟩ := eqR
    obtain ⟨K7, e7⟩ := markValueS_ev (vs.map cV) 1 (by omega) (by omega) (by omega)
    obtain ⟨K8, e8⟩ := markByteS_ev (recR kd sq id did (vs.map cV)).1 1 (by omega) (by omega)
    obtain ⟨K9, e9⟩ := heldByteS_ev (recR kd sq id did (vs.map cV)).1.length 1 (by omega) (by omega)
    have hk : ∃ k, K1 ≤ k ∧ K2 ≤ k ∧ K3 ≤ k ∧ K4 ≤ k ∧ K5 ≤ k ∧ K6 ≤ k ∧ K7 ≤ k ∧ K8 ≤ k ∧ K9 ≤ k := ⟨K1 + K2 + K3 + K4 + K5 + K6 + K7 + K8 + K9, by omega, by omega, by omega, by omega, by omega, by omega, by omega, by omega, by omega⟩
    obtain ⟨k, b1, b2, b3, b4, b5, b6, b7, b8, b9⟩ := hk
    exact laws_FnExactRecordBytes.walk k kd sq id did A c vs w hr hc _ _ _ _ _ _ _ _ (e1 k b1) (e2 k b2) (e3 k b3) (e4 k b4) (e5 k b5) (e6 k b6) (e7 k b7) (e8 k b8) (e9 k b9) (by rw [lessBy_pos (by omega)]; omega) (by omega) (by omega)
  · obtain ⟨K1, e1⟩ := hsz
    exact laws_FnExactRecordBytes.walk0 K1 kd sq id did A c vs w hr hc _ (e1 K1 (Nat.le_refl _)) (by rw [lessBy_neg (by omega)]; omega)
end Go.Proofs.Ytndjodgcemgpfaa.Q
end
