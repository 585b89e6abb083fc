/- A part of the proof: the texts XP, Qxf120, Qxf121, Qxf89, Qxf48, Qxf9, Qxf122, Qxf123, Qxf93, Qxf51, Qxf11, Qxf17, Qpmk, Qxf49, Qxf91, Qxf90, Qxf92, Qxf50, Qxf10, Qxf53, Qxf54, Qxf12, Qxf22, Qxf102, Qxf103, Qxf60, Qxf104, Qxf105, Qxf61, Qxf23, Qxf24, Qxf62, Qxf63, Qxf64, Qxf65, Qxf66, Qxf25, Qxf26, Qprec, Qprd, Qprd2, Qprd3, Qlread, packed. -/
import Derived.Test.YtndjodgcemgpfaaKc6

section
set_option linter.unusedVariables false
set_option linter.unusedSimpArgs false
namespace Go.Proofs.YtndjodgcemgpfaaW.PrintMore
open Go.RowKit Go.Proofs.YtndjodgcemgpfaaW.PrintWords Go.Proofs.YtndjodgcemgpfaaW.PrintLast
theorem Ev.ite_pos {α : Type} {c : Prop} [Decidable c] {f g : Nat → Option α} {r : α} (h : c) (k : Ev f r) : Ev (fun n => if c then f n else g n) r := by
  simp only [if_pos h]
  exact k
theorem Ev.ite_neg {α : Type} {c : Prop} [Decidable c] {f g : Nat → Option α} {r : α} (h : ¬ c) (k : Ev g r) : Ev (fun n => if c then f n else g n) r := by
  simp only [if_neg h]
  exact k
theorem Ev.eq {α : Type} {g : Nat → Option α} {r r' : α} (k : Ev g r) (h : r = r') : Ev g r' := h ▸ k
theorem Ev.const {α β : Type} {o : Option α} {f : Nat → α → Option β} {a : α} {r : β} (h : o = some a) (k : Ev (fun n => f n a) r) : Ev (fun n => o.bind (f n)) r := by
  subst h
  exact k
theorem Ev.some_bind {α β : Type} {f : Nat → α → Option β} {a : α} {r : β} (k : Ev (fun n => f n a) r) : Ev (fun n => (some a).bind (f n)) r := k
theorem mid_getD {α : Type} {pre rest : List α} {x : α} (z : α) : (pre ++ x :: rest).getD ((pre.length : Int)).toNat z = x := by
  rw [Int.toNat_natCast, List.getD_eq_getElem?_getD, List.getElem?_append_right (Nat.le_refl _)]
  simp
theorem mid_set {α : Type} {pre rest : List α} {x y : α} : (pre ++ x :: rest).set ((pre.length : Int)).toNat y = pre ++ y :: rest := by
  rw [Int.toNat_natCast, List.set_append_right _ _ (Nat.le_refl _)]
  simp
theorem mid_lt {α : Type} {pre rest : List α} {x : α} : ((pre.length : Int)) < ((pre ++ x :: rest).length : Int) := by
  simp only [List.length_append, List.length_cons]
  omega
theorem end_lt {α : Type} {pre : List α} : ¬ ((pre.length : Int)) < ((pre ++ []).length : Int) := by simp
theorem wrap64_of {x : Int} (h0 : -9223372036854775808 ≤ x) (h1 : x ≤ 9223372036854775807) : wrap64 x = x := by
  unfold wrap64
  omega
theorem wrap_next {α : Type} {pre : List α} {x : α} (h : pre.length < 4611686018427387904) : wrap64 ((pre.length : Int) + 1) = (((pre ++ [x]).length : Nat) : Int) := by
  rw [wrap64_of (by omega) (by omega)]
  simp
theorem snoc_cons {α : Type} {pre rest : List α} {x : α} : pre ++ x :: rest = (pre ++ [x]) ++ rest := by simp
end Go.Proofs.YtndjodgcemgpfaaW.PrintMore
end

section
namespace Go.Proofs.Ytndjodgcemgpfaa.Q
open Go.RowKit Go.Proofs.YtndjodgcemgpfaaW.PrintWords Go.Proofs.YtndjodgcemgpfaaW.PrintLast Go.Proofs.YtndjodgcemgpfaaW.PrintMore
attribute [local go_sem] max2_int min2_int max_two min_two max_three min_three max_four min_four
set_option linter.unusedVariables false
set_option linter.unusedSimpArgs false
def laws_szStringS.l0 : Nat → List ByteArray → Int → Int → Option (Int)
  | 0, _, _, _ => none
  | k + 1, x0, x1, x5 => if x5 < (x0.length : Int) then (if 0 ≤ x5 then (if (wrap64 (x1 - ((rdOf ByteArray.empty x0 x5).size : Int))) < 0 then (some (-1)) else (laws_szStringS.l0 k x0 (wrap64 (x1 - ((rdOf ByteArray.empty x0 x5).size : Int))) (wrap64 (x5 + 1)))) else (none)) else (some x1)
def laws_szStringS.f (k : Nat) (l0 : List ByteArray) (a1 : Int) : Option (Int) := if (wrap64 (a1 - (l0.length : Int))) < 0 then (some (-1)) else (laws_szStringS.l0 k l0 (wrap64 (a1 - (l0.length : Int))) 0)
theorem laws_szStringS.mono_l : ∀ k, (∀ y0 y1 y2, LeO (laws_szStringS.l0 k y0 y1 y2) (laws_szStringS.l0 (k + 1) y0 y1 y2))
  | 0 => fun _ _ _ r h => by simp [laws_szStringS.l0] at h
  | k + 1 => by
    have ih0 := laws_szStringS.mono_l k
    · intro y0 y1 y2
      unfold laws_szStringS.l0
      repeat' first
      | (with_reducible exact ih0 _ _ _)
      | (with_reducible exact LeO.refl _)
      | (with_reducible exact LeO.none _)
      | (with_reducible refine LeO.ite ?_ ?_)
      | (with_reducible refine LeO.bind ?_ (fun _ => ?_))
      | exact ih0 _ _ _
      | exact LeO.none _
      | refine LeO.ite ?_ ?_
      | refine LeO.bind ?_ (fun _ => ?_)
theorem laws_szStringS.mono : ∀ a0 a1 k, LeO (laws_szStringS.f k a0 a1) (laws_szStringS.f (k + 1) a0 a1) := by
  intro a0 a1 k
  have ih0 := laws_szStringS.mono_l k
  unfold laws_szStringS.f
  repeat' first
      | (with_reducible exact ih0 _ _ _)
      | (with_reducible exact LeO.refl _)
      | (with_reducible exact LeO.none _)
      | (with_reducible refine LeO.ite ?_ ?_)
      | (with_reducible refine LeO.bind ?_ (fun _ => ?_))
      | exact ih0 _ _ _
      | exact LeO.none _
      | refine LeO.ite ?_ ?_
      | refine LeO.bind ?_ (fun _ => ?_)
end Go.Proofs.Ytndjodgcemgpfaa.Q
end

section
namespace Go.Proofs.Ytndjodgcemgpfaa.Q
open Go.RowKit Go.Proofs.YtndjodgcemgpfaaW.PrintWords Go.Proofs.YtndjodgcemgpfaaW.PrintLast Go.Proofs.YtndjodgcemgpfaaW.PrintMore
attribute [local go_sem] max2_int min2_int max_two min_two max_three min_three max_four min_four
set_option linter.unusedVariables false
set_option linter.unusedSimpArgs false
def laws_szIntS.f (l0 : List Int) (a1 : Int) : Option (Int) := if (wrap64 (a1 - (l0.length : Int))) < 0 then (some (-1)) else (some (wrap64 (a1 - (l0.length : Int))))
end Go.Proofs.Ytndjodgcemgpfaa.Q
end

section
namespace Go.Proofs.Ytndjodgcemgpfaa.Q
open Go.RowKit Go.Proofs.YtndjodgcemgpfaaW.PrintWords Go.Proofs.YtndjodgcemgpfaaW.PrintLast Go.Proofs.YtndjodgcemgpfaaW.PrintMore
attribute [local go_sem] max2_int min2_int max_two min_two max_three min_three max_four min_four
set_option linter.unusedVariables false
set_option linter.unusedSimpArgs false
def laws_szValue.f (k : Nat) (a0_0 : ByteArray) (l0_1 : List ByteArray) (l0_2 : List Int) (a1 : Int) : Option (Int) := if (wrap64 (a1 - (a0_0.size : Int))) < 0 then (some (-1)) else ((laws_szStringS.f k l0_1 (wrap64 (a1 - (a0_0.size : Int)))).bind fun t103 => (if t103 < 0 then (some (-1)) else ((laws_szIntS.f l0_2 t103).bind fun t104 => (if t104 < 0 then (some (-1)) else (some t104)))))
theorem laws_szValue.mono : ∀ a0 a1 a2 a3 k, LeO (laws_szValue.f k a0 a1 a2 a3) (laws_szValue.f (k + 1) a0 a1 a2 a3) := by
  intro a0 a1 a2 a3 k
  unfold laws_szValue.f
  repeat' first
      | (with_reducible exact laws_szStringS.mono _ _ _)
      | (with_reducible exact LeO.refl _)
      | (with_reducible exact LeO.none _)
      | (with_reducible refine LeO.ite ?_ ?_)
      | (with_reducible refine LeO.bind ?_ (fun _ => ?_))
      | exact laws_szStringS.mono _ _ _
      | exact LeO.none _
      | refine LeO.ite ?_ ?_
      | refine LeO.bind ?_ (fun _ => ?_)
end Go.Proofs.Ytndjodgcemgpfaa.Q
end

section
namespace Go.Proofs.Ytndjodgcemgpfaa.Q
open Go.RowKit Go.Proofs.YtndjodgcemgpfaaW.PrintWords Go.Proofs.YtndjodgcemgpfaaW.PrintLast Go.Proofs.YtndjodgcemgpfaaW.PrintMore
attribute [local go_sem] max2_int min2_int max_two min_two max_three min_three max_four min_four
set_option linter.unusedVariables false
set_option linter.unusedSimpArgs false
def laws_szValueS.l0 : Nat → List (S134) → Int → Int → Option (Int)
  | 0, _, _, _ => none
  | k + 1, x0, x1, x5 => if x5 < (x0.length : Int) then (if 0 ≤ x5 then ((laws_szValue.f k ((rd_T134 x0 x5).f0) ((rd_T134 x0 x5).f1) ((rd_T134 x0 x5).f2) x1).bind fun t106 => (if t106 < 0 then (some (-1)) else (laws_szValueS.l0 k x0 t106 (wrap64 (x5 + 1))))) else (none)) else (some x1)
def laws_szValueS.f (k : Nat) (l0 : List (S134)) (a1 : Int) : Option (Int) := if (wrap64 (a1 - (l0.length : Int))) < 0 then (some (-1)) else (laws_szValueS.l0 k l0 (wrap64 (a1 - (l0.length : Int))) 0)
theorem laws_szValueS.mono_l : ∀ k, (∀ y0 y1 y2, LeO (laws_szValueS.l0 k y0 y1 y2) (laws_szValueS.l0 (k + 1) y0 y1 y2))
  | 0 => fun _ _ _ r h => by simp [laws_szValueS.l0] at h
  | k + 1 => by
    have ih0 := laws_szValueS.mono_l k
    · intro y0 y1 y2
      unfold laws_szValueS.l0
      repeat' first
      | (with_reducible exact ih0 _ _ _)
      | (with_reducible exact laws_szValue.mono _ _ _ _ _)
      | (with_reducible exact LeO.refl _)
      | (with_reducible exact LeO.none _)
      | (with_reducible refine LeO.ite ?_ ?_)
      | (with_reducible refine LeO.bind ?_ (fun _ => ?_))
      | exact ih0 _ _ _
      | exact laws_szValue.mono _ _ _ _ _
      | exact LeO.none _
      | refine LeO.ite ?_ ?_
      | refine LeO.bind ?_ (fun _ => ?_)
theorem laws_szValueS.mono : ∀ a0 a1 k, LeO (laws_szValueS.f k a0 a1) (laws_szValueS.f (k + 1) a0 a1) := by
  intro a0 a1 k
  have ih0 := laws_szValueS.mono_l k
  unfold laws_szValueS.f
  repeat' first
      | (with_reducible exact ih0 _ _ _)
      | (with_reducible exact laws_szValue.mono _ _ _ _ _)
      | (with_reducible exact LeO.refl _)
      | (with_reducible exact LeO.none _)
      | (with_reducible refine LeO.ite ?_ ?_)
      | (with_reducible refine LeO.bind ?_ (fun _ => ?_))
      | exact ih0 _ _ _
      | exact laws_szValue.mono _ _ _ _ _
      | exact LeO.none _
      | refine LeO.ite ?_ ?_
      | refine LeO.bind ?_ (fun _ => ?_)
end Go.Proofs.Ytndjodgcemgpfaa.Q
end

section
namespace Go.Proofs.Ytndjodgcemgpfaa.Q
open Go.RowKit Go.Proofs.YtndjodgcemgpfaaW.PrintWords Go.Proofs.YtndjodgcemgpfaaW.PrintLast Go.Proofs.YtndjodgcemgpfaaW.PrintMore
attribute [local go_sem] max2_int min2_int max_two min_two max_three min_three max_four min_four
set_option linter.unusedVariables false
set_option linter.unusedSimpArgs false
def laws_szDoc.f (k : Nat) (a0_0 : ByteArray) (l0_1 : List (S134)) (a1 : Int) : Option (Int) := if (wrap64 (a1 - (a0_0.size : Int))) < 0 then (some (-1)) else ((laws_szValueS.f k l0_1 (wrap64 (a1 - (a0_0.size : Int)))).bind fun t108 => (if t108 < 0 then (some (-1)) else (some t108)))
theorem laws_szDoc.mono : ∀ a0 a1 a2 k, LeO (laws_szDoc.f k a0 a1 a2) (laws_szDoc.f (k + 1) a0 a1 a2) := by
  intro a0 a1 a2 k
  unfold laws_szDoc.f
  repeat' first
      | (with_reducible exact laws_szValueS.mono _ _ _)
      | (with_reducible exact LeO.refl _)
      | (with_reducible exact LeO.none _)
      | (with_reducible refine LeO.ite ?_ ?_)
      | (with_reducible refine LeO.bind ?_ (fun _ => ?_))
      | exact laws_szValueS.mono _ _ _
      | exact LeO.none _
      | refine LeO.ite ?_ ?_
      | refine LeO.bind ?_ (fun _ => ?_)
end Go.Proofs.Ytndjodgcemgpfaa.Q
end

section
namespace Go.Proofs.Ytndjodgcemgpfaa.Q
open Go.RowKit Go.Proofs.YtndjodgcemgpfaaW.PrintWords Go.Proofs.YtndjodgcemgpfaaW.PrintLast Go.Proofs.YtndjodgcemgpfaaW.PrintMore
attribute [local go_sem] max2_int min2_int max_two min_two max_three min_three max_four min_four
set_option linter.unusedVariables false
set_option linter.unusedSimpArgs false
def laws_toStringS.l0 : Nat → List ByteArray → List ByteArray → Int → Option (List ByteArray)
  | 0, _, _, _ => none
  | k + 1, x0, x3, x4 => if x4 < (x0.length : Int) then (if 0 ≤ x4 then (if x4 < (x3.length : Int) then (laws_toStringS.l0 k x0 (x3.set (x4 : Int).toNat (rdOf ByteArray.empty x0 x4)) (wrap64 (x4 + 1))) else (none)) else (none)) else (some x3)
def laws_toStringS.f (k : Nat) (l0 : List ByteArray) : Option (List ByteArray) := if 0 ≤ (l0.length : Int) then (if ((l0.length : Int) : Int).toNat ≤ 17592186044416 then (laws_toStringS.l0 k l0 (List.replicate ((l0.length : Int) : Int).toNat (⟨#[]⟩ : ByteArray)) 0) else (none)) else (none)
theorem laws_toStringS.mono_l : ∀ k, (∀ y0 y1 y2, LeO (laws_toStringS.l0 k y0 y1 y2) (laws_toStringS.l0 (k + 1) y0 y1 y2))
  | 0 => fun _ _ _ r h => by simp [laws_toStringS.l0] at h
  | k + 1 => by
    have ih0 := laws_toStringS.mono_l k
    · intro y0 y1 y2
      unfold laws_toStringS.l0
      repeat' first
      | (with_reducible exact ih0 _ _ _)
      | (with_reducible exact LeO.refl _)
      | (with_reducible exact LeO.none _)
      | (with_reducible refine LeO.ite ?_ ?_)
      | (with_reducible refine LeO.bind ?_ (fun _ => ?_))
      | exact ih0 _ _ _
      | exact LeO.none _
      | refine LeO.ite ?_ ?_
      | refine LeO.bind ?_ (fun _ => ?_)
theorem laws_toStringS.mono : ∀ a0 k, LeO (laws_toStringS.f k a0) (laws_toStringS.f (k + 1) a0) := by
  intro a0 k
  have ih0 := laws_toStringS.mono_l k
  unfold laws_toStringS.f
  repeat' first
      | (with_reducible exact ih0 _ _ _)
      | (with_reducible exact LeO.refl _)
      | (with_reducible exact LeO.none _)
      | (with_reducible refine LeO.ite ?_ ?_)
      | (with_reducible refine LeO.bind ?_ (fun _ => ?_))
      | exact ih0 _ _ _
      | exact LeO.none _
      | refine LeO.ite ?_ ?_
      | refine LeO.bind ?_ (fun _ => ?_)
end Go.Proofs.Ytndjodgcemgpfaa.Q
end

section
namespace Go.Proofs.Ytndjodgcemgpfaa.Q
open Go.RowKit Go.Proofs.YtndjodgcemgpfaaW.PrintWords Go.Proofs.YtndjodgcemgpfaaW.PrintLast Go.Proofs.YtndjodgcemgpfaaW.PrintMore
attribute [local go_sem] max2_int min2_int max_two min_two max_three min_three max_four min_four
set_option linter.unusedVariables false
set_option linter.unusedSimpArgs false
def laws_toIntS.l0 : Nat → List Int → List Int → Int → Option (List Int)
  | 0, _, _, _ => none
  | k + 1, x0, x3, x4 => if x4 < (x0.length : Int) then (if 0 ≤ x4 then (if x4 < (x3.length : Int) then (laws_toIntS.l0 k x0 (x3.set (x4 : Int).toNat (rd x0 x4)) (wrap64 (x4 + 1))) else (none)) else (none)) else (some x3)
def laws_toIntS.f (k : Nat) (l0 : List Int) : Option (List Int) := if 0 ≤ (l0.length : Int) then (if ((l0.length : Int) : Int).toNat ≤ 35184372088832 then (laws_toIntS.l0 k l0 (List.replicate ((l0.length : Int) : Int).toNat 0) 0) else (none)) else (none)
theorem laws_toIntS.mono_l : ∀ k, (∀ y0 y1 y2, LeO (laws_toIntS.l0 k y0 y1 y2) (laws_toIntS.l0 (k + 1) y0 y1 y2))
  | 0 => fun _ _ _ r h => by simp [laws_toIntS.l0] at h
  | k + 1 => by
    have ih0 := laws_toIntS.mono_l k
    · intro y0 y1 y2
      unfold laws_toIntS.l0
      repeat' first
      | (with_reducible exact ih0 _ _ _)
      | (with_reducible exact LeO.refl _)
      | (with_reducible exact LeO.none _)
      | (with_reducible refine LeO.ite ?_ ?_)
      | (with_reducible refine LeO.bind ?_ (fun _ => ?_))
      | exact ih0 _ _ _
      | exact LeO.none _
      | refine LeO.ite ?_ ?_
      | refine LeO.bind ?_ (fun _ => ?_)
theorem laws_toIntS.mono : ∀ a0 k, LeO (laws_toIntS.f k a0) (laws_toIntS.f (k + 1) a0) := by
  intro a0 k
  have ih0 := laws_toIntS.mono_l k
  unfold laws_toIntS.f
  repeat' first
      | (with_reducible exact ih0 _ _ _)
      | (with_reducible exact LeO.refl _)
      | (with_reducible exact LeO.none _)
      | (with_reducible refine LeO.ite ?_ ?_)
      | (with_reducible refine LeO.bind ?_ (fun _ => ?_))
      | exact ih0 _ _ _
      | exact LeO.none _
      | refine LeO.ite ?_ ?_
      | refine LeO.bind ?_ (fun _ => ?_)
end Go.Proofs.Ytndjodgcemgpfaa.Q
end

section
namespace Go.Proofs.Ytndjodgcemgpfaa.Q
open Go.RowKit Go.Proofs.YtndjodgcemgpfaaW.PrintWords Go.Proofs.YtndjodgcemgpfaaW.PrintLast Go.Proofs.YtndjodgcemgpfaaW.PrintMore
attribute [local go_sem] max2_int min2_int max_two min_two max_three min_three max_four min_four
set_option linter.unusedVariables false
set_option linter.unusedSimpArgs false
def laws_toValue.f (k : Nat) (a0_0 : ByteArray) (l0_1 : List ByteArray) (l0_2 : List Int) : Option (ByteArray × List ByteArray × List Int) := (laws_toStringS.f k l0_1).bind fun t207 => ((laws_toIntS.f k l0_2).bind fun t210 => (some (a0_0, t207, t210)))
theorem laws_toValue.mono : ∀ a0 a1 a2 k, LeO (laws_toValue.f k a0 a1 a2) (laws_toValue.f (k + 1) a0 a1 a2) := by
  intro a0 a1 a2 k
  unfold laws_toValue.f
  repeat' first
      | (with_reducible exact laws_toIntS.mono _ _)
      | (with_reducible exact laws_toStringS.mono _ _)
      | (with_reducible exact LeO.refl _)
      | (with_reducible exact LeO.none _)
      | (with_reducible refine LeO.ite ?_ ?_)
      | (with_reducible refine LeO.bind ?_ (fun _ => ?_))
      | exact laws_toIntS.mono _ _
      | exact laws_toStringS.mono _ _
      | exact LeO.none _
      | refine LeO.ite ?_ ?_
      | refine LeO.bind ?_ (fun _ => ?_)
end Go.Proofs.Ytndjodgcemgpfaa.Q
end

section
namespace Go.Proofs.Ytndjodgcemgpfaa.Q
open Go.RowKit Go.Proofs.YtndjodgcemgpfaaW.PrintWords Go.Proofs.YtndjodgcemgpfaaW.PrintLast Go.Proofs.YtndjodgcemgpfaaW.PrintMore
attribute [local go_sem] max2_int min2_int max_two min_two max_three min_three max_four min_four
set_option linter.unusedVariables false
set_option linter.unusedSimpArgs false
def laws_toValueS.l0 : Nat → List (S134) → List (S84) → Int → Option ((List (S84)))
  | 0, _, _, _ => none
  | k + 1, x0, x3, x4 => if x4 < (x0.length : Int) then (if 0 ≤ x4 then ((laws_toValue.f k ((rd_T134 x0 x4).f0) ((rd_T134 x0 x4).f1) ((rd_T134 x0 x4).f2)).bind fun bt217 => (if x4 < (x3.length : Int) then (laws_toValueS.l0 k x0 (x3.set (x4 : Int).toNat (⟨bt217.1, bt217.2.1, bt217.2.2⟩ : S84)) (wrap64 (x4 + 1))) else (none))) else (none)) else (some x3)
def laws_toValueS.f (k : Nat) (l0 : List (S134)) : Option ((List (S84))) := if 0 ≤ (l0.length : Int) then (if ((l0.length : Int) : Int).toNat ≤ 4398046511104 then (laws_toValueS.l0 k l0 (List.replicate ((l0.length : Int) : Int).toNat z84) 0) else (none)) else (none)
theorem laws_toValueS.mono_l : ∀ k, (∀ y0 y1 y2, LeO (laws_toValueS.l0 k y0 y1 y2) (laws_toValueS.l0 (k + 1) y0 y1 y2))
  | 0 => fun _ _ _ r h => by simp [laws_toValueS.l0] at h
  | k + 1 => by
    have ih0 := laws_toValueS.mono_l k
    · intro y0 y1 y2
      unfold laws_toValueS.l0
      repeat' first
      | (with_reducible exact ih0 _ _ _)
      | (with_reducible exact laws_toValue.mono _ _ _ _)
      | (with_reducible exact LeO.refl _)
      | (with_reducible exact LeO.none _)
      | (with_reducible refine LeO.ite ?_ ?_)
      | (with_reducible refine LeO.bind ?_ (fun _ => ?_))
      | exact ih0 _ _ _
      | exact laws_toValue.mono _ _ _ _
      | exact LeO.none _
      | refine LeO.ite ?_ ?_
      | refine LeO.bind ?_ (fun _ => ?_)
theorem laws_toValueS.mono : ∀ a0 k, LeO (laws_toValueS.f k a0) (laws_toValueS.f (k + 1) a0) := by
  intro a0 k
  have ih0 := laws_toValueS.mono_l k
  unfold laws_toValueS.f
  repeat' first
      | (with_reducible exact ih0 _ _ _)
      | (with_reducible exact laws_toValue.mono _ _ _ _)
      | (with_reducible exact LeO.refl _)
      | (with_reducible exact LeO.none _)
      | (with_reducible refine LeO.ite ?_ ?_)
      | (with_reducible refine LeO.bind ?_ (fun _ => ?_))
      | exact ih0 _ _ _
      | exact laws_toValue.mono _ _ _ _
      | exact LeO.none _
      | refine LeO.ite ?_ ?_
      | refine LeO.bind ?_ (fun _ => ?_)
end Go.Proofs.Ytndjodgcemgpfaa.Q
end

section
namespace Go.Proofs.Ytndjodgcemgpfaa.Q
open Go.RowKit Go.Proofs.YtndjodgcemgpfaaW.PrintWords Go.Proofs.YtndjodgcemgpfaaW.PrintLast Go.Proofs.YtndjodgcemgpfaaW.PrintMore
attribute [local go_sem] max2_int min2_int max_two min_two max_three min_three max_four min_four
set_option linter.unusedVariables false
set_option linter.unusedSimpArgs false
def laws_toDoc.f (k : Nat) (a0_0 : ByteArray) (l0_1 : List (S134)) : Option (ByteArray × (List (S84))) := (laws_toValueS.f k l0_1).bind fun t228 => (some (a0_0, t228))
theorem laws_toDoc.mono : ∀ a0 a1 k, LeO (laws_toDoc.f k a0 a1) (laws_toDoc.f (k + 1) a0 a1) := by
  intro a0 a1 k
  unfold laws_toDoc.f
  repeat' first
      | (with_reducible exact laws_toValueS.mono _ _)
      | (with_reducible exact LeO.refl _)
      | (with_reducible exact LeO.none _)
      | (with_reducible refine LeO.ite ?_ ?_)
      | (with_reducible refine LeO.bind ?_ (fun _ => ?_))
      | exact laws_toValueS.mono _ _
      | exact LeO.none _
      | refine LeO.ite ?_ ?_
      | refine LeO.bind ?_ (fun _ => ?_)
end Go.Proofs.Ytndjodgcemgpfaa.Q
end

section
namespace Go.Proofs.Ytndjodgcemgpfaa.Q
open Go.RowKit Go.Proofs.YtndjodgcemgpfaaW.PrintWords Go.Proofs.YtndjodgcemgpfaaW.PrintLast Go.Proofs.YtndjodgcemgpfaaW.PrintMore
attribute [local go_sem] max2_int min2_int max_two min_two max_three min_three max_four min_four
set_option linter.unusedVariables false
set_option linter.unusedSimpArgs false
def laws_heldByteS.l0 : Nat → List Int → Int → Int → Option (Int)
  | 0, _, _, _ => none
  | k + 1, x0, x1, x5 => if x5 < (x0.length : Int) then (if 0 ≤ x5 then (if (rd x0 x5) = ((x1) % 256) then (laws_heldByteS.l0 k x0 (wrap64 (x1 + 1)) (wrap64 (x5 + 1))) else (some (-1))) else (none)) else (some x1)
def laws_heldByteS.f (k : Nat) (l0 : List Int) (a1 : Int) : Option (Int) := laws_heldByteS.l0 k l0 a1 0
theorem laws_heldByteS.mono_l : ∀ k, (∀ y0 y1 y2, LeO (laws_heldByteS.l0 k y0 y1 y2) (laws_heldByteS.l0 (k + 1) y0 y1 y2))
  | 0 => fun _ _ _ r h => by simp [laws_heldByteS.l0] at h
  | k + 1 => by
    have ih0 := laws_heldByteS.mono_l k
    · intro y0 y1 y2
      unfold laws_heldByteS.l0
      repeat' first
      | (with_reducible exact ih0 _ _ _)
      | (with_reducible exact LeO.refl _)
      | (with_reducible exact LeO.none _)
      | (with_reducible refine LeO.ite ?_ ?_)
      | (with_reducible refine LeO.bind ?_ (fun _ => ?_))
      | exact ih0 _ _ _
      | exact LeO.none _
      | refine LeO.ite ?_ ?_
      | refine LeO.bind ?_ (fun _ => ?_)
theorem laws_heldByteS.mono : ∀ a0 a1 k, LeO (laws_heldByteS.f k a0 a1) (laws_heldByteS.f (k + 1) a0 a1) := by
  intro a0 a1 k
  have ih0 := laws_heldByteS.mono_l k
  unfold laws_heldByteS.f
  repeat' first
      | (with_reducible exact ih0 _ _ _)
      | (with_reducible exact LeO.refl _)
      | (with_reducible exact LeO.none _)
      | (with_reducible refine LeO.ite ?_ ?_)
      | (with_reducible refine LeO.bind ?_ (fun _ => ?_))
      | exact ih0 _ _ _
      | exact LeO.none _
      | refine LeO.ite ?_ ?_
      | refine LeO.bind ?_ (fun _ => ?_)
end Go.Proofs.Ytndjodgcemgpfaa.Q
end

section
set_option linter.unusedVariables false
set_option linter.unusedSimpArgs false
namespace Go.Proofs.Ytndjodgcemgpfaa.Q
open Go.RowKit Go.Proofs.YtndjodgcemgpfaaW.PrintWords Go.Proofs.YtndjodgcemgpfaaW.PrintLast Go.Proofs.YtndjodgcemgpfaaW.PrintMore
theorem eqByteS_l0 (xs : List Int) (hl : xs.length ≤ 4611686018427387903) : ∀ (rest pre : List Int), xs = pre ++ rest → Ev (fun k => laws_eqByteS.l0 k xs xs (pre.length : Int)) true
  | [], pre, hx => by
    subst hx
    exact Ev.step (fun k => laws_eqByteS.l0.eq_2 _ _ _ k) (Ev.ite_neg end_lt (Ev.now _))
  | x :: rest, pre, hx => by
    have hlt : pre.length < 4611686018427387903 := by rw [hx] at hl; simp at hl; omega
    have hm : (pre.length : Int) < (xs.length : Int) := by rw [hx]; exact mid_lt
    refine Ev.step (fun k => laws_eqByteS.l0.eq_2 _ _ _ k) (Ev.ite_pos hm (Ev.ite_pos (by omega) (Ev.ite_pos hm (Ev.ite_pos rfl ?_))))
    rw [wrap_next (x := x) (by omega)]
    exact eqByteS_l0 xs hl rest (pre ++ [x]) (by rw [hx]; simp)
theorem eqByteS_ev (xs : List Int) (hl : xs.length ≤ 4611686018427387903) : Ev (fun k => laws_eqByteS.f k xs xs) true := by
  unfold laws_eqByteS.f
  exact Ev.ite_pos rfl (eqByteS_l0 xs hl xs [] rfl)
theorem eqIntS_l0 (xs : List Int) (hl : xs.length ≤ 4611686018427387903) : ∀ (rest pre : List Int), xs = pre ++ rest → Ev (fun k => laws_eqIntS.l0 k xs xs (pre.length : Int)) true
  | [], pre, hx => by
    subst hx
    exact Ev.step (fun k => laws_eqIntS.l0.eq_2 _ _ _ k) (Ev.ite_neg end_lt (Ev.now _))
  | x :: rest, pre, hx => by
    have hlt : pre.length < 4611686018427387903 := by rw [hx] at hl; simp at hl; omega
    have hm : (pre.length : Int) < (xs.length : Int) := by rw [hx]; exact mid_lt
    refine Ev.step (fun k => laws_eqIntS.l0.eq_2 _ _ _ k) (Ev.ite_pos hm (Ev.ite_pos (by omega) (Ev.ite_pos hm (Ev.ite_pos rfl ?_))))
    rw [wrap_next (x := x) (by omega)]
    exact eqIntS_l0 xs hl rest (pre ++ [x]) (by rw [hx]; simp)
theorem eqIntS_ev (xs : List Int) (hl : xs.length ≤ 4611686018427387903) : Ev (fun k => laws_eqIntS.f k xs xs) true := by
  unfold laws_eqIntS.f
  exact Ev.ite_pos rfl (eqIntS_l0 xs hl xs [] rfl)
theorem eqStringS_l0 (xs : List ByteArray) (hl : xs.length ≤ 4611686018427387903) : ∀ (rest pre : List ByteArray), xs = pre ++ rest → Ev (fun k => laws_eqStringS.l0 k xs xs (pre.length : Int)) true
  | [], pre, hx => by
    subst hx
    exact Ev.step (fun k => laws_eqStringS.l0.eq_2 _ _ _ k) (Ev.ite_neg end_lt (Ev.now _))
  | x :: rest, pre, hx => by
    have hlt : pre.length < 4611686018427387903 := by rw [hx] at hl; simp at hl; omega
    have hm : (pre.length : Int) < (xs.length : Int) := by rw [hx]; exact mid_lt
    refine Ev.step (fun k => laws_eqStringS.l0.eq_2 _ _ _ k) (Ev.ite_pos hm (Ev.ite_pos (by omega) (Ev.ite_pos hm (Ev.ite_pos rfl ?_))))
    rw [wrap_next (x := x) (by omega)]
    exact eqStringS_l0 xs hl rest (pre ++ [x]) (by rw [hx]; simp)
theorem eqStringS_ev (xs : List ByteArray) (hl : xs.length ≤ 4611686018427387903) : Ev (fun k => laws_eqStringS.f k xs xs) true := by
  unfold laws_eqStringS.f
  exact Ev.ite_pos rfl (eqStringS_l0 xs hl xs [] rfl)
def LenV84 (x : S84) : Prop := x.f1.length ≤ 1048576 ∧ x.f2.length ≤ 1048576
theorem eqValue_ev (x : S84) (h : LenV84 x) : Ev (fun k => laws_eqValue.f k x.f0 x.f1 x.f2 x.f0 x.f1 x.f2) true := by
  unfold laws_eqValue.f
  refine Ev.ite_pos rfl (Ev.bind (eqStringS_ev x.f1 (by have := h.1; omega)) (Ev.ite_pos rfl (Ev.bind (eqIntS_ev x.f2 (by have := h.2; omega)) (Ev.ite_pos rfl (Ev.now _)))))
theorem eqValueS_l0 (xs : List S84) (hl : xs.length ≤ 4611686018427387903) (hv : ∀ x ∈ xs, LenV84 x) : ∀ (rest pre : List S84), xs = pre ++ rest → Ev (fun k => laws_eqValueS.l0 k xs xs (pre.length : Int)) true
  | [], pre, hx => by
    subst hx
    exact Ev.step (fun k => laws_eqValueS.l0.eq_2 _ _ _ k) (Ev.ite_neg end_lt (Ev.now _))
  | x :: rest, pre, hx => by
    have hlt : pre.length < 4611686018427387903 := by rw [hx] at hl; simp at hl; omega
    have hm : (pre.length : Int) < (xs.length : Int) := by rw [hx]; exact mid_lt
    have hrd : rd_T84 xs (pre.length : Int) = x := by rw [hx]; exact mid_getD _
    refine Ev.step (fun k => laws_eqValueS.l0.eq_2 _ _ _ k) (Ev.ite_pos hm (Ev.ite_pos (by omega) (Ev.ite_pos hm ?_)))
    rw [hrd, wrap_next (x := x) (by omega)]
    exact Ev.bind (eqValue_ev x (hv x (by rw [hx]; simp))) (Ev.ite_pos rfl (eqValueS_l0 xs hl hv rest (pre ++ [x]) (by rw [hx]; simp)))
theorem eqValueS_ev (xs : List S84) (hl : xs.length ≤ 4611686018427387903) (hv : ∀ x ∈ xs, LenV84 x) : Ev (fun k => laws_eqValueS.f k xs xs) true := by
  unfold laws_eqValueS.f
  exact Ev.ite_pos rfl (eqValueS_l0 xs hl hv xs [] rfl)
theorem eqDoc_ev (id : ByteArray) (xs : List S84) (hl : xs.length ≤ 4611686018427387903) (hv : ∀ x ∈ xs, LenV84 x) : Ev (fun k => laws_eqDoc.f k id xs id xs) true := by
  unfold laws_eqDoc.f
  exact Ev.ite_pos rfl (Ev.bind (eqValueS_ev xs hl hv) (Ev.ite_pos rfl (Ev.now _)))
theorem markText_l0 : ∀ (n : Nat) (m : Int) (t : ByteArray), 0 ≤ m → m < 10 ^ n → m ≤ 9223372036854775807 → t.size + n ≤ 1000 → ∃ r, Ev (fun k => laws_markText.l0 k m t) r
  | 0, m, t, h0, h1, hb, h2 => by
    have : ¬ m > 0 := by simp at h1; omega
    exact ⟨_, Ev.step (fun k => laws_markText.l0.eq_2 _ _ k) (Ev.ite_neg this (Ev.ite_pos (by omega) (Ev.now _)))⟩
  | n + 1, m, t, h0, h1, hb, h2 => by
    by_cases hm : m > 0
    · have hsz : ∀ z : List Int, z.length = 1 → (strOfNums z).size = 1 := fun z hz => by simp [strOfNums, ByteArray.size, hz]
      have hdiv : Int.tdiv m 10 = m / 10 := by rw [Int.tdiv_eq_ediv_of_nonneg h0]
      have hw : wrap64 (Int.tdiv m 10) = m / 10 := by rw [hdiv]; exact wrap64_of (by omega) (by omega)
      have hlt : m / 10 < 10 ^ n := by
        rw [Int.pow_succ] at h1
        omega
      obtain ⟨r, hr⟩ := markText_l0 n (m / 10) (strOfNums [(wrap64 (48 + (Int.tmod m 10))) % 256] ++ t) (by omega) hlt (by omega) (by rw [ByteArray.size_append, hsz _ rfl]; omega)
      refine ⟨r, Ev.step (fun k => laws_markText.l0.eq_2 _ _ k) (Ev.ite_pos hm (Ev.some_bind (Ev.ite_pos (by rw [hsz _ rfl]; omega) ?_)))⟩
      rw [hw]
      exact hr
    · exact ⟨_, Ev.step (fun k => laws_markText.l0.eq_2 _ _ k) (Ev.ite_neg hm (Ev.ite_pos (by omega) (Ev.now _)))⟩
theorem markText_some (m : Int) (hb : m ≤ 9223372036854775807) : ∃ t, Ev (fun k => laws_markText.f k m) t := by
  unfold laws_markText.f
  by_cases h : m ≤ 0
  · exact ⟨_, Ev.ite_pos h (Ev.now _)⟩
  · obtain ⟨t, ht⟩ := markText_l0 20 m ⟨#[]⟩ (by omega) (by omega) hb (by decide)
    exact ⟨t, Ev.ite_neg h ht⟩
open Classical in
 
noncomputable def mkText (m : Int) : ByteArray := if h : ∃ t, Ev (fun k => laws_markText.f k m) t then Classical.choose h else ⟨#[]⟩
theorem markText_ev (m : Int) (hb : m ≤ 9223372036854775807) : Ev (fun k => laws_markText.f k m) (mkText m) := by
  have h := markText_some m hb
  unfold mkText
  rw [dif_pos h]
  exact Classical.choose_spec h
noncomputable def mkS : Int → Nat → List ByteArray
  | _, 0 => []
  | m, n + 1 => mkText m :: mkS (m + 1) n
def mkI : Int → Nat → List Int
  | _, 0 => []
  | m, n + 1 => m :: mkI (m + 1) n
def mkB : Int → Nat → List Int
  | _, 0 => []
  | m, n + 1 => m % 256 :: mkB (m + 1) n
theorem markStringS_l0 : ∀ (rest pre : List ByteArray) (m : Int), 0 ≤ m → m + rest.length ≤ 4611686018427387903 → rest.length + pre.length ≤ 4611686018427387903 →
    Ev (fun k => laws_markStringS.l0 k (pre ++ rest) m (pre.length : Int)) (m + rest.length, pre ++ mkS m rest.length)
  | [], pre, m, h0, h1, h2 => by
    exact Ev.step (fun k => laws_markStringS.l0.eq_2 _ _ _ k) (Ev.ite_neg end_lt (Ev.eq (Ev.now _) (by simp [mkS])))
  | x :: rest, pre, m, h0, h1, h2 => by
    simp only [List.length_cons] at h1 h2
    refine Ev.step (fun k => laws_markStringS.l0.eq_2 _ _ _ k) (Ev.ite_pos mid_lt (Ev.bind (markText_ev m (by omega)) (Ev.ite_pos (by omega) ?_)))
    rw [mid_set, wrap_next (x := mkText m) (by omega), wrap64_of (by omega) (by omega), snoc_cons]
    refine Ev.eq (markStringS_l0 rest (pre ++ [mkText m]) (m + 1) (by omega) (by omega) (by simp only [List.length_append, List.length_singleton]; omega)) ?_
    simp [mkS]
    omega
theorem markStringS_ev (xs : List ByteArray) (m : Int) (h0 : 0 ≤ m) (h1 : m + xs.length ≤ 4611686018427387903) : Ev (fun k => laws_markStringS.f k xs m) (m + xs.length, mkS m xs.length) := by
  have := markStringS_l0 xs [] m h0 h1 (by simp; omega)
  simpa [laws_markStringS.f] using this
theorem markIntS_l0 : ∀ (rest pre : List Int) (m : Int), 0 ≤ m → m + rest.length ≤ 4611686018427387903 → rest.length + pre.length ≤ 4611686018427387903 →
    Ev (fun k => laws_markIntS.l0 k (pre ++ rest) m (pre.length : Int)) (m + rest.length, pre ++ mkI m rest.length)
  | [], pre, m, h0, h1, h2 => by
    exact Ev.step (fun k => laws_markIntS.l0.eq_2 _ _ _ k) (Ev.ite_neg end_lt (Ev.eq (Ev.now _) (by simp [mkI])))
  | x :: rest, pre, m, h0, h1, h2 => by
    simp only [List.length_cons] at h1 h2
    refine Ev.step (fun k => laws_markIntS.l0.eq_2 _ _ _ k) (Ev.ite_pos mid_lt (Ev.ite_pos (by omega) ?_))
    rw [mid_set, wrap_next (x := m) (by omega), wrap64_of (by omega) (by omega), snoc_cons]
    refine Ev.eq (markIntS_l0 rest (pre ++ [m]) (m + 1) (by omega) (by omega) (by simp only [List.length_append, List.length_singleton]; omega)) ?_
    simp [mkI]
    omega
theorem markIntS_ev (xs : List Int) (m : Int) (h0 : 0 ≤ m) (h1 : m + xs.length ≤ 4611686018427387903) : Ev (fun k => laws_markIntS.f k xs m) (m + xs.length, mkI m xs.length) := by
  have := markIntS_l0 xs [] m h0 h1 (by simp; omega)
  simpa [laws_markIntS.f] using this
theorem markByteS_l0 : ∀ (rest pre : List Int) (m : Int), 0 ≤ m → m + rest.length ≤ 4611686018427387903 → rest.length + pre.length ≤ 4611686018427387903 →
    Ev (fun k => laws_markByteS.l0 k (pre ++ rest) m (pre.length : Int)) (m + rest.length, pre ++ mkB m rest.length)
  | [], pre, m, h0, h1, h2 => by
    exact Ev.step (fun k => laws_markByteS.l0.eq_2 _ _ _ k) (Ev.ite_neg end_lt (Ev.eq (Ev.now _) (by simp [mkB])))
  | x :: rest, pre, m, h0, h1, h2 => by
    simp only [List.length_cons] at h1 h2
    refine Ev.step (fun k => laws_markByteS.l0.eq_2 _ _ _ k) (Ev.ite_pos mid_lt (Ev.ite_pos (by omega) ?_))
    rw [mid_set, wrap_next (x := m % 256) (by omega), wrap64_of (by omega) (by omega), snoc_cons]
    refine Ev.eq (markByteS_l0 rest (pre ++ [m % 256]) (m + 1) (by omega) (by omega) (by simp only [List.length_append, List.length_singleton]; omega)) ?_
    simp [mkB]
    omega
theorem markByteS_ev (xs : List Int) (m : Int) (h0 : 0 ≤ m) (h1 : m + xs.length ≤ 4611686018427387903) : Ev (fun k => laws_markByteS.f k xs m) (m + xs.length, mkB m xs.length) := by
  have := markByteS_l0 xs [] m h0 h1 (by simp; omega)
  simpa [laws_markByteS.f] using this
theorem heldIntS_l0 (xs : List Int) : ∀ (n : Nat) (pre : List Int) (m : Int), xs = pre ++ mkI m n → 0 ≤ m → m + n ≤ 4611686018427387903 → n + pre.length ≤ 4611686018427387903 →
    Ev (fun k => laws_heldIntS.l0 k xs m (pre.length : Int)) (m + n)
  | 0, pre, m, hx, h0, h1, h2 => by
    subst hx
    exact Ev.step (fun k => laws_heldIntS.l0.eq_2 _ _ _ k) (Ev.ite_neg end_lt (Ev.eq (Ev.now _) (by simp)))
  | n + 1, pre, m, hx, h0, h1, h2 => by
    have hx' : xs = pre ++ m :: mkI (m + 1) n := hx
    have hrd : rd xs (pre.length : Int) = m := by rw [hx']; exact mid_getD _
    refine Ev.step (fun k => laws_heldIntS.l0.eq_2 _ _ _ k) (Ev.ite_pos (by rw [hx']; exact mid_lt) (Ev.ite_pos (by omega) (Ev.ite_pos hrd ?_)))
    rw [wrap_next (x := m) (by omega), wrap64_of (by omega) (by omega)]
    exact Ev.eq (heldIntS_l0 xs n (pre ++ [m]) (m + 1) (by rw [hx']; simp) (by omega) (by omega) (by simp only [List.length_append, List.length_singleton]; omega)) (by omega)
theorem heldIntS_ev (n : Nat) (m : Int) (h0 : 0 ≤ m) (h1 : m + n ≤ 4611686018427387903) : Ev (fun k => laws_heldIntS.f k (mkI m n) m) (m + n) :=
  heldIntS_l0 _ n [] m rfl h0 h1 (by simp; omega)
theorem heldStringS_l0 (xs : List ByteArray) : ∀ (n : Nat) (pre : List ByteArray) (m : Int), xs = pre ++ mkS m n → 0 ≤ m → m + n ≤ 4611686018427387903 → n + pre.length ≤ 4611686018427387903 →
    Ev (fun k => laws_heldStringS.l0 k xs m (pre.length : Int)) (m + n)
  | 0, pre, m, hx, h0, h1, h2 => by
    subst hx
    exact Ev.step (fun k => laws_heldStringS.l0.eq_2 _ _ _ k) (Ev.ite_neg end_lt (Ev.eq (Ev.now _) (by simp)))
  | n + 1, pre, m, hx, h0, h1, h2 => by
    have hx' : xs = pre ++ mkText m :: mkS (m + 1) n := hx
    have hrd : rdOf ByteArray.empty xs (pre.length : Int) = mkText m := by rw [hx']; exact mid_getD _
    refine Ev.step (fun k => laws_heldStringS.l0.eq_2 _ _ _ k) (Ev.ite_pos (by rw [hx']; exact mid_lt) (Ev.ite_pos (by omega) (Ev.bind (markText_ev m (by omega)) (Ev.ite_pos (by rw [hrd]) ?_))))
    rw [wrap_next (x := mkText m) (by omega), wrap64_of (by omega) (by omega)]
    exact Ev.eq (heldStringS_l0 xs n (pre ++ [mkText m]) (m + 1) (by rw [hx']; simp) (by omega) (by omega) (by simp only [List.length_append, List.length_singleton]; omega)) (by omega)
theorem heldStringS_ev (n : Nat) (m : Int) (h0 : 0 ≤ m) (h1 : m + n ≤ 4611686018427387903) : Ev (fun k => laws_heldStringS.f k (mkS m n) m) (m + n) :=
  heldStringS_l0 _ n [] m rfl h0 h1 (by simp; omega)
def cntV (x : S84) : Nat := 1 + x.f1.length + x.f2.length
noncomputable def mkV1 (m : Int) (x : S84) : S84 := ⟨mkText m, mkS (m + 1) x.f1.length, mkI (m + 1 + x.f1.length) x.f2.length⟩
noncomputable def mkV : Int → List S84 → List S84
  | _, [] => []
  | m, x :: r => mkV1 m x :: mkV (m + cntV x) r
def cntVS (xs : List S84) : Nat := (xs.map cntV).sum
theorem cntVS_cons (x : S84) (xs : List S84) : cntVS (x :: xs) = cntV x + cntVS xs := by simp [cntVS]
theorem markValueS_l0 : ∀ (rest pre : List S84) (m : Int), 0 ≤ m → m + cntVS rest ≤ 4611686018427387903 → rest.length + pre.length ≤ 4611686018427387903 →
    Ev (fun k => laws_markValueS.l0 k (pre ++ rest) m (pre.length : Int)) (m + cntVS rest, pre ++ mkV m rest)
  | [], pre, m, h0, h1, h2 => by
    exact Ev.step (fun k => laws_markValueS.l0.eq_2 _ _ _ k) (Ev.ite_neg end_lt (Ev.eq (Ev.now _) (by simp [mkV, cntVS])))
  | x :: rest, pre, m, h0, h1, h2 => by
    rw [cntVS_cons] at h1
    have hc : cntV x = 1 + x.f1.length + x.f2.length := rfl
    simp only [List.length_cons] at h2
    have hrd : rd_T84 (pre ++ x :: rest) (pre.length : Int) = x := mid_getD _
    refine Ev.step (fun k => laws_markValueS.l0.eq_2 _ _ _ k) (Ev.ite_pos mid_lt (Ev.ite_pos (by omega) (Ev.bind (markText_ev m (by omega)) ?_)))
    rw [hrd, wrap64_of (x := m + 1) (by omega) (by omega)]
    refine Ev.bind (markStringS_ev x.f1 (m + 1) (by omega) (by omega)) (Ev.bind (markIntS_ev x.f2 (m + 1 + x.f1.length) (by omega) (by omega)) ?_)
    rw [mid_set, wrap_next (x := mkV1 m x) (by omega), snoc_cons]
    refine Ev.eq (markValueS_l0 rest (pre ++ [mkV1 m x]) (m + 1 + x.f1.length + x.f2.length) (by omega) (by omega) (by simp; omega)) ?_
    rw [cntVS_cons, mkV]
    have e : m + 1 + (x.f1.length : Int) + x.f2.length = m + (cntV x : Nat) := by rw [hc]; omega
    rw [e]
    simp
    omega
theorem markValueS_ev (xs : List S84) (m : Int) (h0 : 0 ≤ m) (h1 : m + cntVS xs ≤ 4611686018427387903) (h2 : xs.length ≤ 4611686018427387903) : Ev (fun k => laws_markValueS.f k xs m) (m + cntVS xs, mkV m xs) := by
  have := markValueS_l0 xs [] m h0 h1 (by simpa using h2)
  simpa [laws_markValueS.f] using this
theorem heldValueS_l0 (xs : List S84) : ∀ (rest pre : List S84) (m : Int), xs = pre ++ mkV m rest → 0 ≤ m → m + cntVS rest ≤ 4611686018427387903 → rest.length + pre.length ≤ 4611686018427387903 →
    Ev (fun k => laws_heldValueS.l0 k xs m (pre.length : Int)) (m + cntVS rest)
  | [], pre, m, hx, h0, h1, h2 => by
    subst hx
    exact Ev.step (fun k => laws_heldValueS.l0.eq_2 _ _ _ k) (Ev.ite_neg end_lt (Ev.eq (Ev.now _) (by simp [cntVS])))
  | x :: rest, pre, m, hx, h0, h1, h2 => by
    rw [cntVS_cons] at h1
    have hc : cntV x = 1 + x.f1.length + x.f2.length := rfl
    simp only [List.length_cons] at h2
    have hx' : xs = pre ++ mkV1 m x :: mkV (m + cntV x) rest := hx
    have hrd : rd_T84 xs (pre.length : Int) = mkV1 m x := by rw [hx']; exact mid_getD _
    refine Ev.step (fun k => laws_heldValueS.l0.eq_2 _ _ _ k) (Ev.ite_pos (by rw [hx']; exact mid_lt) (Ev.ite_pos (by omega) (Ev.bind (markText_ev m (by omega)) ?_)))
    rw [hrd, wrap64_of (x := m + 1) (by omega) (by omega), wrap_next (x := mkV1 m x) (by omega)]
    refine Ev.ite_pos rfl (Ev.bind (heldStringS_ev x.f1.length (m + 1) (by omega) (by omega)) (Ev.ite_neg (by omega) (Ev.bind (heldIntS_ev x.f2.length (m + 1 + x.f1.length) (by omega) (by omega)) (Ev.ite_neg (by omega) ?_))))
    have e : m + 1 + (x.f1.length : Int) + x.f2.length = m + (cntV x : Nat) := by rw [hc]; omega
    rw [e]
    refine Ev.eq (heldValueS_l0 xs rest (pre ++ [mkV1 m x]) (m + cntV x) (by rw [hx']; simp) (by omega) (by omega) (by simp; omega)) ?_
    rw [cntVS_cons]
    omega
theorem heldValueS_ev (xs : List S84) (m : Int) (h0 : 0 ≤ m) (h1 : m + cntVS xs ≤ 4611686018427387903) (h2 : xs.length ≤ 4611686018427387903) : Ev (fun k => laws_heldValueS.f k (mkV m xs) m) (m + cntVS xs) :=
  heldValueS_l0 _ xs [] m rfl h0 h1 (by simpa using h2)
theorem heldDoc_ev (id : ByteArray) (xs : List S84) (m : Int) (h0 : 0 ≤ m) (h1 : m + cntVS xs ≤ 4611686018427387903) (h2 : xs.length ≤ 4611686018427387903) : Ev (fun k => laws_heldDoc.f k id (mkV m xs) m) (m + cntVS xs) :=
  Ev.bind (heldValueS_ev xs m h0 h1 h2) (Ev.ite_neg (by omega) (Ev.now _))
end Go.Proofs.Ytndjodgcemgpfaa.Q
end

section
namespace Go.Proofs.Ytndjodgcemgpfaa.Q
open Go.RowKit Go.Proofs.YtndjodgcemgpfaaW.PrintWords Go.Proofs.YtndjodgcemgpfaaW.PrintLast Go.Proofs.YtndjodgcemgpfaaW.PrintMore
attribute [local go_sem] max2_int min2_int max_two min_two max_three min_three max_four min_four
set_option linter.unusedVariables false
set_option linter.unusedSimpArgs false
mutual
def spec_l06Fits.j0 : Nat → Bool → ByteArray → List (S84) → Option (Bool)
  | 0, _, _, _ => none
  | k + 1, x16, x110000, x110001 => if x16 = true then (some false) else (spec_l06Fits.l0 k 0 x110000 x110001)
def spec_l06Fits.l0 : Nat → Int → ByteArray → List (S84) → Option (Bool)
  | 0, _, _, _ => none
  | k + 1, x3, x110000, x110001 => if x3 < (x110001.length : Int) then (if 0 ≤ x3 then (if (((rd_T84 x110001 x3).f0).size : Int) > 65536 then (spec_l06Fits.j2 k x3 true x110000 x110001 ((rd_T84 x110001 x3).f0) ((rd_T84 x110001 x3).f1) ((rd_T84 x110001 x3).f2)) else (if (((rd_T84 x110001 x3).f1).length : Int) > 4096 then (spec_l06Fits.j2 k x3 true x110000 x110001 ((rd_T84 x110001 x3).f0) ((rd_T84 x110001 x3).f1) ((rd_T84 x110001 x3).f2)) else (spec_l06Fits.j2 k x3 (decide ((((rd_T84 x110001 x3).f2).length : Int) > 4096)) x110000 x110001 ((rd_T84 x110001 x3).f0) ((rd_T84 x110001 x3).f1) ((rd_T84 x110001 x3).f2)))) else (none)) else (some true)
def spec_l06Fits.j2 : Nat → Int → Bool → ByteArray → List (S84) → ByteArray → List ByteArray → List Int → Option (Bool)
  | 0, _, _, _, _, _, _, _ => none
  | k + 1, x3, x44, x110000, x110001, x112000, x112001, x112002 => if x44 = true then (some false) else (spec_l06Fits.l1 k x3 0 x110000 x110001 x112000 x112001 x112002)
def spec_l06Fits.l1 : Nat → Int → Int → ByteArray → List (S84) → ByteArray → List ByteArray → List Int → Option (Bool)
  | 0, _, _, _, _, _, _, _ => none
  | k + 1, x3, x5, x110000, x110001, x112000, x112001, x112002 => if x5 < (x112001.length : Int) then (if 0 ≤ x5 then (if ((rdOf ByteArray.empty x112001 x5).size : Int) > 65536 then (some false) else (spec_l06Fits.l1 k x3 (wrap64 (x5 + 1)) x110000 x110001 x112000 x112001 x112002)) else (none)) else (spec_l06Fits.l2 k x3 0 x110000 x110001 x112000 x112001 x112002)
def spec_l06Fits.l2 : Nat → Int → Int → ByteArray → List (S84) → ByteArray → List ByteArray → List Int → Option (Bool)
  | 0, _, _, _, _, _, _, _ => none
  | k + 1, x3, x6, x110000, x110001, x112000, x112001, x112002 => if x6 < (x112002.length : Int) then (if 0 ≤ x6 then (if (rd x112002 x6) < (-1000000000000) then (some false) else (if (rd x112002 x6) > 1000000000000 then (some false) else (spec_l06Fits.l2 k x3 (wrap64 (x6 + 1)) x110000 x110001 x112000 x112001 x112002))) else (none)) else (spec_l06Fits.l0 k (wrap64 (x3 + 1)) x110000 x110001)
end
def spec_l06Fits.f (k : Nat) (a0_0 : ByteArray) (l0_1 : List (S84)) : Option (Bool) := if (a0_0.size : Int) > 65536 then (spec_l06Fits.j0 k true a0_0 l0_1) else (spec_l06Fits.j0 k (decide ((l0_1.length : Int) > 4096)) a0_0 l0_1)
theorem spec_l06Fits.mono_l : ∀ k, (∀ y0 y1 y2, LeO (spec_l06Fits.j0 k y0 y1 y2) (spec_l06Fits.j0 (k + 1) y0 y1 y2)) ∧ (∀ y0 y1 y2, LeO (spec_l06Fits.l0 k y0 y1 y2) (spec_l06Fits.l0 (k + 1) y0 y1 y2)) ∧ (∀ y0 y1 y2 y3 y4 y5 y6, LeO (spec_l06Fits.j2 k y0 y1 y2 y3 y4 y5 y6) (spec_l06Fits.j2 (k + 1) y0 y1 y2 y3 y4 y5 y6)) ∧ (∀ y0 y1 y2 y3 y4 y5 y6, LeO (spec_l06Fits.l1 k y0 y1 y2 y3 y4 y5 y6) (spec_l06Fits.l1 (k + 1) y0 y1 y2 y3 y4 y5 y6)) ∧ (∀ y0 y1 y2 y3 y4 y5 y6, LeO (spec_l06Fits.l2 k y0 y1 y2 y3 y4 y5 y6) (spec_l06Fits.l2 (k + 1) y0 y1 y2 y3 y4 y5 y6))
  | 0 => ⟨fun _ _ _ r h => by simp [spec_l06Fits.j0] at h, fun _ _ _ r h => by simp [spec_l06Fits.l0] at h, fun _ _ _ _ _ _ _ r h => by simp [spec_l06Fits.j2] at h, fun _ _ _ _ _ _ _ r h => by simp [spec_l06Fits.l1] at h, fun _ _ _ _ _ _ _ r h => by simp [spec_l06Fits.l2] at h⟩
  | k + 1 => by
    obtain ⟨ih0, ih1, ih2, ih3, ih4⟩ := spec_l06Fits.mono_l k
    refine ⟨?_, ?_, ?_, ?_, ?_⟩
    · intro y0 y1 y2
      unfold spec_l06Fits.j0
      repeat' first
      | (with_reducible exact ih0 _ _ _)
      | (with_reducible exact ih1 _ _ _)
      | (with_reducible exact ih2 _ _ _ _ _ _ _)
      | (with_reducible exact ih3 _ _ _ _ _ _ _)
      | (with_reducible exact ih4 _ _ _ _ _ _ _)
      | (with_reducible exact LeO.refl _)
      | (with_reducible exact LeO.none _)
      | (with_reducible refine LeO.ite ?_ ?_)
      | (with_reducible refine LeO.bind ?_ (fun _ => ?_))
      | exact ih0 _ _ _
      | exact ih1 _ _ _
      | exact ih2 _ _ _ _ _ _ _
      | exact ih3 _ _ _ _ _ _ _
      | exact ih4 _ _ _ _ _ _ _
      | exact LeO.none _
      | refine LeO.ite ?_ ?_
      | refine LeO.bind ?_ (fun _ => ?_)
    · intro y0 y1 y2
      unfold spec_l06Fits.l0
      repeat' first
      | (with_reducible exact ih0 _ _ _)
      | (with_reducible exact ih1 _ _ _)
      | (with_reducible exact ih2 _ _ _ _ _ _ _)
      | (with_reducible exact ih3 _ _ _ _ _ _ _)
      | (with_reducible exact ih4 _ _ _ _ _ _ _)
      | (with_reducible exact LeO.refl _)
      | (with_reducible exact LeO.none _)
      | (with_reducible refine LeO.ite ?_ ?_)
      | (with_reducible refine LeO.bind ?_ (fun _ => ?_))
      | exact ih0 _ _ _
      | exact ih1 _ _ _
      | exact ih2 _ _ _ _ _ _ _
      | exact ih3 _ _ _ _ _ _ _
      | exact ih4 _ _ _ _ _ _ _
      | exact LeO.none _
      | refine LeO.ite ?_ ?_
      | refine LeO.bind ?_ (fun _ => ?_)
    · intro y0 y1 y2 y3 y4 y5 y6
      unfold spec_l06Fits.j2
      repeat' first
      | (with_reducible exact ih0 _ _ _)
      | (with_reducible exact ih1 _ _ _)
      | (with_reducible exact ih2 _ _ _ _ _ _ _)
      | (with_reducible exact ih3 _ _ _ _ _ _ _)
      | (with_reducible exact ih4 _ _ _ _ _ _ _)
      | (with_reducible exact LeO.refl _)
      | (with_reducible exact LeO.none _)
      | (with_reducible refine LeO.ite ?_ ?_)
      | (with_reducible refine LeO.bind ?_ (fun _ => ?_))
      | exact ih0 _ _ _
      | exact ih1 _ _ _
      | exact ih2 _ _ _ _ _ _ _
      | exact ih3 _ _ _ _ _ _ _
      | exact ih4 _ _ _ _ _ _ _
      | exact LeO.none _
      | refine LeO.ite ?_ ?_
      | refine LeO.bind ?_ (fun _ => ?_)
    · intro y0 y1 y2 y3 y4 y5 y6
      unfold spec_l06Fits.l1
      repeat' first
      | (with_reducible exact ih0 _ _ _)
      | (with_reducible exact ih1 _ _ _)
      | (with_reducible exact ih2 _ _ _ _ _ _ _)
      | (with_reducible exact ih3 _ _ _ _ _ _ _)
      | (with_reducible exact ih4 _ _ _ _ _ _ _)
      | (with_reducible exact LeO.refl _)
      | (with_reducible exact LeO.none _)
      | (with_reducible refine LeO.ite ?_ ?_)
      | (with_reducible refine LeO.bind ?_ (fun _ => ?_))
      | exact ih0 _ _ _
      | exact ih1 _ _ _
      | exact ih2 _ _ _ _ _ _ _
      | exact ih3 _ _ _ _ _ _ _
      | exact ih4 _ _ _ _ _ _ _
      | exact LeO.none _
      | refine LeO.ite ?_ ?_
      | refine LeO.bind ?_ (fun _ => ?_)
    · intro y0 y1 y2 y3 y4 y5 y6
      unfold spec_l06Fits.l2
      repeat' first
      | (with_reducible exact ih0 _ _ _)
      | (with_reducible exact ih1 _ _ _)
      | (with_reducible exact ih2 _ _ _ _ _ _ _)
      | (with_reducible exact ih3 _ _ _ _ _ _ _)
      | (with_reducible exact ih4 _ _ _ _ _ _ _)
      | (with_reducible exact LeO.refl _)
      | (with_reducible exact LeO.none _)
      | (with_reducible refine LeO.ite ?_ ?_)
      | (with_reducible refine LeO.bind ?_ (fun _ => ?_))
      | exact ih0 _ _ _
      | exact ih1 _ _ _
      | exact ih2 _ _ _ _ _ _ _
      | exact ih3 _ _ _ _ _ _ _
      | exact ih4 _ _ _ _ _ _ _
      | exact LeO.none _
      | refine LeO.ite ?_ ?_
      | refine LeO.bind ?_ (fun _ => ?_)
theorem spec_l06Fits.mono : ∀ a0 a1 k, LeO (spec_l06Fits.f k a0 a1) (spec_l06Fits.f (k + 1) a0 a1) := by
  intro a0 a1 k
  obtain ⟨ih0, ih1, ih2, ih3, ih4⟩ := spec_l06Fits.mono_l k
  unfold spec_l06Fits.f
  repeat' first
      | (with_reducible exact ih0 _ _ _)
      | (with_reducible exact ih1 _ _ _)
      | (with_reducible exact ih2 _ _ _ _ _ _ _)
      | (with_reducible exact ih3 _ _ _ _ _ _ _)
      | (with_reducible exact ih4 _ _ _ _ _ _ _)
      | (with_reducible exact LeO.refl _)
      | (with_reducible exact LeO.none _)
      | (with_reducible refine LeO.ite ?_ ?_)
      | (with_reducible refine LeO.bind ?_ (fun _ => ?_))
      | exact ih0 _ _ _
      | exact ih1 _ _ _
      | exact ih2 _ _ _ _ _ _ _
      | exact ih3 _ _ _ _ _ _ _
      | exact ih4 _ _ _ _ _ _ _
      | exact LeO.none _
      | refine LeO.ite ?_ ?_
      | refine LeO.bind ?_ (fun _ => ?_)
end Go.Proofs.Ytndjodgcemgpfaa.Q
end

section
namespace Go.Proofs.Ytndjodgcemgpfaa.Q
open Go.RowKit Go.Proofs.YtndjodgcemgpfaaW.PrintWords Go.Proofs.YtndjodgcemgpfaaW.PrintLast Go.Proofs.YtndjodgcemgpfaaW.PrintMore
attribute [local go_sem] max2_int min2_int max_two min_two max_three min_three max_four min_four
set_option linter.unusedVariables false
set_option linter.unusedSimpArgs false
def spec_l03Put.f : Nat → Int → Option (List Int)
  | 0, _ => none
  | k + 1, a0 => if a0 < 128 then (some (([(a0) % 256] : List Int))) else ((some (([(wrap64 (128 + (Int.tmod a0 128))) % 256] : List Int) : List Int)).bind fun y118 => ((spec_l03Put.f k (wrap64 (Int.tdiv a0 128))).bind fun t121 => (if y118.length + t121.length < 140737488355328 then (some (y118 ++ t121)) else (none))))
theorem spec_l03Put.mono_l : ∀ k, (∀ y0, LeO (spec_l03Put.f k y0) (spec_l03Put.f (k + 1) y0))
  | 0 => fun _ r h => by simp [spec_l03Put.f] at h
  | k + 1 => by
    have ih0 := spec_l03Put.mono_l k
    · intro y0
      unfold spec_l03Put.f
      repeat' first
      | (with_reducible exact ih0 _)
      | (with_reducible exact LeO.refl _)
      | (with_reducible exact LeO.none _)
      | (with_reducible refine LeO.ite ?_ ?_)
      | (with_reducible refine LeO.bind ?_ (fun _ => ?_))
      | exact ih0 _
      | exact LeO.none _
      | refine LeO.ite ?_ ?_
      | refine LeO.bind ?_ (fun _ => ?_)
theorem spec_l03Put.mono : ∀ a0 k, LeO (spec_l03Put.f k a0) (spec_l03Put.f (k + 1) a0) := by
  intro a0 k
  have ih0 := spec_l03Put.mono_l k
  exact ih0 a0
end Go.Proofs.Ytndjodgcemgpfaa.Q
end

section
namespace Go.Proofs.Ytndjodgcemgpfaa.Q
open Go.RowKit Go.Proofs.YtndjodgcemgpfaaW.PrintWords Go.Proofs.YtndjodgcemgpfaaW.PrintLast Go.Proofs.YtndjodgcemgpfaaW.PrintMore
attribute [local go_sem] max2_int min2_int max_two min_two max_three min_three max_four min_four
set_option linter.unusedVariables false
set_option linter.unusedSimpArgs false
def spec_l06PutText.f (k : Nat) (l0 : List Int) (a1 : ByteArray) : Option (List Int) := (spec_l03Put.f k (a1.size : Int)).bind fun t127 => (if l0.length + t127.length < 140737488355328 then ((some (l0 ++ t127 : List Int)).bind fun y130 => (if y130.length + a1.size < 140737488355328 then (some (y130 ++ bytesOf a1)) else (none))) else (none))
theorem spec_l06PutText.mono : ∀ a0 a1 k, LeO (spec_l06PutText.f k a0 a1) (spec_l06PutText.f (k + 1) a0 a1) := by
  intro a0 a1 k
  unfold spec_l06PutText.f
  repeat' first
      | (with_reducible exact spec_l03Put.mono _ _)
      | (with_reducible exact LeO.refl _)
      | (with_reducible exact LeO.none _)
      | (with_reducible refine LeO.ite ?_ ?_)
      | (with_reducible refine LeO.bind ?_ (fun _ => ?_))
      | exact spec_l03Put.mono _ _
      | exact LeO.none _
      | refine LeO.ite ?_ ?_
      | refine LeO.bind ?_ (fun _ => ?_)
end Go.Proofs.Ytndjodgcemgpfaa.Q
end

section
namespace Go.Proofs.Ytndjodgcemgpfaa.Q
open Go.RowKit Go.Proofs.YtndjodgcemgpfaaW.PrintWords Go.Proofs.YtndjodgcemgpfaaW.PrintLast Go.Proofs.YtndjodgcemgpfaaW.PrintMore
attribute [local go_sem] max2_int min2_int max_two min_two max_three min_three max_four min_four
set_option linter.unusedVariables false
set_option linter.unusedSimpArgs false
def spec_l06PutNumber.f (k : Nat) (l0 : List Int) (a1 : Int) : Option (List Int) := if a1 < 0 then ((spec_l03Put.f k (wrap64 ((wrap64 ((-2) * a1)) - 1))).bind fun t136 => (if l0.length + t136.length < 140737488355328 then (some (l0 ++ t136)) else (none))) else ((spec_l03Put.f k (wrap64 (2 * a1))).bind fun t142 => (if l0.length + t142.length < 140737488355328 then (some (l0 ++ t142)) else (none)))
theorem spec_l06PutNumber.mono : ∀ a0 a1 k, LeO (spec_l06PutNumber.f k a0 a1) (spec_l06PutNumber.f (k + 1) a0 a1) := by
  intro a0 a1 k
  unfold spec_l06PutNumber.f
  repeat' first
      | (with_reducible exact spec_l03Put.mono _ _)
      | (with_reducible exact LeO.refl _)
      | (with_reducible exact LeO.none _)
      | (with_reducible refine LeO.ite ?_ ?_)
      | (with_reducible refine LeO.bind ?_ (fun _ => ?_))
      | exact spec_l03Put.mono _ _
      | exact LeO.none _
      | refine LeO.ite ?_ ?_
      | refine LeO.bind ?_ (fun _ => ?_)
end Go.Proofs.Ytndjodgcemgpfaa.Q
end

section
namespace Go.Proofs.Ytndjodgcemgpfaa.Q
open Go.RowKit Go.Proofs.YtndjodgcemgpfaaW.PrintWords Go.Proofs.YtndjodgcemgpfaaW.PrintLast Go.Proofs.YtndjodgcemgpfaaW.PrintMore
attribute [local go_sem] max2_int min2_int max_two min_two max_three min_three max_four min_four
set_option linter.unusedVariables false
set_option linter.unusedSimpArgs false
mutual
def spec_l06Bytes.l0 : Nat → List Int → Int → ByteArray → List (S84) → Option (List Int)
  | 0, _, _, _, _ => none
  | k + 1, x3, x4, x149000, x149001 => if x4 < (x149001.length : Int) then (if 0 ≤ x4 then ((spec_l06PutText.f k x3 ((rd_T84 x149001 x4).f0)).bind fun t163 => ((spec_l03Put.f k (((rd_T84 x149001 x4).f1).length : Int)).bind fun t166 => (if t163.length + t166.length < 140737488355328 then (spec_l06Bytes.l1 k (t163 ++ t166) x4 0 x149000 x149001 ((rd_T84 x149001 x4).f0) ((rd_T84 x149001 x4).f1) ((rd_T84 x149001 x4).f2)) else (none)))) else (none)) else (some x3)
def spec_l06Bytes.l1 : Nat → List Int → Int → Int → ByteArray → List (S84) → ByteArray → List ByteArray → List Int → Option (List Int)
  | 0, _, _, _, _, _, _, _, _ => none
  | k + 1, x3, x4, x6, x149000, x149001, x163000, x163001, x163002 => if x6 < (x163001.length : Int) then (if 0 ≤ x6 then ((spec_l06PutText.f k x3 (rdOf ByteArray.empty x163001 x6)).bind fun t173 => (spec_l06Bytes.l1 k t173 x4 (wrap64 (x6 + 1)) x149000 x149001 x163000 x163001 x163002)) else (none)) else ((spec_l03Put.f k (x163002.length : Int)).bind fun t176 => (if x3.length + t176.length < 140737488355328 then (spec_l06Bytes.l2 k (x3 ++ t176) x4 0 x149000 x149001 x163000 x163001 x163002) else (none)))
def spec_l06Bytes.l2 : Nat → List Int → Int → Int → ByteArray → List (S84) → ByteArray → List ByteArray → List Int → Option (List Int)
  | 0, _, _, _, _, _, _, _, _ => none
  | k + 1, x3, x4, x7, x149000, x149001, x163000, x163001, x163002 => if x7 < (x163002.length : Int) then (if 0 ≤ x7 then ((spec_l06PutNumber.f k x3 (rd x163002 x7)).bind fun t183 => (spec_l06Bytes.l2 k t183 x4 (wrap64 (x7 + 1)) x149000 x149001 x163000 x163001 x163002)) else (none)) else (spec_l06Bytes.l0 k x3 (wrap64 (x4 + 1)) x149000 x149001)
end
def spec_l06Bytes.f (k : Nat) (a0_0 : ByteArray) (l0_1 : List (S84)) : Option (List Int) := (spec_l06PutText.f k (([] : List Int)) a0_0).bind fun t152 => ((spec_l03Put.f k (l0_1.length : Int)).bind fun t155 => (if t152.length + t155.length < 140737488355328 then (spec_l06Bytes.l0 k (t152 ++ t155) 0 a0_0 l0_1) else (none)))
theorem spec_l06Bytes.mono_l : ∀ k, (∀ y0 y1 y2 y3, LeO (spec_l06Bytes.l0 k y0 y1 y2 y3) (spec_l06Bytes.l0 (k + 1) y0 y1 y2 y3)) ∧ (∀ y0 y1 y2 y3 y4 y5 y6 y7, LeO (spec_l06Bytes.l1 k y0 y1 y2 y3 y4 y5 y6 y7) (spec_l06Bytes.l1 (k + 1) y0 y1 y2 y3 y4 y5 y6 y7)) ∧ (∀ y0 y1 y2 y3 y4 y5 y6 y7, LeO (spec_l06Bytes.l2 k y0 y1 y2 y3 y4 y5 y6 y7) (spec_l06Bytes.l2 (k + 1) y0 y1 y2 y3 y4 y5 y6 y7))
  | 0 => ⟨fun _ _ _ _ r h => by simp [spec_l06Bytes.l0] at h, fun _ _ _ _ _ _ _ _ r h => by simp [spec_l06Bytes.l1] at h, fun _ _ _ _ _ _ _ _ r h => by simp [spec_l06Bytes.l2] at h⟩
  | k + 1 => by
    obtain ⟨ih0, ih1, ih2⟩ := spec_l06Bytes.mono_l k
    refine ⟨?_, ?_, ?_⟩
    · intro y0 y1 y2 y3
      unfold spec_l06Bytes.l0
      repeat' first
      | (with_reducible exact ih0 _ _ _ _)
      | (with_reducible exact ih1 _ _ _ _ _ _ _ _)
      | (with_reducible exact ih2 _ _ _ _ _ _ _ _)
      | (with_reducible exact spec_l03Put.mono _ _)
      | (with_reducible exact spec_l06PutNumber.mono _ _ _)
      | (with_reducible exact spec_l06PutText.mono _ _ _)
      | (with_reducible exact LeO.refl _)
      | (with_reducible exact LeO.none _)
      | (with_reducible refine LeO.ite ?_ ?_)
      | (with_reducible refine LeO.bind ?_ (fun _ => ?_))
      | exact ih0 _ _ _ _
      | exact ih1 _ _ _ _ _ _ _ _
      | exact ih2 _ _ _ _ _ _ _ _
      | exact spec_l03Put.mono _ _
      | exact spec_l06PutNumber.mono _ _ _
      | exact spec_l06PutText.mono _ _ _
      | exact LeO.none _
      | refine LeO.ite ?_ ?_
      | refine LeO.bind ?_ (fun _ => ?_)
    · intro y0 y1 y2 y3 y4 y5 y6 y7
      unfold spec_l06Bytes.l1
      repeat' first
      | (with_reducible exact ih0 _ _ _ _)
      | (with_reducible exact ih1 _ _ _ _ _ _ _ _)
      | (with_reducible exact ih2 _ _ _ _ _ _ _ _)
      | (with_reducible exact spec_l03Put.mono _ _)
      | (with_reducible exact spec_l06PutNumber.mono _ _ _)
      | (with_reducible exact spec_l06PutText.mono _ _ _)
      | (with_reducible exact LeO.refl _)
      | (with_reducible exact LeO.none _)
      | (with_reducible refine LeO.ite ?_ ?_)
      | (with_reducible refine LeO.bind ?_ (fun _ => ?_))
      | exact ih0 _ _ _ _
      | exact ih1 _ _ _ _ _ _ _ _
      | exact ih2 _ _ _ _ _ _ _ _
      | exact spec_l03Put.mono _ _
      | exact spec_l06PutNumber.mono _ _ _
      | exact spec_l06PutText.mono _ _ _
      | exact LeO.none _
      | refine LeO.ite ?_ ?_
      | refine LeO.bind ?_ (fun _ => ?_)
    · intro y0 y1 y2 y3 y4 y5 y6 y7
      unfold spec_l06Bytes.l2
      repeat' first
      | (with_reducible exact ih0 _ _ _ _)
      | (with_reducible exact ih1 _ _ _ _ _ _ _ _)
      | (with_reducible exact ih2 _ _ _ _ _ _ _ _)
      | (with_reducible exact spec_l03Put.mono _ _)
      | (with_reducible exact spec_l06PutNumber.mono _ _ _)
      | (with_reducible exact spec_l06PutText.mono _ _ _)
      | (with_reducible exact LeO.refl _)
      | (with_reducible exact LeO.none _)
      | (with_reducible refine LeO.ite ?_ ?_)
      | (with_reducible refine LeO.bind ?_ (fun _ => ?_))
      | exact ih0 _ _ _ _
      | exact ih1 _ _ _ _ _ _ _ _
      | exact ih2 _ _ _ _ _ _ _ _
      | exact spec_l03Put.mono _ _
      | exact spec_l06PutNumber.mono _ _ _
      | exact spec_l06PutText.mono _ _ _
      | exact LeO.none _
      | refine LeO.ite ?_ ?_
      | refine LeO.bind ?_ (fun _ => ?_)
theorem spec_l06Bytes.mono : ∀ a0 a1 k, LeO (spec_l06Bytes.f k a0 a1) (spec_l06Bytes.f (k + 1) a0 a1) := by
  intro a0 a1 k
  obtain ⟨ih0, ih1, ih2⟩ := spec_l06Bytes.mono_l k
  unfold spec_l06Bytes.f
  repeat' first
      | (with_reducible exact ih0 _ _ _ _)
      | (with_reducible exact ih1 _ _ _ _ _ _ _ _)
      | (with_reducible exact ih2 _ _ _ _ _ _ _ _)
      | (with_reducible exact spec_l03Put.mono _ _)
      | (with_reducible exact spec_l06PutNumber.mono _ _ _)
      | (with_reducible exact spec_l06PutText.mono _ _ _)
      | (with_reducible exact LeO.refl _)
      | (with_reducible exact LeO.none _)
      | (with_reducible refine LeO.ite ?_ ?_)
      | (with_reducible refine LeO.bind ?_ (fun _ => ?_))
      | exact ih0 _ _ _ _
      | exact ih1 _ _ _ _ _ _ _ _
      | exact ih2 _ _ _ _ _ _ _ _
      | exact spec_l03Put.mono _ _
      | exact spec_l06PutNumber.mono _ _ _
      | exact spec_l06PutText.mono _ _ _
      | exact LeO.none _
      | refine LeO.ite ?_ ?_
      | refine LeO.bind ?_ (fun _ => ?_)
end Go.Proofs.Ytndjodgcemgpfaa.Q
end

section
namespace Go.Proofs.Ytndjodgcemgpfaa.Q
open Go.RowKit Go.Proofs.YtndjodgcemgpfaaW.PrintWords Go.Proofs.YtndjodgcemgpfaaW.PrintLast Go.Proofs.YtndjodgcemgpfaaW.PrintMore
attribute [local go_sem] max2_int min2_int max_two min_two max_three min_three max_four min_four
set_option linter.unusedVariables false
set_option linter.unusedSimpArgs false
def spec_DocBytes.f (k : Nat) (a0_0 : ByteArray) (l0_1 : List (S84)) : Option (List Int × Int) := (spec_l06Fits.f k a0_0 l0_1).bind fun t187 => (if t187 = true then ((spec_l06Bytes.f k a0_0 l0_1).bind fun t188 => (some (t188, 0))) else (some ((([] : List Int)), 12)))
theorem spec_DocBytes.mono : ∀ a0 a1 k, LeO (spec_DocBytes.f k a0 a1) (spec_DocBytes.f (k + 1) a0 a1) := by
  intro a0 a1 k
  unfold spec_DocBytes.f
  repeat' first
      | (with_reducible exact spec_l06Bytes.mono _ _ _)
      | (with_reducible exact spec_l06Fits.mono _ _ _)
      | (with_reducible exact LeO.refl _)
      | (with_reducible exact LeO.none _)
      | (with_reducible refine LeO.ite ?_ ?_)
      | (with_reducible refine LeO.bind ?_ (fun _ => ?_))
      | exact spec_l06Bytes.mono _ _ _
      | exact spec_l06Fits.mono _ _ _
      | exact LeO.none _
      | refine LeO.ite ?_ ?_
      | refine LeO.bind ?_ (fun _ => ?_)
end Go.Proofs.Ytndjodgcemgpfaa.Q
end

section
namespace Go.Proofs.Ytndjodgcemgpfaa.Q
open Go.RowKit Go.Proofs.YtndjodgcemgpfaaW.PrintWords Go.Proofs.YtndjodgcemgpfaaW.PrintLast Go.Proofs.YtndjodgcemgpfaaW.PrintMore
attribute [local go_sem] max2_int min2_int max_two min_two max_three min_three max_four min_four
set_option linter.unusedVariables false
set_option linter.unusedSimpArgs false
def impl_putInt.l0 : Nat → List Int → Int → Option (List Int)
  | 0, _, _ => none
  | k + 1, x0, x1 => if x1 ≥ 128 then (if x0.length < 140737488355328 then (impl_putInt.l0 k (x0 ++ [Go.bits .or .u8 ((x1) % 256) 128]) (x1 / 128)) else (none)) else (if x0.length < 140737488355328 then (some (x0 ++ [(x1) % 256])) else (none))
def impl_putInt.f (k : Nat) (l0 : List Int) (a1 : Int) : Option (List Int) := impl_putInt.l0 k l0 a1
theorem impl_putInt.mono_l : ∀ k, (∀ y0 y1, LeO (impl_putInt.l0 k y0 y1) (impl_putInt.l0 (k + 1) y0 y1))
  | 0 => fun _ _ r h => by simp [impl_putInt.l0] at h
  | k + 1 => by
    have ih0 := impl_putInt.mono_l k
    · intro y0 y1
      unfold impl_putInt.l0
      repeat' first
      | (with_reducible exact ih0 _ _)
      | (with_reducible exact LeO.refl _)
      | (with_reducible exact LeO.none _)
      | (with_reducible refine LeO.ite ?_ ?_)
      | (with_reducible refine LeO.bind ?_ (fun _ => ?_))
      | exact ih0 _ _
      | exact LeO.none _
      | refine LeO.ite ?_ ?_
      | refine LeO.bind ?_ (fun _ => ?_)
theorem impl_putInt.mono : ∀ a0 a1 k, LeO (impl_putInt.f k a0 a1) (impl_putInt.f (k + 1) a0 a1) := by
  intro a0 a1 k
  have ih0 := impl_putInt.mono_l k
  unfold impl_putInt.f
  repeat' first
      | (with_reducible exact ih0 _ _)
      | (with_reducible exact LeO.refl _)
      | (with_reducible exact LeO.none _)
      | (with_reducible refine LeO.ite ?_ ?_)
      | (with_reducible refine LeO.bind ?_ (fun _ => ?_))
      | exact ih0 _ _
      | exact LeO.none _
      | refine LeO.ite ?_ ?_
      | refine LeO.bind ?_ (fun _ => ?_)
end Go.Proofs.Ytndjodgcemgpfaa.Q
end

section
namespace Go.Proofs.Ytndjodgcemgpfaa.Q
open Go.RowKit Go.Proofs.YtndjodgcemgpfaaW.PrintWords Go.Proofs.YtndjodgcemgpfaaW.PrintLast Go.Proofs.YtndjodgcemgpfaaW.PrintMore
attribute [local go_sem] max2_int min2_int max_two min_two max_three min_three max_four min_four
set_option linter.unusedVariables false
set_option linter.unusedSimpArgs false
def impl_putText.f (k : Nat) (l0 : List Int) (a1 : ByteArray) : Option (List Int) := (impl_putInt.f k l0 (a1.size : Int)).bind fun t237 => (if t237.length + a1.size < 140737488355328 then (some (t237 ++ bytesOf a1)) else (none))
theorem impl_putText.mono : ∀ a0 a1 k, LeO (impl_putText.f k a0 a1) (impl_putText.f (k + 1) a0 a1) := by
  intro a0 a1 k
  unfold impl_putText.f
  repeat' first
      | (with_reducible exact impl_putInt.mono _ _ _)
      | (with_reducible exact LeO.refl _)
      | (with_reducible exact LeO.none _)
      | (with_reducible refine LeO.ite ?_ ?_)
      | (with_reducible refine LeO.bind ?_ (fun _ => ?_))
      | exact impl_putInt.mono _ _ _
      | exact LeO.none _
      | refine LeO.ite ?_ ?_
      | refine LeO.bind ?_ (fun _ => ?_)
end Go.Proofs.Ytndjodgcemgpfaa.Q
end

section
namespace Go.Proofs.Ytndjodgcemgpfaa.Q
open Go.RowKit Go.Proofs.YtndjodgcemgpfaaW.PrintWords Go.Proofs.YtndjodgcemgpfaaW.PrintLast Go.Proofs.YtndjodgcemgpfaaW.PrintMore
attribute [local go_sem] max2_int min2_int max_two min_two max_three min_three max_four min_four
set_option linter.unusedVariables false
set_option linter.unusedSimpArgs false
mutual
def impl_DocBytes.j0 : Nat → Bool → ByteArray → List (S84) → Option (List Int × Int)
  | 0, _, _, _ => none
  | k + 1, x26, x244000, x244001 => if x26 = true then (some (([] : List Int), 12)) else (impl_DocBytes.l0 k x244001 (x244001.length : Int) 0 x244000 x244001)
def impl_DocBytes.l0 : Nat → List (S84) → Int → Int → ByteArray → List (S84) → Option (List Int × Int)
  | 0, _, _, _, _, _ => none
  | k + 1, x28, x29, x30, x244000, x244001 => if x30 < x29 then (if 0 ≤ x30 then (if x30 < (x28.length : Int) then (if (((rd_T84 x28 x30).f0).size : Int) > 65536 then (impl_DocBytes.j2 k x28 x29 x30 true x244000 x244001 ((rd_T84 x28 x30).f0) ((rd_T84 x28 x30).f1) ((rd_T84 x28 x30).f2)) else (if (((rd_T84 x28 x30).f1).length : Int) > 4096 then (impl_DocBytes.j2 k x28 x29 x30 true x244000 x244001 ((rd_T84 x28 x30).f0) ((rd_T84 x28 x30).f1) ((rd_T84 x28 x30).f2)) else (impl_DocBytes.j2 k x28 x29 x30 (decide ((((rd_T84 x28 x30).f2).length : Int) > 4096)) x244000 x244001 ((rd_T84 x28 x30).f0) ((rd_T84 x28 x30).f1) ((rd_T84 x28 x30).f2)))) else (none)) else (none)) else ((impl_putText.f k ([] : List Int) x244000).bind fun t249 => ((impl_putInt.f k t249 (x244001.length : Int)).bind fun t252 => (impl_DocBytes.l3 k t252 x244001 (x244001.length : Int) 0)))
def impl_DocBytes.j2 : Nat → List (S84) → Int → Int → Bool → ByteArray → List (S84) → ByteArray → List ByteArray → List Int → Option (List Int × Int)
  | 0, _, _, _, _, _, _, _, _, _ => none
  | k + 1, x28, x29, x30, x49, x244000, x244001, x246000, x246001, x246002 => if x49 = true then (some (([] : List Int), 12)) else (impl_DocBytes.l1 k x28 x29 x30 x246001 (x246001.length : Int) 0 x244000 x244001 x246000 x246001 x246002)
def impl_DocBytes.l1 : Nat → List (S84) → Int → Int → List ByteArray → Int → Int → ByteArray → List (S84) → ByteArray → List ByteArray → List Int → Option (List Int × Int)
  | 0, _, _, _, _, _, _, _, _, _, _, _ => none
  | k + 1, x28, x29, x30, x51, x52, x53, x244000, x244001, x246000, x246001, x246002 => if x53 < x52 then (if 0 ≤ x53 then (if x53 < (x51.length : Int) then (if ((rdOf ByteArray.empty x51 x53).size : Int) > 65536 then (some (([] : List Int), 12)) else (impl_DocBytes.l1 k x28 x29 x30 x51 x52 (wrap64 (x53 + 1)) x244000 x244001 x246000 x246001 x246002)) else (none)) else (none)) else (impl_DocBytes.l2 k x28 x29 x30 x246002 (x246002.length : Int) 0 x244000 x244001)
def impl_DocBytes.l2 : Nat → List (S84) → Int → Int → List Int → Int → Int → ByteArray → List (S84) → Option (List Int × Int)
  | 0, _, _, _, _, _, _, _, _ => none
  | k + 1, x28, x29, x30, x62, x63, x64, x244000, x244001 => if x64 < x63 then (if 0 ≤ x64 then (if x64 < (x62.length : Int) then ((impl_within.f (rd x62 x64) (-1000000000000) 1000000000000).bind fun t248 => (if t248 = true then (impl_DocBytes.l2 k x28 x29 x30 x62 x63 (wrap64 (x64 + 1)) x244000 x244001) else (some (([] : List Int), 12)))) else (none)) else (none)) else (impl_DocBytes.l0 k x28 x29 (wrap64 (x30 + 1)) x244000 x244001)
def impl_DocBytes.l3 : Nat → List Int → List (S84) → Int → Int → Option (List Int × Int)
  | 0, _, _, _, _ => none
  | k + 1, x10, x81, x82, x83 => if x83 < x82 then (if 0 ≤ x83 then (if x83 < (x81.length : Int) then ((impl_putText.f k x10 ((rd_T84 x81 x83).f0)).bind fun t257 => ((impl_putInt.f k t257 (((rd_T84 x81 x83).f1).length : Int)).bind fun t260 => (impl_DocBytes.l4 k t260 x81 x82 x83 ((rd_T84 x81 x83).f1) (((rd_T84 x81 x83).f1).length : Int) 0 ((rd_T84 x81 x83).f0) ((rd_T84 x81 x83).f1) ((rd_T84 x81 x83).f2)))) else (none)) else (none)) else (some (x10, 0))
def impl_DocBytes.l4 : Nat → List Int → List (S84) → Int → Int → List ByteArray → Int → Int → ByteArray → List ByteArray → List Int → Option (List Int × Int)
  | 0, _, _, _, _, _, _, _, _, _, _ => none
  | k + 1, x10, x81, x82, x83, x96, x97, x98, x257000, x257001, x257002 => if x98 < x97 then (if 0 ≤ x98 then (if x98 < (x96.length : Int) then ((impl_putText.f k x10 (rdOf ByteArray.empty x96 x98)).bind fun t264 => (impl_DocBytes.l4 k t264 x81 x82 x83 x96 x97 (wrap64 (x98 + 1)) x257000 x257001 x257002)) else (none)) else (none)) else ((impl_putInt.f k x10 (x257002.length : Int)).bind fun t267 => (impl_DocBytes.l5 k t267 x81 x82 x83 x257002 (x257002.length : Int) 0))
def impl_DocBytes.l5 : Nat → List Int → List (S84) → Int → Int → List Int → Int → Int → Option (List Int × Int)
  | 0, _, _, _, _, _, _, _ => none
  | k + 1, x10, x81, x82, x83, x112, x113, x114 => if x114 < x113 then (if 0 ≤ x114 then (if x114 < (x112.length : Int) then (if (rd x112 x114) < 0 then ((impl_putInt.f k x10 (wrap64 ((wrap64 ((-2) * (rd x112 x114))) - 1))).bind fun t271 => (impl_DocBytes.l5 k t271 x81 x82 x83 x112 x113 (wrap64 (x114 + 1)))) else ((impl_putInt.f k x10 (wrap64 (2 * (rd x112 x114)))).bind fun t274 => (impl_DocBytes.l5 k t274 x81 x82 x83 x112 x113 (wrap64 (x114 + 1))))) else (none)) else (none)) else (impl_DocBytes.l3 k x10 x81 x82 (wrap64 (x83 + 1)))
end
def impl_DocBytes.f (k : Nat) (a0_0 : ByteArray) (l0_1 : List (S84)) : Option (List Int × Int) := if (a0_0.size : Int) > 65536 then (impl_DocBytes.j0 k true a0_0 l0_1) else (impl_DocBytes.j0 k (decide ((l0_1.length : Int) > 4096)) a0_0 l0_1)
theorem impl_DocBytes.mono_l : ∀ k, (∀ y0 y1 y2, LeO (impl_DocBytes.j0 k y0 y1 y2) (impl_DocBytes.j0 (k + 1) y0 y1 y2)) ∧ (∀ y0 y1 y2 y3 y4, LeO (impl_DocBytes.l0 k y0 y1 y2 y3 y4) (impl_DocBytes.l0 (k + 1) y0 y1 y2 y3 y4)) ∧ (∀ y0 y1 y2 y3 y4 y5 y6 y7 y8, LeO (impl_DocBytes.j2 k y0 y1 y2 y3 y4 y5 y6 y7 y8) (impl_DocBytes.j2 (k + 1) y0 y1 y2 y3 y4 y5 y6 y7 y8)) ∧ (∀ y0 y1 y2 y3 y4 y5 y6 y7 y8 y9 y10, LeO (impl_DocBytes.l1 k y0 y1 y2 y3 y4 y5 y6 y7 y8 y9 y10) (impl_DocBytes.l1 (k + 1) y0 y1 y2 y3 y4 y5 y6 y7 y8 y9 y10)) ∧ (∀ y0 y1 y2 y3 y4 y5 y6 y7, LeO (impl_DocBytes.l2 k y0 y1 y2 y3 y4 y5 y6 y7) (impl_DocBytes.l2 (k + 1) y0 y1 y2 y3 y4 y5 y6 y7)) ∧ (∀ y0 y1 y2 y3, LeO (impl_DocBytes.l3 k y0 y1 y2 y3) (impl_DocBytes.l3 (k + 1) y0 y1 y2 y3)) ∧ (∀ y0 y1 y2 y3 y4 y5 y6 y7 y8 y9, LeO (impl_DocBytes.l4 k y0 y1 y2 y3 y4 y5 y6 y7 y8 y9) (impl_DocBytes.l4 (k + 1) y0 y1 y2 y3 y4 y5 y6 y7 y8 y9)) ∧ (∀ y0 y1 y2 y3 y4 y5 y6, LeO (impl_DocBytes.l5 k y0 y1 y2 y3 y4 y5 y6) (impl_DocBytes.l5 (k + 1) y0 y1 y2 y3 y4 y5 y6))
  | 0 => ⟨fun _ _ _ r h => by simp [impl_DocBytes.j0] at h, fun _ _ _ _ _ r h => by simp [impl_DocBytes.l0] at h, fun _ _ _ _ _ _ _ _ _ r h => by simp [impl_DocBytes.j2] at h, fun _ _ _ _ _ _ _ _ _ _ _ r h => by simp [impl_DocBytes.l1] at h, fun _ _ _ _ _ _ _ _ r h => by simp [impl_DocBytes.l2] at h, fun _ _ _ _ r h => by simp [impl_DocBytes.l3] at h, fun _ _ _ _ _ _ _ _ _ _ r h => by simp [impl_DocBytes.l4] at h, fun _ _ _ _ _ _ _ r h => by simp [impl_DocBytes.l5] at h⟩
  | k + 1 => by
    obtain ⟨ih0, ih1, ih2, ih3, ih4, ih5, ih6, ih7⟩ := impl_DocBytes.mono_l k
    refine ⟨?_, ?_, ?_, ?_, ?_, ?_, ?_, ?_⟩
    · intro y0 y1 y2
      unfold impl_DocBytes.j0
      repeat' first
      | (with_reducible exact ih0 _ _ _)
      | (with_reducible exact ih1 _ _ _ _ _)
      | (with_reducible exact ih2 _ _ _ _ _ _ _ _ _)
      | (with_reducible exact ih3 _ _ _ _ _ _ _ _ _ _ _)
      | (with_reducible exact ih4 _ _ _ _ _ _ _ _)
      | (with_reducible exact ih5 _ _ _ _)
      | (with_reducible exact ih6 _ _ _ _ _ _ _ _ _ _)
      | (with_reducible exact ih7 _ _ _ _ _ _ _)
      | (with_reducible exact impl_putInt.mono _ _ _)
      | (with_reducible exact impl_putText.mono _ _ _)
      | (with_reducible exact LeO.refl _)
      | (with_reducible exact LeO.none _)
      | (with_reducible refine LeO.ite ?_ ?_)
      | (with_reducible refine LeO.bind ?_ (fun _ => ?_))
      | exact ih0 _ _ _
      | exact ih1 _ _ _ _ _
      | exact ih2 _ _ _ _ _ _ _ _ _
      | exact ih3 _ _ _ _ _ _ _ _ _ _ _
      | exact ih4 _ _ _ _ _ _ _ _
      | exact ih5 _ _ _ _
      | exact ih6 _ _ _ _ _ _ _ _ _ _
      | exact ih7 _ _ _ _ _ _ _
      | exact impl_putInt.mono _ _ _
      | exact impl_putText.mono _ _ _
      | exact LeO.none _
      | refine LeO.ite ?_ ?_
      | refine LeO.bind ?_ (fun _ => ?_)
    · intro y0 y1 y2 y3 y4
      unfold impl_DocBytes.l0
      repeat' first
      | (with_reducible exact ih0 _ _ _)
      | (with_reducible exact ih1 _ _ _ _ _)
      | (with_reducible exact ih2 _ _ _ _ _ _ _ _ _)
      | (with_reducible exact ih3 _ _ _ _ _ _ _ _ _ _ _)
      | (with_reducible exact ih4 _ _ _ _ _ _ _ _)
      | (with_reducible exact ih5 _ _ _ _)
      | (with_reducible exact ih6 _ _ _ _ _ _ _ _ _ _)
      | (with_reducible exact ih7 _ _ _ _ _ _ _)
      | (with_reducible exact impl_putInt.mono _ _ _)
      | (with_reducible exact impl_putText.mono _ _ _)
      | (with_reducible exact LeO.refl _)
      | (with_reducible exact LeO.none _)
      | (with_reducible refine LeO.ite ?_ ?_)
      | (with_reducible refine LeO.bind ?_ (fun _ => ?_))
      | exact ih0 _ _ _
      | exact ih1 _ _ _ _ _
      | exact ih2 _ _ _ _ _ _ _ _ _
      | exact ih3 _ _ _ _ _ _ _ _ _ _ _
      | exact ih4 _ _ _ _ _ _ _ _
      | exact ih5 _ _ _ _
      | exact ih6 _ _ _ _ _ _ _ _ _ _
      | exact ih7 _ _ _ _ _ _ _
      | exact impl_putInt.mono _ _ _
      | exact impl_putText.mono _ _ _
      | exact LeO.none _
      | refine LeO.ite ?_ ?_
      | refine LeO.bind ?_ (fun _ => ?_)
    · intro y0 y1 y2 y3 y4 y5 y6 y7 y8
      unfold impl_DocBytes.j2
      repeat' first
      | (with_reducible exact ih0 _ _ _)
      | (with_reducible exact ih1 _ _ _ _ _)
      | (with_reducible exact ih2 _ _ _ _ _ _ _ _ _)
      | (with_reducible exact ih3 _ _ _ _ _ _ _ _ _ _ _)
      | (with_reducible exact ih4 _ _ _ _ _ _ _ _)
      | (with_reducible exact ih5 _ _ _ _)
      | (with_reducible exact ih6 _ _ _ _ _ _ _ _ _ _)
      | (with_reducible exact ih7 _ _ _ _ _ _ _)
      | (with_reducible exact impl_putInt.mono _ _ _)
      | (with_reducible exact impl_putText.mono _ _ _)
      | (with_reducible exact LeO.refl _)
      | (with_reducible exact LeO.none _)
      | (with_reducible refine LeO.ite ?_ ?_)
      | (with_reducible refine LeO.bind ?_ (fun _ => ?_))
      | exact ih0 _ _ _
      | exact ih1 _ _ _ _ _
      | exact ih2 _ _ _ _ _ _ _ _ _
      | exact ih3 _ _ _ _ _ _ _ _ _ _ _
      | exact ih4 _ _ _ _ _ _ _ _
      | exact ih5 _ _ _ _
      | exact ih6 _ _ _ _ _ _ _ _ _ _
      | exact ih7 _ _ _ _ _ _ _
      | exact impl_putInt.mono _ _ _
      | exact impl_putText.mono _ _ _
      | exact LeO.none _
      | refine LeO.ite ?_ ?_
      | refine LeO.bind ?_ (fun _ => ?_)
    · intro y0 y1 y2 y3 y4 y5 y6 y7 y8 y9 y10
      unfold impl_DocBytes.l1
      repeat' first
      | (with_reducible exact ih0 _ _ _)
      | (with_reducible exact ih1 _ _ _ _ _)
      | (with_reducible exact ih2 _ _ _ _ _ _ _ _ _)
      | (with_reducible exact ih3 _ _ _ _ _ _ _ _ _ _ _)
      | (with_reducible exact ih4 _ _ _ _ _ _ _ _)
      | (with_reducible exact ih5 _ _ _ _)
      | (with_reducible exact ih6 _ _ _ _ _ _ _ _ _ _)
      | (with_reducible exact ih7 _ _ _ _ _ _ _)
      | (with_reducible exact impl_putInt.mono _ _ _)
      | (with_reducible exact impl_putText.mono _ _ _)
      | (with_reducible exact LeO.refl _)
      | (with_reducible exact LeO.none _)
      | (with_reducible refine LeO.ite ?_ ?_)
      | (with_reducible refine LeO.bind ?_ (fun _ => ?_))
      | exact ih0 _ _ _
      | exact ih1 _ _ _ _ _
      | exact ih2 _ _ _ _ _ _ _ _ _
      | exact ih3 _ _ _ _ _ _ _ _ _ _ _
      | exact ih4 _ _ _ _ _ _ _ _
      | exact ih5 _ _ _ _
      | exact ih6 _ _ _ _ _ _ _ _ _ _
      | exact ih7 _ _ _ _ _ _ _
      | exact impl_putInt.mono _ _ _
      | exact impl_putText.mono _ _ _
      | exact LeO.none _
      | refine LeO.ite ?_ ?_
      | refine LeO.bind ?_ (fun _ => ?_)
    · intro y0 y1 y2 y3 y4 y5 y6 y7
      unfold impl_DocBytes.l2
      repeat' first
      | (with_reducible exact ih0 _ _ _)
      | (with_reducible exact ih1 _ _ _ _ _)
      | (with_reducible exact ih2 _ _ _ _ _ _ _ _ _)
      | (with_reducible exact ih3 _ _ _ _ _ _ _ _ _ _ _)
      | (with_reducible exact ih4 _ _ _ _ _ _ _ _)
      | (with_reducible exact ih5 _ _ _ _)
      | (with_reducible exact ih6 _ _ _ _ _ _ _ _ _ _)
      | (with_reducible exact ih7 _ _ _ _ _ _ _)
      | (with_reducible exact impl_putInt.mono _ _ _)
      | (with_reducible exact impl_putText.mono _ _ _)
      | (with_reducible exact LeO.refl _)
      | (with_reducible exact LeO.none _)
      | (with_reducible refine LeO.ite ?_ ?_)
      | (with_reducible refine LeO.bind ?_ (fun _ => ?_))
      | exact ih0 _ _ _
      | exact ih1 _ _ _ _ _
      | exact ih2 _ _ _ _ _ _ _ _ _
      | exact ih3 _ _ _ _ _ _ _ _ _ _ _
      | exact ih4 _ _ _ _ _ _ _ _
      | exact ih5 _ _ _ _
      | exact ih6 _ _ _ _ _ _ _ _ _ _
      | exact ih7 _ _ _ _ _ _ _
      | exact impl_putInt.mono _ _ _
      | exact impl_putText.mono _ _ _
      | exact LeO.none _
      | refine LeO.ite ?_ ?_
      | refine LeO.bind ?_ (fun _ => ?_)
    · intro y0 y1 y2 y3
      unfold impl_DocBytes.l3
      repeat' first
      | (with_reducible exact ih0 _ _ _)
      | (with_reducible exact ih1 _ _ _ _ _)
      | (with_reducible exact ih2 _ _ _ _ _ _ _ _ _)
      | (with_reducible exact ih3 _ _ _ _ _ _ _ _ _ _ _)
      | (with_reducible exact ih4 _ _ _ _ _ _ _ _)
      | (with_reducible exact ih5 _ _ _ _)
      | (with_reducible exact ih6 _ _ _ _ _ _ _ _ _ _)
      | (with_reducible exact ih7 _ _ _ _ _ _ _)
      | (with_reducible exact impl_putInt.mono _ _ _)
      | (with_reducible exact impl_putText.mono _ _ _)
      | (with_reducible exact LeO.refl _)
      | (with_reducible exact LeO.none _)
      | (with_reducible refine LeO.ite ?_ ?_)
      | (with_reducible refine LeO.bind ?_ (fun _ => ?_))
      | exact ih0 _ _ _
      | exact ih1 _ _ _ _ _
      | exact ih2 _ _ _ _ _ _ _ _ _
      | exact ih3 _ _ _ _ _ _ _ _ _ _ _
      | exact ih4 _ _ _ _ _ _ _ _
      | exact ih5 _ _ _ _
      | exact ih6 _ _ _ _ _ _ _ _ _ _
      | exact ih7 _ _ _ _ _ _ _
      | exact impl_putInt.mono _ _ _
      | exact impl_putText.mono _ _ _
      | exact LeO.none _
      | refine LeO.ite ?_ ?_
      | refine LeO.bind ?_ (fun _ => ?_)
    · intro y0 y1 y2 y3 y4 y5 y6 y7 y8 y9
      unfold impl_DocBytes.l4
      repeat' first
      | (with_reducible exact ih0 _ _ _)
      | (with_reducible exact ih1 _ _ _ _ _)
      | (with_reducible exact ih2 _ _ _ _ _ _ _ _ _)
      | (with_reducible exact ih3 _ _ _ _ _ _ _ _ _ _ _)
      | (with_reducible exact ih4 _ _ _ _ _ _ _ _)
      | (with_reducible exact ih5 _ _ _ _)
      | (with_reducible exact ih6 _ _ _ _ _ _ _ _ _ _)
      | (with_reducible exact ih7 _ _ _ _ _ _ _)
      | (with_reducible exact impl_putInt.mono _ _ _)
      | (with_reducible exact impl_putText.mono _ _ _)
      | (with_reducible exact LeO.refl _)
      | (with_reducible exact LeO.none _)
      | (with_reducible refine LeO.ite ?_ ?_)
      | (with_reducible refine LeO.bind ?_ (fun _ => ?_))
      | exact ih0 _ _ _
      | exact ih1 _ _ _ _ _
      | exact ih2 _ _ _ _ _ _ _ _ _
      | exact ih3 _ _ _ _ _ _ _ _ _ _ _
      | exact ih4 _ _ _ _ _ _ _ _
      | exact ih5 _ _ _ _
      | exact ih6 _ _ _ _ _ _ _ _ _ _
      | exact ih7 _ _ _ _ _ _ _
      | exact impl_putInt.mono _ _ _
      | exact impl_putText.mono _ _ _
      | exact LeO.none _
      | refine LeO.ite ?_ ?_
      | refine LeO.bind ?_ (fun _ => ?_)
    · intro y0 y1 y2 y3 y4 y5 y6
      unfold impl_DocBytes.l5
      repeat' first
      | (with_reducible exact ih0 _ _ _)
      | (with_reducible exact ih1 _ _ _ _ _)
      | (with_reducible exact ih2 _ _ _ _ _ _ _ _ _)
      | (with_reducible exact ih3 _ _ _ _ _ _ _ _ _ _ _)
      | (with_reducible exact ih4 _ _ _ _ _ _ _ _)
      | (with_reducible exact ih5 _ _ _ _)
      | (with_reducible exact ih6 _ _ _ _ _ _ _ _ _ _)
      | (with_reducible exact ih7 _ _ _ _ _ _ _)
      | (with_reducible exact impl_putInt.mono _ _ _)
      | (with_reducible exact impl_putText.mono _ _ _)
      | (with_reducible exact LeO.refl _)
      | (with_reducible exact LeO.none _)
      | (with_reducible refine LeO.ite ?_ ?_)
      | (with_reducible refine LeO.bind ?_ (fun _ => ?_))
      | exact ih0 _ _ _
      | exact ih1 _ _ _ _ _
      | exact ih2 _ _ _ _ _ _ _ _ _
      | exact ih3 _ _ _ _ _ _ _ _ _ _ _
      | exact ih4 _ _ _ _ _ _ _ _
      | exact ih5 _ _ _ _
      | exact ih6 _ _ _ _ _ _ _ _ _ _
      | exact ih7 _ _ _ _ _ _ _
      | exact impl_putInt.mono _ _ _
      | exact impl_putText.mono _ _ _
      | exact LeO.none _
      | refine LeO.ite ?_ ?_
      | refine LeO.bind ?_ (fun _ => ?_)
theorem impl_DocBytes.mono : ∀ a0 a1 k, LeO (impl_DocBytes.f k a0 a1) (impl_DocBytes.f (k + 1) a0 a1) := by
  intro a0 a1 k
  obtain ⟨ih0, ih1, ih2, ih3, ih4, ih5, ih6, ih7⟩ := impl_DocBytes.mono_l k
  unfold impl_DocBytes.f
  repeat' first
      | (with_reducible exact ih0 _ _ _)
      | (with_reducible exact ih1 _ _ _ _ _)
      | (with_reducible exact ih2 _ _ _ _ _ _ _ _ _)
      | (with_reducible exact ih3 _ _ _ _ _ _ _ _ _ _ _)
      | (with_reducible exact ih4 _ _ _ _ _ _ _ _)
      | (with_reducible exact ih5 _ _ _ _)
      | (with_reducible exact ih6 _ _ _ _ _ _ _ _ _ _)
      | (with_reducible exact ih7 _ _ _ _ _ _ _)
      | (with_reducible exact impl_putInt.mono _ _ _)
      | (with_reducible exact impl_putText.mono _ _ _)
      | (with_reducible exact LeO.refl _)
      | (with_reducible exact LeO.none _)
      | (with_reducible refine LeO.ite ?_ ?_)
      | (with_reducible refine LeO.bind ?_ (fun _ => ?_))
      | exact ih0 _ _ _
      | exact ih1 _ _ _ _ _
      | exact ih2 _ _ _ _ _ _ _ _ _
      | exact ih3 _ _ _ _ _ _ _ _ _ _ _
      | exact ih4 _ _ _ _ _ _ _ _
      | exact ih5 _ _ _ _
      | exact ih6 _ _ _ _ _ _ _ _ _ _
      | exact ih7 _ _ _ _ _ _ _
      | exact impl_putInt.mono _ _ _
      | exact impl_putText.mono _ _ _
      | exact LeO.none _
      | refine LeO.ite ?_ ?_
      | refine LeO.bind ?_ (fun _ => ?_)
end Go.Proofs.Ytndjodgcemgpfaa.Q
end

section
namespace Go.Proofs.Ytndjodgcemgpfaa.Q
open Go.RowKit Go.Proofs.YtndjodgcemgpfaaW.PrintWords Go.Proofs.YtndjodgcemgpfaaW.PrintLast Go.Proofs.YtndjodgcemgpfaaW.PrintMore
attribute [local go_sem] max2_int min2_int max_two min_two max_three min_three max_four min_four
set_option linter.unusedVariables false
set_option linter.unusedSimpArgs false
def laws_szRecord.f (k : Nat) (a0_0 : Int) (a0_1 : Int) (a0_2 : ByteArray) (a0_3 : ByteArray) (l0_4 : List (S134)) (a1 : Int) : Option (Int) := if (wrap64 (a1 - (a0_2.size : Int))) < 0 then (some (-1)) else ((laws_szDoc.f k a0_3 l0_4 (wrap64 (a1 - (a0_2.size : Int)))).bind fun t452 => (if t452 < 0 then (some (-1)) else (some t452)))
theorem laws_szRecord.mono : ∀ a0 a1 a2 a3 a4 a5 k, LeO (laws_szRecord.f k a0 a1 a2 a3 a4 a5) (laws_szRecord.f (k + 1) a0 a1 a2 a3 a4 a5) := by
  intro a0 a1 a2 a3 a4 a5 k
  unfold laws_szRecord.f
  repeat' first
      | (with_reducible exact laws_szDoc.mono _ _ _ _)
      | (with_reducible exact LeO.refl _)
      | (with_reducible exact LeO.none _)
      | (with_reducible refine LeO.ite ?_ ?_)
      | (with_reducible refine LeO.bind ?_ (fun _ => ?_))
      | exact laws_szDoc.mono _ _ _ _
      | exact LeO.none _
      | refine LeO.ite ?_ ?_
      | refine LeO.bind ?_ (fun _ => ?_)
end Go.Proofs.Ytndjodgcemgpfaa.Q
end

section
namespace Go.Proofs.Ytndjodgcemgpfaa.Q
open Go.RowKit Go.Proofs.YtndjodgcemgpfaaW.PrintWords Go.Proofs.YtndjodgcemgpfaaW.PrintLast Go.Proofs.YtndjodgcemgpfaaW.PrintMore
attribute [local go_sem] max2_int min2_int max_two min_two max_three min_three max_four min_four
set_option linter.unusedVariables false
set_option linter.unusedSimpArgs false
def spec_l06Id.l0 : Nat → ByteArray → Int → Option (Bool)
  | 0, _, _ => none
  | k + 1, x0, x3 => if x3 < (x0.size : Int) then (if 0 ≤ x3 then (if (bt x0 x3) < 33 then (some false) else (if (bt x0 x3) > 126 then (some false) else (spec_l06Id.l0 k x0 (wrap64 (x3 + 1))))) else (none)) else (if (x0.size : Int) ≥ 1 then (some (decide ((x0.size : Int) ≤ 30))) else (some false))
def spec_l06Id.f (k : Nat) (a0 : ByteArray) : Option (Bool) := spec_l06Id.l0 k a0 0
theorem spec_l06Id.mono_l : ∀ k, (∀ y0 y1, LeO (spec_l06Id.l0 k y0 y1) (spec_l06Id.l0 (k + 1) y0 y1))
  | 0 => fun _ _ r h => by simp [spec_l06Id.l0] at h
  | k + 1 => by
    have ih0 := spec_l06Id.mono_l k
    · intro y0 y1
      unfold spec_l06Id.l0
      repeat' first
      | (with_reducible exact ih0 _ _)
      | (with_reducible exact LeO.refl _)
      | (with_reducible exact LeO.none _)
      | (with_reducible refine LeO.ite ?_ ?_)
      | (with_reducible refine LeO.bind ?_ (fun _ => ?_))
      | exact ih0 _ _
      | exact LeO.none _
      | refine LeO.ite ?_ ?_
      | refine LeO.bind ?_ (fun _ => ?_)
theorem spec_l06Id.mono : ∀ a0 k, LeO (spec_l06Id.f k a0) (spec_l06Id.f (k + 1) a0) := by
  intro a0 k
  have ih0 := spec_l06Id.mono_l k
  unfold spec_l06Id.f
  repeat' first
      | (with_reducible exact ih0 _ _)
      | (with_reducible exact LeO.refl _)
      | (with_reducible exact LeO.none _)
      | (with_reducible refine LeO.ite ?_ ?_)
      | (with_reducible refine LeO.bind ?_ (fun _ => ?_))
      | exact ih0 _ _
      | exact LeO.none _
      | refine LeO.ite ?_ ?_
      | refine LeO.bind ?_ (fun _ => ?_)
end Go.Proofs.Ytndjodgcemgpfaa.Q
end

section
namespace Go.Proofs.Ytndjodgcemgpfaa.Q
open Go.RowKit Go.Proofs.YtndjodgcemgpfaaW.PrintWords Go.Proofs.YtndjodgcemgpfaaW.PrintLast Go.Proofs.YtndjodgcemgpfaaW.PrintMore
attribute [local go_sem] max2_int min2_int max_two min_two max_three min_three max_four min_four
set_option linter.unusedVariables false
set_option linter.unusedSimpArgs false
def spec_l14EmptyDoc.f (a0_0 : ByteArray) (l0_1 : List (S84)) : Option (Bool) := if a0_0.toList = ([] : List UInt8) then (some ((l0_1.length : Int) == 0)) else (some false)
end Go.Proofs.Ytndjodgcemgpfaa.Q
end

section
namespace Go.Proofs.Ytndjodgcemgpfaa.Q
open Go.RowKit Go.Proofs.YtndjodgcemgpfaaW.PrintWords Go.Proofs.YtndjodgcemgpfaaW.PrintLast Go.Proofs.YtndjodgcemgpfaaW.PrintMore
attribute [local go_sem] max2_int min2_int max_two min_two max_three min_three max_four min_four
set_option linter.unusedVariables false
set_option linter.unusedSimpArgs false
def spec_l14RecordOK.j0 : Nat → Bool → Int → Int → ByteArray → ByteArray → List (S84) → Option (Bool)
  | 0, _, _, _, _, _, _ => none
  | k + 1, x10, x455000, x455001, x455002, x455003, x455004 => if x10 = true then (some false) else (if x455000 = 1 then (if x455002.toList = ([] : List UInt8) then ((spec_l06Id.f k x455003).bind fun t455 => (if t455 = true then ((spec_l06Fits.f k x455003 x455004).bind fun t456 => (some t456)) else (some false))) else (some false)) else (if x455000 = 2 then ((spec_l06Id.f k x455002).bind fun t457 => (if t457 = true then ((spec_l14EmptyDoc.f x455003 x455004).bind fun t458 => (some t458)) else (some false))) else (some false)))
def spec_l14RecordOK.f (k : Nat) (a0_0 : Int) (a0_1 : Int) (a0_2 : ByteArray) (a0_3 : ByteArray) (l0_4 : List (S84)) : Option (Bool) := if a0_1 < 1 then (spec_l14RecordOK.j0 k true a0_0 a0_1 a0_2 a0_3 l0_4) else (spec_l14RecordOK.j0 k (decide (a0_1 > 4611686018427387903)) a0_0 a0_1 a0_2 a0_3 l0_4)
theorem spec_l14RecordOK.mono_l : ∀ k, (∀ y0 y1 y2 y3 y4 y5, LeO (spec_l14RecordOK.j0 k y0 y1 y2 y3 y4 y5) (spec_l14RecordOK.j0 (k + 1) y0 y1 y2 y3 y4 y5))
  | 0 => fun _ _ _ _ _ _ r h => by simp [spec_l14RecordOK.j0] at h
  | k + 1 => by
    have ih0 := spec_l14RecordOK.mono_l k
    · intro y0 y1 y2 y3 y4 y5
      unfold spec_l14RecordOK.j0
      repeat' first
      | (with_reducible exact ih0 _ _ _ _ _ _)
      | (with_reducible exact spec_l06Fits.mono _ _ _)
      | (with_reducible exact spec_l06Id.mono _ _)
      | (with_reducible exact LeO.refl _)
      | (with_reducible exact LeO.none _)
      | (with_reducible refine LeO.ite ?_ ?_)
      | (with_reducible refine LeO.bind ?_ (fun _ => ?_))
      | exact ih0 _ _ _ _ _ _
      | exact spec_l06Fits.mono _ _ _
      | exact spec_l06Id.mono _ _
      | exact LeO.none _
      | refine LeO.ite ?_ ?_
      | refine LeO.bind ?_ (fun _ => ?_)
theorem spec_l14RecordOK.mono : ∀ a0 a1 a2 a3 a4 k, LeO (spec_l14RecordOK.f k a0 a1 a2 a3 a4) (spec_l14RecordOK.f (k + 1) a0 a1 a2 a3 a4) := by
  intro a0 a1 a2 a3 a4 k
  have ih0 := spec_l14RecordOK.mono_l k
  unfold spec_l14RecordOK.f
  repeat' first
      | (with_reducible exact ih0 _ _ _ _ _ _)
      | (with_reducible exact spec_l06Fits.mono _ _ _)
      | (with_reducible exact spec_l06Id.mono _ _)
      | (with_reducible exact LeO.refl _)
      | (with_reducible exact LeO.none _)
      | (with_reducible refine LeO.ite ?_ ?_)
      | (with_reducible refine LeO.bind ?_ (fun _ => ?_))
      | exact ih0 _ _ _ _ _ _
      | exact spec_l06Fits.mono _ _ _
      | exact spec_l06Id.mono _ _
      | exact LeO.none _
      | refine LeO.ite ?_ ?_
      | refine LeO.bind ?_ (fun _ => ?_)
end Go.Proofs.Ytndjodgcemgpfaa.Q
end

section
namespace Go.Proofs.Ytndjodgcemgpfaa.Q
open Go.RowKit Go.Proofs.YtndjodgcemgpfaaW.PrintWords Go.Proofs.YtndjodgcemgpfaaW.PrintLast Go.Proofs.YtndjodgcemgpfaaW.PrintMore
attribute [local go_sem] max2_int min2_int max_two min_two max_three min_three max_four min_four
set_option linter.unusedVariables false
set_option linter.unusedSimpArgs false
def spec_l04Four.f (a0 : Int) : Option (List Int) := some (([(wrap64 (Int.tdiv a0 16777216)) % 256, (Int.tmod (wrap64 (Int.tdiv a0 65536)) 256) % 256, (Int.tmod (wrap64 (Int.tdiv a0 256)) 256) % 256, (Int.tmod a0 256) % 256] : List Int))
end Go.Proofs.Ytndjodgcemgpfaa.Q
end

section
namespace Go.Proofs.Ytndjodgcemgpfaa.Q
open Go.RowKit Go.Proofs.YtndjodgcemgpfaaW.PrintWords Go.Proofs.YtndjodgcemgpfaaW.PrintLast Go.Proofs.YtndjodgcemgpfaaW.PrintMore
attribute [local go_sem] max2_int min2_int max_two min_two max_three min_three max_four min_four
set_option linter.unusedVariables false
set_option linter.unusedSimpArgs false
def spec_Sum32.l0 : Nat → List Int → Int → Int → Option (Int)
  | 0, _, _, _ => none
  | k + 1, x0, x3, x4 => if x4 < (x0.length : Int) then (if 0 ≤ x4 then (spec_Sum32.l0 k x0 (Int.tmod (wrap64 ((Go.bits .xor .i64 x3 (wrap64 (rd x0 x4))) * 16777619)) 4294967296) (wrap64 (x4 + 1))) else (none)) else (some x3)
def spec_Sum32.f (k : Nat) (l0 : List Int) : Option (Int) := if (l0.length : Int) > 1048576 then (some 0) else (spec_Sum32.l0 k l0 2166136261 0)
theorem spec_Sum32.mono_l : ∀ k, (∀ y0 y1 y2, LeO (spec_Sum32.l0 k y0 y1 y2) (spec_Sum32.l0 (k + 1) y0 y1 y2))
  | 0 => fun _ _ _ r h => by simp [spec_Sum32.l0] at h
  | k + 1 => by
    have ih0 := spec_Sum32.mono_l k
    · intro y0 y1 y2
      unfold spec_Sum32.l0
      repeat' first
      | (with_reducible exact ih0 _ _ _)
      | (with_reducible exact LeO.refl _)
      | (with_reducible exact LeO.none _)
      | (with_reducible refine LeO.ite ?_ ?_)
      | (with_reducible refine LeO.bind ?_ (fun _ => ?_))
      | exact ih0 _ _ _
      | exact LeO.none _
      | refine LeO.ite ?_ ?_
      | refine LeO.bind ?_ (fun _ => ?_)
theorem spec_Sum32.mono : ∀ a0 k, LeO (spec_Sum32.f k a0) (spec_Sum32.f (k + 1) a0) := by
  intro a0 k
  have ih0 := spec_Sum32.mono_l k
  unfold spec_Sum32.f
  repeat' first
      | (with_reducible exact ih0 _ _ _)
      | (with_reducible exact LeO.refl _)
      | (with_reducible exact LeO.none _)
      | (with_reducible refine LeO.ite ?_ ?_)
      | (with_reducible refine LeO.bind ?_ (fun _ => ?_))
      | exact ih0 _ _ _
      | exact LeO.none _
      | refine LeO.ite ?_ ?_
      | refine LeO.bind ?_ (fun _ => ?_)
end Go.Proofs.Ytndjodgcemgpfaa.Q
end

section
namespace Go.Proofs.Ytndjodgcemgpfaa.Q
open Go.RowKit Go.Proofs.YtndjodgcemgpfaaW.PrintWords Go.Proofs.YtndjodgcemgpfaaW.PrintLast Go.Proofs.YtndjodgcemgpfaaW.PrintMore
attribute [local go_sem] max2_int min2_int max_two min_two max_three min_three max_four min_four
set_option linter.unusedVariables false
set_option linter.unusedSimpArgs false
def spec_l14Bytes.f (k : Nat) (a0_0 : Int) (a0_1 : Int) (a0_2 : ByteArray) (a0_3 : ByteArray) (l0_4 : List (S84)) : Option (List Int) := (some (([(a0_0) % 256] : List Int) : List Int)).bind fun y464 => ((spec_l03Put.f k a0_1).bind fun t467 => (if y464.length + t467.length < 140737488355328 then ((some (y464 ++ t467 : List Int)).bind fun y470 => (if a0_0 = 1 then ((spec_l06Bytes.f k a0_3 l0_4).bind fun t473 => (if y470.length + t473.length < 140737488355328 then ((some (y470 ++ t473 : List Int)).bind fun y476 => ((spec_l03Put.f k (y476.length : Int)).bind fun t479 => (if t479.length + y476.length < 140737488355328 then ((some (t479 ++ y476 : List Int)).bind fun y482 => ((spec_Sum32.f k y476).bind fun t485 => ((spec_l04Four.f t485).bind fun t486 => (if y482.length + t486.length < 140737488355328 then (some (y482 ++ t486)) else (none))))) else (none)))) else (none))) else (if y470.length + a0_2.size < 140737488355328 then ((some (y470 ++ bytesOf a0_2 : List Int)).bind fun y492 => ((spec_l03Put.f k (y492.length : Int)).bind fun t495 => (if t495.length + y492.length < 140737488355328 then ((some (t495 ++ y492 : List Int)).bind fun y498 => ((spec_Sum32.f k y492).bind fun t501 => ((spec_l04Four.f t501).bind fun t502 => (if y498.length + t502.length < 140737488355328 then (some (y498 ++ t502)) else (none))))) else (none)))) else (none)))) else (none)))
theorem spec_l14Bytes.mono : ∀ a0 a1 a2 a3 a4 k, LeO (spec_l14Bytes.f k a0 a1 a2 a3 a4) (spec_l14Bytes.f (k + 1) a0 a1 a2 a3 a4) := by
  intro a0 a1 a2 a3 a4 k
  unfold spec_l14Bytes.f
  repeat' first
      | (with_reducible exact spec_Sum32.mono _ _)
      | (with_reducible exact spec_l03Put.mono _ _)
      | (with_reducible exact spec_l06Bytes.mono _ _ _)
      | (with_reducible exact LeO.refl _)
      | (with_reducible exact LeO.none _)
      | (with_reducible refine LeO.ite ?_ ?_)
      | (with_reducible refine LeO.bind ?_ (fun _ => ?_))
      | exact spec_Sum32.mono _ _
      | exact spec_l03Put.mono _ _
      | exact spec_l06Bytes.mono _ _ _
      | exact LeO.none _
      | refine LeO.ite ?_ ?_
      | refine LeO.bind ?_ (fun _ => ?_)
end Go.Proofs.Ytndjodgcemgpfaa.Q
end

section
namespace Go.Proofs.Ytndjodgcemgpfaa.Q
open Go.RowKit Go.Proofs.YtndjodgcemgpfaaW.PrintWords Go.Proofs.YtndjodgcemgpfaaW.PrintLast Go.Proofs.YtndjodgcemgpfaaW.PrintMore
attribute [local go_sem] max2_int min2_int max_two min_two max_three min_three max_four min_four
set_option linter.unusedVariables false
set_option linter.unusedSimpArgs false
def spec_RecordBytes.f (k : Nat) (a0_0 : Int) (a0_1 : Int) (a0_2 : ByteArray) (a0_3 : ByteArray) (l0_4 : List (S84)) : Option (List Int × Int) := (spec_l14RecordOK.f k a0_0 a0_1 a0_2 a0_3 l0_4).bind fun t509 => (if t509 = true then ((spec_l14Bytes.f k a0_0 a0_1 a0_2 a0_3 l0_4).bind fun t510 => (if (t510.length : Int) > 1048576 then (some ((([] : List Int)), 2)) else (some (t510, 0)))) else (some ((([] : List Int)), 1)))
theorem spec_RecordBytes.mono : ∀ a0 a1 a2 a3 a4 k, LeO (spec_RecordBytes.f k a0 a1 a2 a3 a4) (spec_RecordBytes.f (k + 1) a0 a1 a2 a3 a4) := by
  intro a0 a1 a2 a3 a4 k
  unfold spec_RecordBytes.f
  repeat' first
      | (with_reducible exact spec_l14Bytes.mono _ _ _ _ _ _)
      | (with_reducible exact spec_l14RecordOK.mono _ _ _ _ _ _)
      | (with_reducible exact LeO.refl _)
      | (with_reducible exact LeO.none _)
      | (with_reducible refine LeO.ite ?_ ?_)
      | (with_reducible refine LeO.bind ?_ (fun _ => ?_))
      | exact spec_l14Bytes.mono _ _ _ _ _ _
      | exact spec_l14RecordOK.mono _ _ _ _ _ _
      | exact LeO.none _
      | refine LeO.ite ?_ ?_
      | refine LeO.bind ?_ (fun _ => ?_)
end Go.Proofs.Ytndjodgcemgpfaa.Q
end

section
namespace Go.Proofs.Ytndjodgcemgpfaa.Q
open Go.RowKit Go.Proofs.YtndjodgcemgpfaaW.PrintWords Go.Proofs.YtndjodgcemgpfaaW.PrintLast Go.Proofs.YtndjodgcemgpfaaW.PrintMore
attribute [local go_sem] max2_int min2_int max_two min_two max_three min_three max_four min_four
set_option linter.unusedVariables false
set_option linter.unusedSimpArgs false
def laws_toRecord.f (k : Nat) (a0_0 : Int) (a0_1 : Int) (a0_2 : ByteArray) (a0_3 : ByteArray) (l0_4 : List (S134)) : Option (Int × Int × ByteArray × ByteArray × (List (S84))) := (laws_toDoc.f k a0_3 l0_4).bind fun bt522 => (some (a0_0, a0_1, a0_2, bt522.1, bt522.2))
theorem laws_toRecord.mono : ∀ a0 a1 a2 a3 a4 k, LeO (laws_toRecord.f k a0 a1 a2 a3 a4) (laws_toRecord.f (k + 1) a0 a1 a2 a3 a4) := by
  intro a0 a1 a2 a3 a4 k
  unfold laws_toRecord.f
  repeat' first
      | (with_reducible exact laws_toDoc.mono _ _ _)
      | (with_reducible exact LeO.refl _)
      | (with_reducible exact LeO.none _)
      | (with_reducible refine LeO.ite ?_ ?_)
      | (with_reducible refine LeO.bind ?_ (fun _ => ?_))
      | exact laws_toDoc.mono _ _ _
      | exact LeO.none _
      | refine LeO.ite ?_ ?_
      | refine LeO.bind ?_ (fun _ => ?_)
end Go.Proofs.Ytndjodgcemgpfaa.Q
end

section
namespace Go.Proofs.Ytndjodgcemgpfaa.Q
open Go.RowKit Go.Proofs.YtndjodgcemgpfaaW.PrintWords Go.Proofs.YtndjodgcemgpfaaW.PrintLast Go.Proofs.YtndjodgcemgpfaaW.PrintMore
attribute [local go_sem] max2_int min2_int max_two min_two max_three min_three max_four min_four
set_option linter.unusedVariables false
set_option linter.unusedSimpArgs false
def impl_PutInt.f (k : Nat) (a0 : Int) : Option (List Int × Int) := (impl_within.f a0 0 4611686018427387903).bind fun t526 => (if t526 = true then ((impl_putInt.f k ([] : List Int) a0).bind fun t527 => (some (t527, 0))) else (some (([] : List Int), 12)))
theorem impl_PutInt.mono : ∀ a0 k, LeO (impl_PutInt.f k a0) (impl_PutInt.f (k + 1) a0) := by
  intro a0 k
  unfold impl_PutInt.f
  repeat' first
      | (with_reducible exact impl_putInt.mono _ _ _)
      | (with_reducible exact LeO.refl _)
      | (with_reducible exact LeO.none _)
      | (with_reducible refine LeO.ite ?_ ?_)
      | (with_reducible refine LeO.bind ?_ (fun _ => ?_))
      | exact impl_putInt.mono _ _ _
      | exact LeO.none _
      | refine LeO.ite ?_ ?_
      | refine LeO.bind ?_ (fun _ => ?_)
end Go.Proofs.Ytndjodgcemgpfaa.Q
end

section
namespace Go.Proofs.Ytndjodgcemgpfaa.Q
open Go.RowKit Go.Proofs.YtndjodgcemgpfaaW.PrintWords Go.Proofs.YtndjodgcemgpfaaW.PrintLast Go.Proofs.YtndjodgcemgpfaaW.PrintMore
attribute [local go_sem] max2_int min2_int max_two min_two max_three min_three max_four min_four
set_option linter.unusedVariables false
set_option linter.unusedSimpArgs false
mutual
def impl_oIdOk.j0 : Nat → ByteArray → Bool → Option (Bool)
  | 0, _, _ => none
  | k + 1, x0, x11 => if x11 = true then (some false) else (impl_oIdOk.l0 k x0 (x0.size : Int) 0)
def impl_oIdOk.l0 : Nat → ByteArray → Int → Int → Option (Bool)
  | 0, _, _, _ => none
  | k + 1, x0, x13, x14 => if x14 < x13 then (if 0 ≤ x14 then (if x14 < (x0.size : Int) then (if (bt x0 x14) < 33 then (some false) else (if (bt x0 x14) > 126 then (some false) else (impl_oIdOk.l0 k x0 x13 (wrap64 (x14 + 1))))) else (none)) else (none)) else (some true)
end
def impl_oIdOk.f (k : Nat) (a0 : ByteArray) : Option (Bool) := if (a0.size : Int) < 1 then (impl_oIdOk.j0 k a0 true) else (impl_oIdOk.j0 k a0 (decide ((a0.size : Int) > 30)))
theorem impl_oIdOk.mono_l : ∀ k, (∀ y0 y1, LeO (impl_oIdOk.j0 k y0 y1) (impl_oIdOk.j0 (k + 1) y0 y1)) ∧ (∀ y0 y1 y2, LeO (impl_oIdOk.l0 k y0 y1 y2) (impl_oIdOk.l0 (k + 1) y0 y1 y2))
  | 0 => ⟨fun _ _ r h => by simp [impl_oIdOk.j0] at h, fun _ _ _ r h => by simp [impl_oIdOk.l0] at h⟩
  | k + 1 => by
    obtain ⟨ih0, ih1⟩ := impl_oIdOk.mono_l k
    refine ⟨?_, ?_⟩
    · intro y0 y1
      unfold impl_oIdOk.j0
      repeat' first
      | (with_reducible exact ih0 _ _)
      | (with_reducible exact ih1 _ _ _)
      | (with_reducible exact LeO.refl _)
      | (with_reducible exact LeO.none _)
      | (with_reducible refine LeO.ite ?_ ?_)
      | (with_reducible refine LeO.bind ?_ (fun _ => ?_))
      | exact ih0 _ _
      | exact ih1 _ _ _
      | exact LeO.none _
      | refine LeO.ite ?_ ?_
      | refine LeO.bind ?_ (fun _ => ?_)
    · intro y0 y1 y2
      unfold impl_oIdOk.l0
      repeat' first
      | (with_reducible exact ih0 _ _)
      | (with_reducible exact ih1 _ _ _)
      | (with_reducible exact LeO.refl _)
      | (with_reducible exact LeO.none _)
      | (with_reducible refine LeO.ite ?_ ?_)
      | (with_reducible refine LeO.bind ?_ (fun _ => ?_))
      | exact ih0 _ _
      | exact ih1 _ _ _
      | exact LeO.none _
      | refine LeO.ite ?_ ?_
      | refine LeO.bind ?_ (fun _ => ?_)
theorem impl_oIdOk.mono : ∀ a0 k, LeO (impl_oIdOk.f k a0) (impl_oIdOk.f (k + 1) a0) := by
  intro a0 k
  obtain ⟨ih0, ih1⟩ := impl_oIdOk.mono_l k
  unfold impl_oIdOk.f
  repeat' first
      | (with_reducible exact ih0 _ _)
      | (with_reducible exact ih1 _ _ _)
      | (with_reducible exact LeO.refl _)
      | (with_reducible exact LeO.none _)
      | (with_reducible refine LeO.ite ?_ ?_)
      | (with_reducible refine LeO.bind ?_ (fun _ => ?_))
      | exact ih0 _ _
      | exact ih1 _ _ _
      | exact LeO.none _
      | refine LeO.ite ?_ ?_
      | refine LeO.bind ?_ (fun _ => ?_)
end Go.Proofs.Ytndjodgcemgpfaa.Q
end

section
namespace Go.Proofs.Ytndjodgcemgpfaa.Q
open Go.RowKit Go.Proofs.YtndjodgcemgpfaaW.PrintWords Go.Proofs.YtndjodgcemgpfaaW.PrintLast Go.Proofs.YtndjodgcemgpfaaW.PrintMore
attribute [local go_sem] max2_int min2_int max_two min_two max_three min_three max_four min_four
set_option linter.unusedVariables false
set_option linter.unusedSimpArgs false
def impl_oZeroDoc.f (a0_0 : ByteArray) (l0_1 : List (S84)) : Option (Bool) := if a0_0.toList = ([] : List UInt8) then (some ((l0_1.length : Int) == 0)) else (some false)
end Go.Proofs.Ytndjodgcemgpfaa.Q
end

section
namespace Go.Proofs.Ytndjodgcemgpfaa.Q
open Go.RowKit Go.Proofs.YtndjodgcemgpfaaW.PrintWords Go.Proofs.YtndjodgcemgpfaaW.PrintLast Go.Proofs.YtndjodgcemgpfaaW.PrintMore
attribute [local go_sem] max2_int min2_int max_two min_two max_three min_three max_four min_four
set_option linter.unusedVariables false
set_option linter.unusedSimpArgs false
def impl_oFour.f (a0 : Int) : Option (List Int) := some (([(a0 / 16777216) % 256, (a0 / 65536) % 256, (a0 / 256) % 256, (a0) % 256] : List Int))
end Go.Proofs.Ytndjodgcemgpfaa.Q
end

section
namespace Go.Proofs.Ytndjodgcemgpfaa.Q
open Go.RowKit Go.Proofs.YtndjodgcemgpfaaW.PrintWords Go.Proofs.YtndjodgcemgpfaaW.PrintLast Go.Proofs.YtndjodgcemgpfaaW.PrintMore
attribute [local go_sem] max2_int min2_int max_two min_two max_three min_three max_four min_four
set_option linter.unusedVariables false
set_option linter.unusedSimpArgs false
def impl_Sum32.l0 : Nat → Int → List Int → Int → Int → Option (Int)
  | 0, _, _, _, _ => none
  | k + 1, x3, x9, x10, x11 => if x11 < x10 then (if 0 ≤ x11 then (if x11 < (x9.length : Int) then (impl_Sum32.l0 k (((Go.bits .xor .u32 x3 ((rd x9 x11) % 4294967296)) * 16777619) % 4294967296) x9 x10 (wrap64 (x11 + 1))) else (none)) else (none)) else (some (wrap64 (x3)))
def impl_Sum32.f (k : Nat) (l0 : List Int) : Option (Int) := if (l0.length : Int) > 1048576 then (some 0) else (impl_Sum32.l0 k 2166136261 l0 (l0.length : Int) 0)
theorem impl_Sum32.mono_l : ∀ k, (∀ y0 y1 y2 y3, LeO (impl_Sum32.l0 k y0 y1 y2 y3) (impl_Sum32.l0 (k + 1) y0 y1 y2 y3))
  | 0 => fun _ _ _ _ r h => by simp [impl_Sum32.l0] at h
  | k + 1 => by
    have ih0 := impl_Sum32.mono_l k
    · intro y0 y1 y2 y3
      unfold impl_Sum32.l0
      repeat' first
      | (with_reducible exact ih0 _ _ _ _)
      | (with_reducible exact LeO.refl _)
      | (with_reducible exact LeO.none _)
      | (with_reducible refine LeO.ite ?_ ?_)
      | (with_reducible refine LeO.bind ?_ (fun _ => ?_))
      | exact ih0 _ _ _ _
      | exact LeO.none _
      | refine LeO.ite ?_ ?_
      | refine LeO.bind ?_ (fun _ => ?_)
theorem impl_Sum32.mono : ∀ a0 k, LeO (impl_Sum32.f k a0) (impl_Sum32.f (k + 1) a0) := by
  intro a0 k
  have ih0 := impl_Sum32.mono_l k
  unfold impl_Sum32.f
  repeat' first
      | (with_reducible exact ih0 _ _ _ _)
      | (with_reducible exact LeO.refl _)
      | (with_reducible exact LeO.none _)
      | (with_reducible refine LeO.ite ?_ ?_)
      | (with_reducible refine LeO.bind ?_ (fun _ => ?_))
      | exact ih0 _ _ _ _
      | exact LeO.none _
      | refine LeO.ite ?_ ?_
      | refine LeO.bind ?_ (fun _ => ?_)
end Go.Proofs.Ytndjodgcemgpfaa.Q
end

section
namespace Go.Proofs.Ytndjodgcemgpfaa.Q
open Go.RowKit Go.Proofs.YtndjodgcemgpfaaW.PrintWords Go.Proofs.YtndjodgcemgpfaaW.PrintLast Go.Proofs.YtndjodgcemgpfaaW.PrintMore
attribute [local go_sem] max2_int min2_int max_two min_two max_three min_three max_four min_four
set_option linter.unusedVariables false
set_option linter.unusedSimpArgs false
mutual
def impl_RecordBytes.j0 : Nat → Bool → Int → Int → ByteArray → ByteArray → List (S84) → Option (List Int × Int)
  | 0, _, _, _, _, _, _ => none
  | k + 1, x18, x536000, x536001, x536002, x536003, x536004 => if x18 = true then (some (([] : List Int), 1)) else ((impl_PutInt.f k x536001).bind fun bt536 => ((some (([(x536000) % 256] : List Int) : List Int)).bind fun y540 => (if y540.length + bt536.1.length < 140737488355328 then ((some (y540 ++ bt536.1 : List Int)).bind fun y543 => (if x536000 = 1 then ((impl_DocBytes.f k x536003 x536004).bind fun bt546 => (if bt546.2 = 0 then ((impl_oIdOk.f k x536003).bind fun t550 => (if t550 = true then (if x536002.toList = ([] : List UInt8) then (if y543.length + bt546.1.length < 140737488355328 then (impl_RecordBytes.j1 k (y543 ++ bt546.1)) else (none)) else (some (([] : List Int), 1))) else (some (([] : List Int), 1)))) else (some (([] : List Int), 1)))) else (if x536000 = 2 then ((impl_oIdOk.f k x536002).bind fun t554 => (if t554 = true then ((impl_oZeroDoc.f x536003 x536004).bind fun t555 => (if t555 = true then (if y543.length + x536002.size < 140737488355328 then (impl_RecordBytes.j1 k (y543 ++ bytesOf x536002)) else (none)) else (some (([] : List Int), 1)))) else (some (([] : List Int), 1)))) else (some (([] : List Int), 1))))) else (none))))
def impl_RecordBytes.j1 : Nat → List Int → Option (List Int × Int)
  | 0, _ => none
  | k + 1, x6 => (impl_PutInt.f k (x6.length : Int)).bind fun bt559 => (if (wrap64 ((wrap64 ((bt559.1.length : Int) + (x6.length : Int))) + 4)) > 1048576 then (some (([] : List Int), 2)) else (if bt559.1.length + x6.length < 140737488355328 then ((some (bt559.1 ++ x6 : List Int)).bind fun y563 => ((impl_Sum32.f k x6).bind fun t566 => ((impl_oFour.f t566).bind fun t567 => (if y563.length + t567.length < 140737488355328 then (some ((y563 ++ t567), 0)) else (none))))) else (none)))
end
def impl_RecordBytes.f (k : Nat) (a0_0 : Int) (a0_1 : Int) (a0_2 : ByteArray) (a0_3 : ByteArray) (l0_4 : List (S84)) : Option (List Int × Int) := if a0_1 < 1 then (impl_RecordBytes.j0 k true a0_0 a0_1 a0_2 a0_3 l0_4) else (impl_RecordBytes.j0 k (decide (a0_1 > 4611686018427387903)) a0_0 a0_1 a0_2 a0_3 l0_4)
theorem impl_RecordBytes.mono_l : ∀ k, (∀ y0 y1 y2 y3 y4 y5, LeO (impl_RecordBytes.j0 k y0 y1 y2 y3 y4 y5) (impl_RecordBytes.j0 (k + 1) y0 y1 y2 y3 y4 y5)) ∧ (∀ y0, LeO (impl_RecordBytes.j1 k y0) (impl_RecordBytes.j1 (k + 1) y0))
  | 0 => ⟨fun _ _ _ _ _ _ r h => by simp [impl_RecordBytes.j0] at h, fun _ r h => by simp [impl_RecordBytes.j1] at h⟩
  | k + 1 => by
    obtain ⟨ih0, ih1⟩ := impl_RecordBytes.mono_l k
    refine ⟨?_, ?_⟩
    · intro y0 y1 y2 y3 y4 y5
      unfold impl_RecordBytes.j0
      repeat' first
      | (with_reducible exact ih0 _ _ _ _ _ _)
      | (with_reducible exact ih1 _)
      | (with_reducible exact impl_DocBytes.mono _ _ _)
      | (with_reducible exact impl_PutInt.mono _ _)
      | (with_reducible exact impl_Sum32.mono _ _)
      | (with_reducible exact impl_oIdOk.mono _ _)
      | (with_reducible exact LeO.refl _)
      | (with_reducible exact LeO.none _)
      | (with_reducible refine LeO.ite ?_ ?_)
      | (with_reducible refine LeO.bind ?_ (fun _ => ?_))
      | exact ih0 _ _ _ _ _ _
      | exact ih1 _
      | exact impl_DocBytes.mono _ _ _
      | exact impl_PutInt.mono _ _
      | exact impl_Sum32.mono _ _
      | exact impl_oIdOk.mono _ _
      | exact LeO.none _
      | refine LeO.ite ?_ ?_
      | refine LeO.bind ?_ (fun _ => ?_)
    · intro y0
      unfold impl_RecordBytes.j1
      repeat' first
      | (with_reducible exact ih0 _ _ _ _ _ _)
      | (with_reducible exact ih1 _)
      | (with_reducible exact impl_DocBytes.mono _ _ _)
      | (with_reducible exact impl_PutInt.mono _ _)
      | (with_reducible exact impl_Sum32.mono _ _)
      | (with_reducible exact impl_oIdOk.mono _ _)
      | (with_reducible exact LeO.refl _)
      | (with_reducible exact LeO.none _)
      | (with_reducible refine LeO.ite ?_ ?_)
      | (with_reducible refine LeO.bind ?_ (fun _ => ?_))
      | exact ih0 _ _ _ _ _ _
      | exact ih1 _
      | exact impl_DocBytes.mono _ _ _
      | exact impl_PutInt.mono _ _
      | exact impl_Sum32.mono _ _
      | exact impl_oIdOk.mono _ _
      | exact LeO.none _
      | refine LeO.ite ?_ ?_
      | refine LeO.bind ?_ (fun _ => ?_)
theorem impl_RecordBytes.mono : ∀ a0 a1 a2 a3 a4 k, LeO (impl_RecordBytes.f k a0 a1 a2 a3 a4) (impl_RecordBytes.f (k + 1) a0 a1 a2 a3 a4) := by
  intro a0 a1 a2 a3 a4 k
  obtain ⟨ih0, ih1⟩ := impl_RecordBytes.mono_l k
  unfold impl_RecordBytes.f
  repeat' first
      | (with_reducible exact ih0 _ _ _ _ _ _)
      | (with_reducible exact ih1 _)
      | (with_reducible exact impl_DocBytes.mono _ _ _)
      | (with_reducible exact impl_PutInt.mono _ _)
      | (with_reducible exact impl_Sum32.mono _ _)
      | (with_reducible exact impl_oIdOk.mono _ _)
      | (with_reducible exact LeO.refl _)
      | (with_reducible exact LeO.none _)
      | (with_reducible refine LeO.ite ?_ ?_)
      | (with_reducible refine LeO.bind ?_ (fun _ => ?_))
      | exact ih0 _ _ _ _ _ _
      | exact ih1 _
      | exact impl_DocBytes.mono _ _ _
      | exact impl_PutInt.mono _ _
      | exact impl_Sum32.mono _ _
      | exact impl_oIdOk.mono _ _
      | exact LeO.none _
      | refine LeO.ite ?_ ?_
      | refine LeO.bind ?_ (fun _ => ?_)
end Go.Proofs.Ytndjodgcemgpfaa.Q
end

section
namespace Go.Proofs.Ytndjodgcemgpfaa.Q
open Go.RowKit Go.Proofs.YtndjodgcemgpfaaW.PrintWords Go.Proofs.YtndjodgcemgpfaaW.PrintLast Go.Proofs.YtndjodgcemgpfaaW.PrintMore
attribute [local go_sem] max2_int min2_int max_two min_two max_three min_three max_four min_four
set_option linter.unusedVariables false
set_option linter.unusedSimpArgs false
def laws_eqRecord.f (k : Nat) (a0_0 : Int) (a0_1 : Int) (a0_2 : ByteArray) (a0_3 : ByteArray) (l0_4 : List (S84)) (a1_0 : Int) (a1_1 : Int) (a1_2 : ByteArray) (a1_3 : ByteArray) (l1_4 : List (S84)) : Option (Bool) := if a0_0 = a1_0 then (if a0_1 = a1_1 then (if a0_2.toList = a1_2.toList then ((laws_eqDoc.f k a0_3 l0_4 a1_3 l1_4).bind fun t575 => (if t575 = true then (some true) else (some false))) else (some false)) else (some false)) else (some false)
theorem laws_eqRecord.mono : ∀ a0 a1 a2 a3 a4 a5 a6 a7 a8 a9 k, LeO (laws_eqRecord.f k a0 a1 a2 a3 a4 a5 a6 a7 a8 a9) (laws_eqRecord.f (k + 1) a0 a1 a2 a3 a4 a5 a6 a7 a8 a9) := by
  intro a0 a1 a2 a3 a4 a5 a6 a7 a8 a9 k
  unfold laws_eqRecord.f
  repeat' first
      | (with_reducible exact laws_eqDoc.mono _ _ _ _ _)
      | (with_reducible exact LeO.refl _)
      | (with_reducible exact LeO.none _)
      | (with_reducible refine LeO.ite ?_ ?_)
      | (with_reducible refine LeO.bind ?_ (fun _ => ?_))
      | exact laws_eqDoc.mono _ _ _ _ _
      | exact LeO.none _
      | refine LeO.ite ?_ ?_
      | refine LeO.bind ?_ (fun _ => ?_)
end Go.Proofs.Ytndjodgcemgpfaa.Q
end

section
set_option linter.unusedVariables false
set_option linter.unusedSimpArgs false
namespace Go.Proofs.Ytndjodgcemgpfaa.Q
open Go.RowKit Go.Proofs.YtndjodgcemgpfaaW.PrintWords Go.Proofs.YtndjodgcemgpfaaW.PrintLast Go.Proofs.YtndjodgcemgpfaaW.PrintMore
theorem wrap_succ {i : Nat} (h : i < 4611686018427387904) : wrap64 ((i : Int) + 1) = ((i + 1 : Nat) : Int) := by
  rw [wrap64_of (by omega) (by omega)]
  omega
def IsB (xs : List Int) : Prop := ∀ b ∈ xs, 0 ≤ b ∧ b < 256
def hx (h c : Int) : Int := (((h.toNat ^^^ c.toNat : Nat) : Int) * 16777619) % 4294967296
end Go.Proofs.Ytndjodgcemgpfaa.Q
end

section
set_option linter.unusedVariables false
set_option linter.unusedSimpArgs false
namespace Go.Proofs.Ytndjodgcemgpfaa.Q
open Go.RowKit Go.Proofs.YtndjodgcemgpfaaW.PrintWords Go.Proofs.YtndjodgcemgpfaaW.PrintLast Go.Proofs.YtndjodgcemgpfaaW.PrintMore
section
variable (b : List Int) (p : Nat)
def getG : Nat → Nat → Nat → Option (Nat × Nat)
  | 0, _, _ => none
  | d + 1, i, v => if p + i < b.length then (if i = 8 ∧ 63 < (rd b ((p + i : Nat) : Int)).toNat then none else
      if (rd b ((p + i : Nat) : Int)).toNat < 128 then (if i = 0 ∨ 0 < (rd b ((p + i : Nat) : Int)).toNat then some (v + (rd b ((p + i : Nat) : Int)).toNat % 128 * 128 ^ i, p + i + 1) else none)
      else getG d (i + 1) (v + (rd b ((p + i : Nat) : Int)).toNat % 128 * 128 ^ i)) else none
def getB : Option (Nat × Nat) := getG b p 9 0 0
theorem rd_isB {b : List Int} (hb : IsB b) (i : Int) : 0 ≤ rd b i ∧ rd b i < 256 := by
  unfold rd
  rw [List.getD_eq_getElem?_getD]
  cases h : b[i.toNat]? with
  | none => simp
  | some x => exact hb x (List.mem_of_getElem? h)
theorem pow_small {i : Nat} (h : i ≤ 8) : 1 ≤ 128 ^ i ∧ 128 ^ i ≤ 72057594037927936 ∧ 128 ^ (i + 1) = 128 * 128 ^ i := by
  refine ⟨Nat.pos_of_ne_zero (by simp), ?_, by rw [Nat.pow_succ, Nat.mul_comm]⟩
  calc 128 ^ i ≤ 128 ^ 8 := Nat.pow_le_pow_right (by omega) h
    _ = 72057594037927936 := by decide
theorem wrap_i64_id : ∀ n : Int, 0 ≤ n → n < 2 ^ 63 → IntKind.i64.wrap n = n := fun n h0 h1 => by
  rw [IntKind.wrap_i64]
  omega
theorem join_bits (v c i : Nat) (hi : i ≤ 8) (hv : v < 128 ^ i) (hc : c < 256) :
    Go.bits .or .i64 (v : Int) (shl .i64 (wrap64 (Go.bits .and .u8 (c : Int) 127)) (wrap64 (7 * (i : Int)))) = ((v + c % 128 * 128 ^ i : Nat) : Int) := by
  obtain ⟨p1, p2, p3⟩ := pow_small hi
  have h1 : Go.bits .and .u8 (c : Int) 127 = ((c % 128 : Nat) : Int) := by
    rw [u8_and (c : Int) 127 (by omega) (by omega) (by omega) (by omega)]
    congr 1
    exact Nat.and_two_pow_sub_one_eq_mod c 7
  have hm : c % 128 * 128 ^ i ≤ 127 * 128 ^ i := Nat.mul_le_mul_right _ (by omega)
  have hp : (128 : Nat) ^ i = 2 ^ (7 * i) := by rw [Nat.pow_mul]
  have h2 : shl .i64 (wrap64 (Go.bits .and .u8 (c : Int) 127)) (wrap64 (7 * (i : Int))) = ((c % 128 * 128 ^ i : Nat) : Int) := by
    rw [h1, wrap64_of (x := ((c % 128 : Nat) : Int)) (by omega) (by omega), wrap64_of (x := 7 * (i : Int)) (by omega) (by omega)]
    unfold shl
    have e : min ((7 * (i : Int)).toNat) IntKind.i64.bits = 7 * i := by
      show min ((7 * (i : Int)).toNat) 64 = 7 * i
      omega
    rw [e, show ((c % 128 : Nat) : Int) * 2 ^ (7 * i) = ((c % 128 * 128 ^ i : Nat) : Int) from by rw [hp]; push_cast; rfl]
    exact wrap_i64_id _ (by omega) (by omega)
  rw [h2, (bits_nat .i64 63 (by decide) wrap_i64_id v (c % 128 * 128 ^ i) (by omega) (by omega)).2]
  congr 1
  have := Nat.two_pow_add_eq_or_of_lt (i := 7 * i) (b := v) (by rw [← hp]; exact hv) (c % 128)
  rw [← hp] at this
  rw [Nat.or_comm, Nat.mul_comm (c % 128), ← this, Nat.add_comm]
theorem implGet_l0 (hb : IsB b) (hl : b.length ≤ 1048576) (hp : p ≤ b.length) : ∀ (d i v : Nat), i + d = 9 → v < 128 ^ i →
    (∀ r, getG b p d i v = some r → Ev (fun k => impl_GetInt.l0 k b (p : Int) (v : Int) (i : Int)) ((r.1 : Int), (r.2 : Int), 0)) ∧
    (getG b p d i v = none → Ev (fun k => impl_GetInt.l0 k b (p : Int) (v : Int) (i : Int)) (0, 0, 3)) := by
  intro d
  induction d with
  | zero =>
    intro i v hi hv
    refine ⟨fun r h => by simp [getG] at h, fun _ => Ev.step (fun k => impl_GetInt.l0.eq_2 _ _ _ _ k) (Ev.ite_neg (by omega) (Ev.step (fun k => impl_GetInt.j1.eq_2 _ _ _ _ _ k) (Ev.ite_neg (by simp) (Ev.now _))))⟩
  | succ d ih =>
    intro i v hi hv
    obtain ⟨p1, p2, p3⟩ := pow_small (i := i) (by omega)
    have hw : wrap64 ((p : Int) + (i : Int)) = ((p + i : Nat) : Int) := by rw [wrap64_of (by omega) (by omega)]; omega
    have hw7 : wrap64 (7 * (i : Int)) = 7 * (i : Int) := wrap64_of (by omega) (by omega)
    obtain ⟨hc0, hc1⟩ := rd_isB hb ((p + i : Nat) : Int)
    obtain ⟨c, hc⟩ := Int.eq_ofNat_of_zero_le hc0
    unfold getG
    rw [hc, Int.toNat_natCast]
    have hcl : c < 256 := by omega
    have hj := join_bits v c i (by omega) hv hcl
    have hm : c % 128 * 128 ^ i ≤ 127 * 128 ^ i := Nat.mul_le_mul_right _ (by omega)
    by_cases hin : p + i < b.length
    · rw [if_pos hin]
      have step : ∀ {r : Int × Int × Int}, Ev (fun k => if (c : Int) < 128 then (if ((v + c % 128 * 128 ^ i : Nat) : Int) > 4611686018427387903 then (some ((0 : Int), (0 : Int), (3 : Int))) else (if ((v + c % 128 * 128 ^ i : Nat) : Int) < 0 then (some (0, 0, 3)) else (if (c : Int) = 0 then (if (i : Int) > 0 then (some (0, 0, 3)) else (some (((v + c % 128 * 128 ^ i : Nat) : Int), wrap64 ((((p + i : Nat) : Int)) + 1), 0))) else (some (((v + c % 128 * 128 ^ i : Nat) : Int), wrap64 ((((p + i : Nat) : Int)) + 1), 0))))) else (impl_GetInt.l0 k b (p : Int) ((v + c % 128 * 128 ^ i : Nat) : Int) (wrap64 ((i : Int) + 1)))) r →
          Ev (fun k => impl_GetInt.l0 k b (p : Int) (v : Int) (i : Int)) r := fun {r} h => by
        refine Ev.step (fun k => impl_GetInt.l0.eq_2 _ _ _ _ k) (Ev.ite_pos (by omega) (Ev.step (fun k => impl_GetInt.j1.eq_2 _ _ _ _ _ k) (Ev.ite_pos (by rw [hw]; simp; omega) (Ev.ite_pos (by rw [hw]; omega) (Ev.ite_pos (by rw [hw]; omega) (Ev.ite_pos (by rw [hw7]; omega) ?_))))))
        rw [hw, hc, hj]
        exact h
      by_cases h8 : i = 8 ∧ 63 < c
      · rw [if_pos h8]
        refine ⟨fun r h => by simp at h, fun _ => step ?_⟩
        obtain ⟨h8, h63⟩ := h8
        subst h8
        by_cases hc7 : c < 128
        · refine Ev.ite_pos (by omega) (Ev.ite_pos ?_ (Ev.now _))
          have : c % 128 = c := by omega
          rw [this]
          omega
        · refine Ev.ite_neg (by omega) ?_
          have e9 : wrap64 (((8 : Nat) : Int) + 1) = ((9 : Nat) : Int) := by rw [wrap64_of (by omega) (by omega)]; rfl
          rw [e9]
          exact Ev.step (fun k => impl_GetInt.l0.eq_2 _ _ _ _ k) (Ev.ite_neg (by omega) (Ev.step (fun k => impl_GetInt.j1.eq_2 _ _ _ _ _ k) (Ev.ite_neg (by simp) (Ev.now _))))
      · rw [if_neg h8]
        have hv' : v + c % 128 * 128 ^ i ≤ 4611686018427387903 := by
          by_cases hi8 : i = 8
          · subst hi8
            have : c % 128 * 128 ^ 8 ≤ 63 * 128 ^ 8 := Nat.mul_le_mul_right _ (by omega)
            omega
          · have : 128 ^ i ≤ 128 ^ 7 := Nat.pow_le_pow_right (by omega) (by omega)
            omega
        by_cases hc7 : c < 128
        · rw [if_pos hc7]
          have hok : Ev (fun k : Nat => (some (((v + c % 128 * 128 ^ i : Nat) : Int), wrap64 ((((p + i : Nat) : Int)) + 1), (0 : Int)))) (((v + c % 128 * 128 ^ i : Nat) : Int), ((p + i + 1 : Nat) : Int), 0) := by
            rw [wrap64_of (by omega) (by omega)]
            exact Ev.now _
          by_cases hz : i = 0 ∨ 0 < c
          · rw [if_pos hz]
            refine ⟨fun r h => ?_, fun h => by simp at h⟩
            obtain rfl := Option.some.inj h
            refine step (Ev.ite_pos (by omega) (Ev.ite_neg (by omega) (Ev.ite_neg (by omega) ?_)))
            by_cases hcz : (c : Int) = 0
            · exact Ev.ite_pos hcz (Ev.ite_neg (by omega) hok)
            · exact Ev.ite_neg hcz hok
          · rw [if_neg hz]
            refine ⟨fun r h => by simp at h, fun _ => step (Ev.ite_pos (by omega) (Ev.ite_neg (by omega) (Ev.ite_neg (by omega) (Ev.ite_pos (by omega) (Ev.ite_pos (by omega) (Ev.now _))))))⟩
        · rw [if_neg hc7]
          have hi8 : i < 8 := by omega
          have := ih (i + 1) (v + c % 128 * 128 ^ i) (by omega) (by omega)
          rw [← wrap_succ (i := i) (by omega)] at this
          exact ⟨fun r h => step (Ev.ite_neg (by omega) (this.1 r h)), fun h => step (Ev.ite_neg (by omega) (this.2 h))⟩
    · rw [if_neg hin]
      refine ⟨fun r h => by simp at h, fun _ => Ev.step (fun k => impl_GetInt.l0.eq_2 _ _ _ _ k) (Ev.ite_pos (by omega) (Ev.step (fun k => impl_GetInt.j1.eq_2 _ _ _ _ _ k) (Ev.ite_neg (by rw [hw]; simp; omega) (Ev.now _))))⟩
theorem implGet_ev (hb : IsB b) (hl : b.length ≤ 1048576) (hp : p ≤ b.length) :
    (∀ r, getB b p = some r → Ev (fun k => impl_GetInt.f k b (p : Int)) ((r.1 : Int), (r.2 : Int), 0)) ∧ (getB b p = none → Ev (fun k => impl_GetInt.f k b (p : Int)) (0, 0, 3)) := by
  have h := implGet_l0 b p hb hl hp 9 0 0 rfl (by simp)
  have hw : impl_within.f (p : Int) 0 (b.length : Int) = some true := by
    unfold impl_within.f
    rw [if_pos (by omega)]
    simp
    omega
  unfold impl_GetInt.f
  exact ⟨fun r hr => Ev.ite_neg (by omega) (Ev.const hw (Ev.ite_pos rfl (h.1 r hr))), fun hr => Ev.ite_neg (by omega) (Ev.const hw (Ev.ite_pos rfl (h.2 hr)))⟩
set_option maxHeartbeats 2000000 in
theorem specGet_l0 (hb : IsB b) (hl : b.length ≤ 1048576) (hp : p ≤ b.length) : ∀ (d i v u : Nat), i + d = 9 → v < 128 ^ i → (i ≤ 8 → u = 128 ^ i) →
    (∀ r, getG b p d i v = some r → Ev (fun k => spec_l03Get.l0 k b (p : Int) (v : Int) (u : Int) (i : Int)) ((r.1 : Int), (r.2 : Int), true)) ∧
    (getG b p d i v = none → ∃ x y, Ev (fun k => spec_l03Get.l0 k b (p : Int) (v : Int) (u : Int) (i : Int)) (x, y, false)) := by
  intro d
  induction d with
  | zero =>
    intro i v u hi hv hu
    refine ⟨fun r h => by simp [getG] at h, fun _ => ⟨_, _, Ev.step (fun k => spec_l03Get.l0.eq_2 _ _ _ _ _ k) (Ev.ite_neg (by omega) (Ev.step (fun k => spec_l03Get.j1.eq_2 _ _ _ _ _ _ k) (Ev.ite_neg (by simp) (Ev.now _))))⟩⟩
  | succ d ih =>
    intro i v u hi hv hu
    obtain ⟨p1, p2, p3⟩ := pow_small (i := i) (by omega)
    obtain rfl := hu (by omega)
    have hw : wrap64 ((p : Int) + (i : Int)) = ((p + i : Nat) : Int) := by rw [wrap64_of (by omega) (by omega)]; omega
    obtain ⟨hc0, hc1⟩ := rd_isB hb ((p + i : Nat) : Int)
    obtain ⟨c, hc⟩ := Int.eq_ofNat_of_zero_le hc0
    unfold getG
    rw [hc, Int.toNat_natCast]
    have hcl : c < 256 := by omega
    have hm : c % 128 * 128 ^ i ≤ 127 * 128 ^ i := Nat.mul_le_mul_right _ (by omega)
    by_cases hin : p + i < b.length
    · rw [if_pos hin]
      have step8 : i = 8 → ∀ {r : Int × Int × Bool}, Ev (fun k => spec_l03Get.j2 k b (p : Int) (v : Int) ((128 ^ i : Nat) : Int) (i : Int) (c : Int) (decide ((c : Int) > 63))) r → Ev (fun k => spec_l03Get.l0 k b (p : Int) (v : Int) ((128 ^ i : Nat) : Int) (i : Int)) r := fun h8 {r} h => by
        refine Ev.step (fun k => spec_l03Get.l0.eq_2 _ _ _ _ _ k) (Ev.ite_pos (by omega) (Ev.step (fun k => spec_l03Get.j1.eq_2 _ _ _ _ _ _ k) (Ev.ite_pos (by rw [hw]; simp; omega) (Ev.ite_pos (by rw [hw]; omega) (Ev.ite_pos (by rw [hw]; omega) (Ev.ite_pos (by omega) ?_))))))
        rw [hw, hc, wrap64_of (x := (c : Int)) (by omega) (by omega)]
        exact h
      have stepn : i ≠ 8 → ∀ {r : Int × Int × Bool}, Ev (fun k => spec_l03Get.j2 k b (p : Int) (v : Int) ((128 ^ i : Nat) : Int) (i : Int) (c : Int) false) r → Ev (fun k => spec_l03Get.l0 k b (p : Int) (v : Int) ((128 ^ i : Nat) : Int) (i : Int)) r := fun h8 {r} h => by
        refine Ev.step (fun k => spec_l03Get.l0.eq_2 _ _ _ _ _ k) (Ev.ite_pos (by omega) (Ev.step (fun k => spec_l03Get.j1.eq_2 _ _ _ _ _ _ k) (Ev.ite_pos (by rw [hw]; simp; omega) (Ev.ite_pos (by rw [hw]; omega) (Ev.ite_pos (by rw [hw]; omega) (Ev.ite_neg (by omega) ?_))))))
        rw [hw, hc, wrap64_of (x := (c : Int)) (by omega) (by omega)]
        exact h
      by_cases h8 : i = 8 ∧ 63 < c
      · rw [if_pos h8]
        exact ⟨fun r h => by simp at h, fun _ => ⟨_, _, step8 h8.1 (Ev.step (fun k => spec_l03Get.j2.eq_2 _ _ _ _ _ _ _ k) (Ev.ite_pos (by simp; omega) (Ev.now _)))⟩⟩
      · rw [if_neg h8]
        have hv' : v + c % 128 * 128 ^ i ≤ 4611686018427387903 := by
          by_cases hi8 : i = 8
          · subst hi8
            have : c % 128 * 128 ^ 8 ≤ 63 * 128 ^ 8 := Nat.mul_le_mul_right _ (by omega)
            omega
          · have : 128 ^ i ≤ 128 ^ 7 := Nat.pow_le_pow_right (by omega) (by omega)
            omega
        have hval : wrap64 ((v : Int) + (wrap64 ((Int.tmod (c : Int) 128) * ((128 ^ i : Nat) : Int)))) = ((v + c % 128 * 128 ^ i : Nat) : Int) := by
          rw [Int.tmod_eq_emod_of_nonneg (by omega), show ((c : Int) % 128) * ((128 ^ i : Nat) : Int) = ((c % 128 * 128 ^ i : Nat) : Int) from by push_cast; rfl]
          rw [wrap64_of (x := ((c % 128 * 128 ^ i : Nat) : Int)) (by omega) (by omega), wrap64_of (by omega) (by omega)]
          omega
        have step : ∀ {r : Int × Int × Bool}, Ev (fun k => if (c : Int) < 128 then (if (i : Int) = 0 then (some (((v + c % 128 * 128 ^ i : Nat) : Int), wrap64 ((wrap64 ((p : Int) + (i : Int))) + 1), true)) else (some (((v + c % 128 * 128 ^ i : Nat) : Int), wrap64 ((wrap64 ((p : Int) + (i : Int))) + 1), decide ((c : Int) > 0)))) else (if (i : Int) < 8 then (spec_l03Get.l0 k b (p : Int) (((v + c % 128 * 128 ^ i : Nat) : Int)) (wrap64 (((128 ^ i : Nat) : Int) * 128)) (wrap64 ((i : Int) + 1))) else (spec_l03Get.l0 k b (p : Int) (((v + c % 128 * 128 ^ i : Nat) : Int)) ((128 ^ i : Nat) : Int) (wrap64 ((i : Int) + 1))))) r →
            Ev (fun k => spec_l03Get.l0 k b (p : Int) (v : Int) ((128 ^ i : Nat) : Int) (i : Int)) r := fun {r} h => by
          by_cases hi8 : i = 8
          · refine step8 hi8 (Ev.step (fun k => spec_l03Get.j2.eq_2 _ _ _ _ _ _ _ k) (Ev.ite_neg (by simp; omega) ?_))
            rw [hval]
            exact h
          · refine stepn hi8 (Ev.step (fun k => spec_l03Get.j2.eq_2 _ _ _ _ _ _ _ k) (Ev.ite_neg (by simp) ?_))
            rw [hval]
            exact h
        by_cases hc7 : c < 128
        · rw [if_pos hc7]
          have hn : wrap64 ((wrap64 ((p : Int) + (i : Int))) + 1) = ((p + i + 1 : Nat) : Int) := by rw [hw, wrap64_of (by omega) (by omega)]; omega
          rw [hn] at step
          by_cases hz : i = 0 ∨ 0 < c
          · rw [if_pos hz]
            refine ⟨fun r h => ?_, fun h => by simp at h⟩
            obtain rfl := Option.some.inj h
            refine step (Ev.ite_pos (by omega) ?_)
            by_cases hi0 : (i : Int) = 0
            · exact Ev.ite_pos hi0 (Ev.now _)
            · refine Ev.ite_neg hi0 (Ev.eq (Ev.now _) ?_)
              rw [decide_eq_true (show (c : Int) > 0 by omega)]
          · rw [if_neg hz]
            refine ⟨fun r h => by simp at h, fun _ => ⟨_, _, step (Ev.ite_pos (by omega) (Ev.ite_neg (by omega) (Ev.eq (Ev.now _) (by rw [decide_eq_false (show ¬ (c : Int) > 0 by omega)]))))⟩⟩
        · rw [if_neg hc7]
          have hi8 : i < 8 := by omega
          have h7 : 128 ^ i ≤ 128 ^ 7 := Nat.pow_le_pow_right (by omega) (by omega)
          have hu2 : wrap64 (((128 ^ i : Nat) : Int) * 128) = ((128 ^ (i + 1) : Nat) : Int) := by
            rw [p3]
            clear hval step hm hv hv' ih
            generalize 128 ^ i = u at *
            rw [wrap64_of (by omega) (by omega)]
            omega
          have hlt : v + c % 128 * 128 ^ i < 128 ^ (i + 1) := by
            rw [p3]
            clear hval step hv' ih hu2
            generalize 128 ^ i = u at *
            generalize c % 128 * u = y at *
            omega
          have := ih (i + 1) (v + c % 128 * 128 ^ i) (128 ^ (i + 1)) (by clear hval step hm hv hv' ih hu2 hlt h7; omega) hlt (fun _ => rfl)
          rw [← wrap_succ (i := i) (by omega), ← hu2] at this
          exact ⟨fun r h => step (Ev.ite_neg (by omega) (Ev.ite_pos (by omega) (this.1 r h))), fun h => by
            obtain ⟨x, y, h⟩ := this.2 h
            exact ⟨x, y, step (Ev.ite_neg (by omega) (Ev.ite_pos (by omega) h))⟩⟩
    · rw [if_neg hin]
      exact ⟨fun r h => by simp at h, fun _ => ⟨_, _, Ev.step (fun k => spec_l03Get.l0.eq_2 _ _ _ _ _ k) (Ev.ite_pos (by omega) (Ev.step (fun k => spec_l03Get.j1.eq_2 _ _ _ _ _ _ k) (Ev.ite_neg (by rw [hw]; simp; omega) (Ev.now _))))⟩⟩
theorem specGet_ev (hb : IsB b) (hl : b.length ≤ 1048576) (hp : p ≤ b.length) :
    (∀ r, getB b p = some r → Ev (fun k => spec_l03Get.f k b (p : Int)) ((r.1 : Int), (r.2 : Int), true)) ∧ (getB b p = none → ∃ x y, Ev (fun k => spec_l03Get.f k b (p : Int)) (x, y, false)) :=
  specGet_l0 b p hb hl hp 9 0 0 1 rfl (by simp) (fun _ => rfl)
theorem getG_le : ∀ (d i v : Nat) r, i + d = 9 → v < 128 ^ i → getG b p d i v = some r → r.1 ≤ 9223372036854775807 ∧ p < r.2 ∧ r.2 ≤ b.length := by
  intro d
  induction d with
  | zero => intro i v r hi hv h; simp [getG] at h
  | succ d ih =>
    intro i v r hi hv h
    obtain ⟨p1, p2, p3⟩ := pow_small (i := i) (by omega)
    unfold getG at h
    have hm : (rd b ((p + i : Nat) : Int)).toNat % 128 * 128 ^ i ≤ 127 * 128 ^ i := Nat.mul_le_mul_right _ (by omega)
    split at h
    · split at h
      · simp at h
      · split at h
        · split at h
          · obtain rfl := Option.some.inj h
            exact ⟨by show v + _ ≤ _; omega, by show p < p + i + 1; omega, by show p + i + 1 ≤ _; omega⟩
          · simp at h
        · exact ih _ _ r (by omega) (by omega) h
    · simp at h
theorem getB_le {r : Nat × Nat} (h : getB b p = some r) : r.1 ≤ 9223372036854775807 ∧ p < r.2 ∧ r.2 ≤ b.length := getG_le b p 9 0 0 r rfl (by simp) h
end
end Go.Proofs.Ytndjodgcemgpfaa.Q
end

section
set_option linter.unusedVariables false
set_option linter.unusedSimpArgs false
namespace Go.Proofs.Ytndjodgcemgpfaa.Q
open Go.RowKit Go.Proofs.YtndjodgcemgpfaaW.PrintWords Go.Proofs.YtndjodgcemgpfaaW.PrintLast Go.Proofs.YtndjodgcemgpfaaW.PrintMore
section
variable (b : List Int)
def rdT (p : Nat) : Option (ByteArray × Nat) := (getB b p).bind fun r => if r.1 ≤ 65536 ∧ r.2 + r.1 ≤ b.length then some (strOfNums ((b.take (r.2 + r.1)).drop r.2), r.2 + r.1) else none
def rdC (p : Nat) : Option (Nat × Nat) := (getB b p).bind fun r => if r.1 ≤ 4096 then some r else none
def numV (n : Nat) : Int := if n % 2 = 1 then -(((n + 1) / 2 : Nat) : Int) else ((n / 2 : Nat) : Int)
def rdN (p : Nat) : Option (Int × Nat) := (getB b p).bind fun r => if r.1 ≤ 2000000000000 then some (numV r.1, r.2) else none
def rdTs : Nat → Nat → Option (List ByteArray × Nat)
  | 0, p => some ([], p)
  | m + 1, p => (rdT b p).bind fun r => (rdTs m r.2).bind fun s => some (r.1 :: s.1, s.2)
def rdNs : Nat → Nat → Option (List Int × Nat)
  | 0, p => some ([], p)
  | m + 1, p => (rdN b p).bind fun r => (rdNs m r.2).bind fun s => some (r.1 :: s.1, s.2)
def rdV (p : Nat) : Option (S84 × Nat) := (rdT b p).bind fun f => (rdC b f.2).bind fun c => (rdTs b c.1 c.2).bind fun ts => (rdC b ts.2).bind fun d => (rdNs b d.1 d.2).bind fun ns => some (⟨f.1, ts.1, ns.1⟩, ns.2)
def rdVs : Nat → Nat → Option (List S84 × Nat)
  | 0, p => some ([], p)
  | m + 1, p => (rdV b p).bind fun r => (rdVs m r.2).bind fun s => some (r.1 :: s.1, s.2)
def rdD : Option (ByteArray × List S84 × Nat) := (rdT b 0).bind fun f => (rdC b f.2).bind fun c => (rdVs b c.1 c.2).bind fun vs => some (f.1, vs.1, vs.2)
def rdR : ByteArray × List S84 × Int := match rdD b with
  | some r => if r.2.2 = b.length then (r.1, r.2.1, 0) else (ByteArray.empty, [], 15)
  | none => (ByteArray.empty, [], 15)
theorem opt_split {α : Type} (o : Option α) : o = none ∨ ∃ r, o = some r := by cases o <;> simp
theorem rdT_le {p : Nat} {r : ByteArray × Nat} (h : rdT b p = some r) : r.2 ≤ b.length := by
  unfold rdT at h
  obtain ⟨q, hq, h⟩ := Option.bind_eq_some_iff.1 h
  split at h
  · rename_i hh
    obtain rfl := Option.some.inj h
    exact hh.2
  · simp at h
theorem rdC_le {p : Nat} {r : Nat × Nat} (h : rdC b p = some r) : r.1 ≤ 4096 ∧ r.2 ≤ b.length := by
  unfold rdC at h
  obtain ⟨q, hq, h⟩ := Option.bind_eq_some_iff.1 h
  split at h
  · rename_i hh
    obtain rfl := Option.some.inj h
    exact ⟨hh, (getB_le b p hq).2.2⟩
  · simp at h
theorem rdN_le {p : Nat} {r : Int × Nat} (h : rdN b p = some r) : r.2 ≤ b.length := by
  unfold rdN at h
  obtain ⟨q, hq, h⟩ := Option.bind_eq_some_iff.1 h
  split at h
  · obtain rfl := Option.some.inj h
    exact (getB_le b p hq).2.2
  · simp at h
theorem rdTs_le : ∀ (m p : Nat) (r : List ByteArray × Nat), p ≤ b.length → rdTs b m p = some r → r.2 ≤ b.length ∧ r.1.length = m
  | 0, p, r, hp, h => by
    obtain rfl := Option.some.inj h
    exact ⟨hp, rfl⟩
  | m + 1, p, r, hp, h => by
    unfold rdTs at h
    obtain ⟨q, hq, h⟩ := Option.bind_eq_some_iff.1 h
    obtain ⟨s, hs, h⟩ := Option.bind_eq_some_iff.1 h
    obtain rfl := Option.some.inj h
    have := rdTs_le m q.2 s (rdT_le b hq) hs
    exact ⟨this.1, by simp [this.2]⟩
theorem rdNs_le : ∀ (m p : Nat) (r : List Int × Nat), p ≤ b.length → rdNs b m p = some r → r.2 ≤ b.length ∧ r.1.length = m
  | 0, p, r, hp, h => by
    obtain rfl := Option.some.inj h
    exact ⟨hp, rfl⟩
  | m + 1, p, r, hp, h => by
    unfold rdNs at h
    obtain ⟨q, hq, h⟩ := Option.bind_eq_some_iff.1 h
    obtain ⟨s, hs, h⟩ := Option.bind_eq_some_iff.1 h
    obtain rfl := Option.some.inj h
    have := rdNs_le m q.2 s (rdN_le b hq) hs
    exact ⟨this.1, by simp [this.2]⟩
theorem rdV_le {p : Nat} {r : S84 × Nat} (h : rdV b p = some r) : r.2 ≤ b.length ∧ r.1.f1.length ≤ 4096 ∧ r.1.f2.length ≤ 4096 := by
  unfold rdV at h
  obtain ⟨f, hf, h⟩ := Option.bind_eq_some_iff.1 h
  obtain ⟨c, hc, h⟩ := Option.bind_eq_some_iff.1 h
  obtain ⟨ts, hts, h⟩ := Option.bind_eq_some_iff.1 h
  obtain ⟨d, hd, h⟩ := Option.bind_eq_some_iff.1 h
  obtain ⟨ns, hns, h⟩ := Option.bind_eq_some_iff.1 h
  obtain rfl := Option.some.inj h
  have h1 := rdC_le b hc
  have h2 := rdC_le b hd
  have h3 := rdTs_le b _ _ _ h1.2 hts
  have h4 := rdNs_le b _ _ _ h2.2 hns
  exact ⟨h4.1, by rw [h3.2]; exact h1.1, by rw [h4.2]; exact h2.1⟩
theorem rdVs_le : ∀ (m p : Nat) (r : List S84 × Nat), p ≤ b.length → rdVs b m p = some r → r.2 ≤ b.length ∧ r.1.length = m ∧ ∀ x ∈ r.1, x.f1.length ≤ 4096 ∧ x.f2.length ≤ 4096
  | 0, p, r, hp, h => by
    obtain rfl := Option.some.inj h
    exact ⟨hp, rfl, by simp⟩
  | m + 1, p, r, hp, h => by
    unfold rdVs at h
    obtain ⟨q, hq, h⟩ := Option.bind_eq_some_iff.1 h
    obtain ⟨s, hs, h⟩ := Option.bind_eq_some_iff.1 h
    obtain rfl := Option.some.inj h
    have h0 := rdV_le b hq
    have := rdVs_le m q.2 s h0.1 hs
    exact ⟨this.1, by simp [this.2.1], fun x hx => (List.mem_cons.1 hx).elim (fun e => e ▸ h0.2) (this.2.2 x)⟩
theorem num_bad (p : Int) : Ev (fun k => spec_l06Reader_num.f k b p true) (0, p, true) := Ev.ite_pos rfl (Ev.now _)
theorem count_bad (p : Int) : Ev (fun k => spec_l06Reader_count.f k b p true) (0, p, true) := Ev.bind (num_bad b p) (Ev.ite_neg (by simp) (Ev.now _))
variable (hb : IsB b) (hl : b.length ≤ 1048576)
include hb hl
theorem num_ev (p : Nat) (hp : p ≤ b.length) : (∀ r, getB b p = some r → Ev (fun k => spec_l06Reader_num.f k b (p : Int) false) ((r.1 : Int), (r.2 : Int), false)) ∧ (getB b p = none → Ev (fun k => spec_l06Reader_num.f k b (p : Int) false) (0, (p : Int), true)) := by
  have h := specGet_ev b p hb hl hp
  refine ⟨fun r hr => Ev.ite_neg (by simp) (Ev.bind (h.1 r hr) (Ev.ite_pos rfl (Ev.now _))), fun hr => ?_⟩
  obtain ⟨x, y, h⟩ := h.2 hr
  exact Ev.ite_neg (by simp) (Ev.bind h (Ev.ite_neg (by simp) (Ev.now _)))
theorem specT_ev (p : Nat) (hp : p ≤ b.length) : (∀ r, rdT b p = some r → Ev (fun k => spec_l06Reader_text.f k b (p : Int) false) (r.1, (r.2 : Int), false)) ∧ (rdT b p = none → ∃ q, Ev (fun k => spec_l06Reader_text.f k b (p : Int) false) (ByteArray.empty, q, true)) := by
  have h := num_ev b hb hl p hp
  unfold rdT
  rcases opt_split (getB b p) with hg | ⟨⟨v, n⟩, hg⟩
  · rw [hg]
    exact ⟨fun r hr => by simp at hr, fun _ => ⟨_, Ev.bind (h.2 hg) (Ev.ite_pos rfl (Ev.now _))⟩⟩
  · have hle := getB_le b p hg
    have hle1 : v ≤ 9223372036854775807 := hle.1
    have hle2 : n ≤ b.length := hle.2.2
    rw [hg]
    have w1 : wrap64 ((b.length : Int) - (n : Int)) = (b.length : Int) - (n : Int) := wrap64_of (by omega) (by omega)
    by_cases h1 : v ≤ 65536 ∧ n + v ≤ b.length
    · have e : (Option.bind (some (v, n)) fun r => if r.1 ≤ 65536 ∧ r.2 + r.1 ≤ b.length then some (strOfNums ((b.take (r.2 + r.1)).drop r.2), r.2 + r.1) else none) = some (strOfNums ((b.take (n + v)).drop n), n + v) := if_pos h1
      rw [e]
      refine ⟨fun r hr => ?_, fun hr => by simp at hr⟩
      obtain rfl := Option.some.inj hr
      refine Ev.bind (h.1 _ hg) (Ev.ite_neg (by simp) ?_)
      have w2 : wrap64 ((n : Int) + (v : Int)) = ((n + v : Nat) : Int) := by rw [wrap64_of (by omega) (by omega)]; omega
      have w3 : wrap64 (((n + v : Nat) : Int) - (v : Int)) = (n : Int) := by rw [wrap64_of (by omega) (by omega)]; omega
      show Ev (fun k => if (v : Int) > wrap64 ((b.length : Int) - (n : Int)) then _ else _) _
      rw [w1]
      refine Ev.ite_neg (by omega) (Ev.ite_neg (by show ¬ (v : Int) > 65536; omega) ?_)
      show Ev (fun k => if 0 ≤ wrap64 (wrap64 ((n : Int) + (v : Int)) - (v : Int)) ∧ wrap64 (wrap64 ((n : Int) + (v : Int)) - (v : Int)) ≤ wrap64 ((n : Int) + (v : Int)) ∧ wrap64 ((n : Int) + (v : Int)) ≤ (b.length : Int) then some (strOfNums ((b.take (wrap64 ((n : Int) + (v : Int))).toNat).drop (wrap64 (wrap64 ((n : Int) + (v : Int)) - (v : Int))).toNat), wrap64 ((n : Int) + (v : Int)), false) else none) _
      rw [w2, w3]
      exact Ev.ite_pos ⟨by omega, by omega, by omega⟩ (Ev.now _)
    · have e : (Option.bind (some (v, n)) fun r => if r.1 ≤ 65536 ∧ r.2 + r.1 ≤ b.length then some (strOfNums ((b.take (r.2 + r.1)).drop r.2), r.2 + r.1) else none) = none := if_neg h1
      rw [e]
      refine ⟨fun r hr => by simp at hr, fun _ => ⟨(n : Int), Ev.bind (h.1 _ hg) (Ev.ite_neg (by simp) ?_)⟩⟩
      show Ev (fun k => if (v : Int) > wrap64 ((b.length : Int) - (n : Int)) then _ else _) _
      rw [w1]
      by_cases h2 : (v : Int) > (b.length : Int) - (n : Int)
      · exact Ev.ite_pos h2 (Ev.now _)
      · exact Ev.ite_neg h2 (Ev.ite_pos (by show (v : Int) > 65536; omega) (Ev.now _))
theorem specC_ev (p : Nat) (hp : p ≤ b.length) : (∀ r, rdC b p = some r → Ev (fun k => spec_l06Reader_count.f k b (p : Int) false) ((r.1 : Int), (r.2 : Int), false)) ∧ (rdC b p = none → ∃ q, Ev (fun k => spec_l06Reader_count.f k b (p : Int) false) (0, q, true)) := by
  have h := num_ev b hb hl p hp
  unfold rdC
  rcases opt_split (getB b p) with hg | ⟨⟨v, n⟩, hg⟩
  · rw [hg]
    exact ⟨fun r hr => by simp at hr, fun _ => ⟨_, Ev.bind (h.2 hg) (Ev.ite_neg (by simp) (Ev.now _))⟩⟩
  · rw [hg]
    by_cases h1 : v ≤ 4096
    · refine ⟨fun r hr => ?_, fun hr => ?_⟩
      · have e : r = (v, n) := by simpa [h1] using hr.symm
        subst e
        exact Ev.bind (h.1 _ hg) (Ev.ite_neg (by show ¬ (v : Int) > 4096; omega) (Ev.now _))
      · simp [h1] at hr
    · refine ⟨fun r hr => ?_, fun hr => ⟨_, Ev.bind (h.1 _ hg) (Ev.ite_pos (by show (v : Int) > 4096; omega) (Ev.now _))⟩⟩
      simp [h1] at hr
omit hb hl in
theorem numV_odd {v : Nat} (h : v % 2 = 1) (hv : v ≤ 2000000000000) : wrap64 (Int.tdiv (wrap64 (-(wrap64 ((v : Int) + 1)))) 2) = numV v := by
  unfold numV
  rw [if_pos h, wrap64_of (x := (v : Int) + 1) (by omega) (by omega), wrap64_of (x := -((v : Int) + 1)) (by omega) (by omega), Int.neg_tdiv, Int.tdiv_eq_ediv_of_nonneg (by omega), wrap64_of (by omega) (by omega)]
  omega
omit hb hl in
theorem numV_even {v : Nat} (h : ¬ v % 2 = 1) (hv : v ≤ 2000000000000) : wrap64 (Int.tdiv (v : Int) 2) = numV v := by
  unfold numV
  rw [if_neg h, Int.tdiv_eq_ediv_of_nonneg (by omega), wrap64_of (by omega) (by omega)]
  omega
omit hb hl in
theorem tmod_odd {v : Nat} : Int.tmod (v : Int) 2 = 1 ↔ v % 2 = 1 := by
  rw [Int.tmod_eq_emod_of_nonneg (by omega)]
  omega
theorem specN_ev (p : Nat) (hp : p ≤ b.length) : (∀ r, rdN b p = some r → Ev (fun k => spec_l06Reader_number.f k b (p : Int) false) (r.1, (r.2 : Int), false)) ∧ (rdN b p = none → ∃ x q, Ev (fun k => spec_l06Reader_number.f k b (p : Int) false) (x, q, true)) := by
  have h := num_ev b hb hl p hp
  unfold rdN
  rcases opt_split (getB b p) with hg | ⟨⟨v, n⟩, hg⟩
  · rw [hg]
    exact ⟨fun r hr => by simp at hr, fun _ => ⟨_, _, Ev.bind (h.2 hg) (Ev.ite_neg (by simp) (Ev.ite_neg (by show ¬ Int.tmod 0 2 = 1; decide) (Ev.now _)))⟩⟩
  · rw [hg]
    by_cases h1 : v ≤ 2000000000000
    · refine ⟨fun r hr => ?_, fun hr => ?_⟩
      · have e : r = (numV v, n) := by simpa [h1] using hr.symm
        subst e
        refine Ev.bind (h.1 _ hg) (Ev.ite_neg (by show ¬ (v : Int) > 2000000000000; omega) ?_)
        by_cases h2 : v % 2 = 1
        · exact Ev.ite_pos (tmod_odd |>.2 h2) (Ev.eq (Ev.now _) (by rw [← numV_odd h2 h1]))
        · exact Ev.ite_neg (fun h3 => h2 ((tmod_odd).1 h3)) (Ev.eq (Ev.now _) (by rw [← numV_even h2 h1]))
      · simp [h1] at hr
    · refine ⟨fun r hr => ?_, fun hr => ⟨_, _, Ev.bind (h.1 _ hg) (Ev.ite_pos (by show (v : Int) > 2000000000000; omega) (Ev.now _))⟩⟩
      simp [h1] at hr
omit hb hl in
theorem wrap_pred (m : Nat) (h : m ≤ 4096) : wrap64 (((m + 1 : Nat) : Int) - 1) = (m : Int) := by
  rw [wrap64_of (by omega) (by omega)]
  omega
def Bad (g : Nat → Option (ByteArray × List S84 × Int × Bool)) : Prop := ∃ x y z, Ev g (x, y, z, true)
omit hb hl in
theorem badL0 (x4 p : Int) (id : ByteArray) (vs : List S84) : Bad (fun k => spec_l06Reader_doc.l0 k x4 b p true id vs) := by
  refine ⟨id, vs, p, Ev.step (fun k => spec_l06Reader_doc.l0.eq_2 _ _ _ _ _ _ k) ?_⟩
  by_cases h : x4 > 0
  · exact Ev.ite_pos h (Ev.step (fun k => spec_l06Reader_doc.j1.eq_2 _ _ _ _ _ _ _ k) (Ev.ite_neg (by simp) (Ev.now _)))
  · exact Ev.ite_neg h (Ev.step (fun k => spec_l06Reader_doc.j1.eq_2 _ _ _ _ _ _ _ k) (Ev.ite_neg (by simp) (Ev.now _)))
omit hb hl in
theorem Bad.step {g f : Nat → Option (ByteArray × List S84 × Int × Bool)} (h : ∀ k, g (k + 1) = f k) (k : Bad f) : Bad g := by
  obtain ⟨x, y, z, k⟩ := k
  exact ⟨x, y, z, Ev.step h k⟩
omit hb hl in
theorem Bad.of {g f : Nat → Option (ByteArray × List S84 × Int × Bool)} (h : ∀ r, Ev f r → Ev g r) (k : Bad f) : Bad g := by
  obtain ⟨x, y, z, k⟩ := k
  exact ⟨x, y, z, h _ k⟩
omit hb hl in
theorem badL2 (x4 x7 p : Int) (id f : ByteArray) (vs : List S84) (ts : List ByteArray) (ns : List Int) (hv : vs.length < 2199023255552) : Bad (fun k => spec_l06Reader_doc.l2 k x4 x7 b p true id vs f ts ns) := by
  refine Bad.step (fun k => spec_l06Reader_doc.l2.eq_2 _ _ _ _ _ _ _ _ _ _ k) (Bad.of (fun r h => ?_) (badL0 b (wrap64 (x4 - 1)) p id (vs ++ [⟨f, ts, ns⟩])))
  by_cases h7 : x7 > 0
  · exact Ev.ite_pos h7 (Ev.ite_pos rfl (Ev.ite_pos hv h))
  · exact Ev.ite_neg h7 (Ev.ite_pos hv h)
omit hb hl in
theorem badJ3 (x4 p : Int) (id f : ByteArray) (vs : List S84) (ts : List ByteArray) (hv : vs.length < 2199023255552) : Bad (fun k => spec_l06Reader_doc.j3 k x4 b p true id vs f ts) :=
  Bad.step (fun k => spec_l06Reader_doc.j3.eq_2 _ _ _ _ _ _ _ _ k) (Bad.of (fun r h => Ev.bind (count_bad b p) h) (badL2 b x4 0 p id f vs ts [] hv))
omit hb hl in
theorem badL1 (x4 x6 p : Int) (id f : ByteArray) (vs : List S84) (ts : List ByteArray) (hv : vs.length < 2199023255552) : Bad (fun k => spec_l06Reader_doc.l1 k x4 x6 b p true id vs f ts) := by
  refine Bad.step (fun k => spec_l06Reader_doc.l1.eq_2 _ _ _ _ _ _ _ _ _ k) (Bad.of (fun r h => ?_) (badJ3 b x4 p id f vs ts hv))
  by_cases h6 : x6 > 0
  · exact Ev.ite_pos h6 (Ev.ite_pos rfl h)
  · exact Ev.ite_neg h6 h
theorem spec_l2 (x4 : Int) (id f : ByteArray) (vs : List S84) (ts : List ByteArray) (hv : vs.length < 2199023255552) : ∀ (m p : Nat) (ns : List Int), m ≤ 4096 → p ≤ b.length → ns.length + m ≤ 4096 →
    (∀ r, rdNs b m p = some r → ∀ R, Ev (fun k => spec_l06Reader_doc.l0 k (wrap64 (x4 - 1)) b (r.2 : Int) false id (vs ++ [⟨f, ts, ns ++ r.1⟩])) R → Ev (fun k => spec_l06Reader_doc.l2 k x4 (m : Int) b (p : Int) false id vs f ts ns) R) ∧
    (rdNs b m p = none → Bad (fun k => spec_l06Reader_doc.l2 k x4 (m : Int) b (p : Int) false id vs f ts ns)) := by
  intro m
  induction m with
  | zero =>
    intro p ns _ hp hn
    refine ⟨fun r hr R h => ?_, fun hr => by simp [rdNs] at hr⟩
    obtain rfl := Option.some.inj hr
    rw [List.append_nil] at h
    exact Ev.step (fun k => spec_l06Reader_doc.l2.eq_2 _ _ _ _ _ _ _ _ _ _ k) (Ev.ite_neg (by omega) (Ev.ite_pos hv h))
  | succ m ih =>
    intro p ns hm hp hn
    have hN := specN_ev b hb hl p hp
    unfold rdNs
    rcases opt_split (rdN b p) with hg | ⟨⟨v, n⟩, hg⟩
    · rw [hg]
      refine ⟨fun r hr => by simp at hr, fun _ => ?_⟩
      obtain ⟨x, q, hN⟩ := hN.2 hg
      exact Bad.step (fun k => spec_l06Reader_doc.l2.eq_2 _ _ _ _ _ _ _ _ _ _ k) (Bad.of (fun r h => Ev.ite_pos (by omega) (Ev.ite_neg (by simp) (Ev.bind hN (Ev.ite_pos (by omega) h)))) (badL2 b x4 (wrap64 (((m + 1 : Nat) : Int) - 1)) q id f vs ts (ns ++ [x]) hv))
    · have hle := rdN_le b hg
      have hi := ih n (ns ++ [v]) (by omega) hle (by simp; omega)
      rw [← wrap_pred m (by omega)] at hi
      have hst : ∀ R, Ev (fun k => spec_l06Reader_doc.l2 k x4 (wrap64 (((m + 1 : Nat) : Int) - 1)) b (n : Int) false id vs f ts (ns ++ [v])) R → Ev (fun k => spec_l06Reader_doc.l2 k x4 ((m + 1 : Nat) : Int) b (p : Int) false id vs f ts ns) R := fun R h =>
        Ev.step (fun k => spec_l06Reader_doc.l2.eq_2 _ _ _ _ _ _ _ _ _ _ k) (Ev.ite_pos (by omega) (Ev.ite_neg (by simp) (Ev.bind (hN.1 _ hg) (Ev.ite_pos (by omega) h))))
      rw [hg]
      show (∀ r, ((rdNs b m n).bind fun s => some (v :: s.1, s.2)) = some r → _) ∧ (((rdNs b m n).bind fun s => some (v :: s.1, s.2)) = none → _)
      rcases opt_split (rdNs b m n) with hs | ⟨s, hs⟩
      · rw [hs]
        exact ⟨fun r hr => by simp at hr, fun _ => Bad.of hst (hi.2 hs)⟩
      · rw [hs]
        refine ⟨fun r hr R h => ?_, fun hr => by simp at hr⟩
        obtain rfl := Option.some.inj hr
        exact hst R (hi.1 s hs R (by rw [show ns ++ [v] ++ s.1 = ns ++ v :: s.1 from by simp]; exact h))
theorem spec_l1 (x4 : Int) (id f : ByteArray) (vs : List S84) (hv : vs.length < 2199023255552) : ∀ (m p : Nat) (ts : List ByteArray), m ≤ 4096 → p ≤ b.length → ts.length + m ≤ 4096 →
    (∀ r, rdTs b m p = some r → ∀ R, Ev (fun k => spec_l06Reader_doc.j3 k x4 b (r.2 : Int) false id vs f (ts ++ r.1)) R → Ev (fun k => spec_l06Reader_doc.l1 k x4 (m : Int) b (p : Int) false id vs f ts) R) ∧
    (rdTs b m p = none → Bad (fun k => spec_l06Reader_doc.l1 k x4 (m : Int) b (p : Int) false id vs f ts)) := by
  intro m
  induction m with
  | zero =>
    intro p ts _ hp hn
    refine ⟨fun r hr R h => ?_, fun hr => by simp [rdTs] at hr⟩
    obtain rfl := Option.some.inj hr
    rw [List.append_nil] at h
    exact Ev.step (fun k => spec_l06Reader_doc.l1.eq_2 _ _ _ _ _ _ _ _ _ k) (Ev.ite_neg (by omega) h)
  | succ m ih =>
    intro p ts hm hp hn
    have hN := specT_ev b hb hl p hp
    unfold rdTs
    rcases opt_split (rdT b p) with hg | ⟨⟨v, n⟩, hg⟩
    · rw [hg]
      refine ⟨fun r hr => by simp at hr, fun _ => ?_⟩
      obtain ⟨q, hN⟩ := hN.2 hg
      exact Bad.step (fun k => spec_l06Reader_doc.l1.eq_2 _ _ _ _ _ _ _ _ _ k) (Bad.of (fun r h => Ev.ite_pos (by omega) (Ev.ite_neg (by simp) (Ev.bind hN (Ev.ite_pos (by omega) h)))) (badL1 b x4 (wrap64 (((m + 1 : Nat) : Int) - 1)) q id f vs (ts ++ [ByteArray.empty]) hv))
    · have hle := rdT_le b hg
      have hi := ih n (ts ++ [v]) (by omega) hle (by simp; omega)
      rw [← wrap_pred m (by omega)] at hi
      have hst : ∀ R, Ev (fun k => spec_l06Reader_doc.l1 k x4 (wrap64 (((m + 1 : Nat) : Int) - 1)) b (n : Int) false id vs f (ts ++ [v])) R → Ev (fun k => spec_l06Reader_doc.l1 k x4 ((m + 1 : Nat) : Int) b (p : Int) false id vs f ts) R := fun R h =>
        Ev.step (fun k => spec_l06Reader_doc.l1.eq_2 _ _ _ _ _ _ _ _ _ k) (Ev.ite_pos (by omega) (Ev.ite_neg (by simp) (Ev.bind (hN.1 _ hg) (Ev.ite_pos (by omega) h))))
      rw [hg]
      show (∀ r, ((rdTs b m n).bind fun s => some (v :: s.1, s.2)) = some r → _) ∧ (((rdTs b m n).bind fun s => some (v :: s.1, s.2)) = none → _)
      rcases opt_split (rdTs b m n) with hs | ⟨s, hs⟩
      · rw [hs]
        exact ⟨fun r hr => by simp at hr, fun _ => Bad.of hst (hi.2 hs)⟩
      · rw [hs]
        refine ⟨fun r hr R h => ?_, fun hr => by simp at hr⟩
        obtain rfl := Option.some.inj hr
        exact hst R (hi.1 s hs R (by rw [show ts ++ [v] ++ s.1 = ts ++ v :: s.1 from by simp]; exact h))
theorem spec_l0 (id : ByteArray) : ∀ (m p : Nat) (vs : List S84), m ≤ 4096 → p ≤ b.length → vs.length + m ≤ 4096 →
    (∀ r, rdVs b m p = some r → Ev (fun k => spec_l06Reader_doc.l0 k (m : Int) b (p : Int) false id vs) (id, vs ++ r.1, (r.2 : Int), false)) ∧
    (rdVs b m p = none → Bad (fun k => spec_l06Reader_doc.l0 k (m : Int) b (p : Int) false id vs)) := by
  intro m
  induction m with
  | zero =>
    intro p vs _ hp hn
    refine ⟨fun r hr => ?_, fun hr => by simp [rdVs] at hr⟩
    obtain rfl := Option.some.inj hr
    rw [List.append_nil]
    exact Ev.step (fun k => spec_l06Reader_doc.l0.eq_2 _ _ _ _ _ _ k) (Ev.ite_neg (by omega) (Ev.step (fun k => spec_l06Reader_doc.j1.eq_2 _ _ _ _ _ _ _ k) (Ev.ite_neg (by simp) (Ev.now _))))
  | succ m ih =>
    intro p vs hm hp hn
    have hst : ∀ {g : Nat → Option (ByteArray × List S84 × Int × Bool)} (R : ByteArray × List S84 × Int × Bool), (∀ k, g k = ((spec_l06Reader_text.f k b (p : Int) false).bind fun bt343 => ((spec_l06Reader_count.f k b bt343.2.1 bt343.2.2).bind fun bt347 => (spec_l06Reader_doc.l1 k ((m + 1 : Nat) : Int) bt347.1 b bt347.2.1 bt347.2.2 id vs bt343.1 ([] : List ByteArray))))) → Ev g R → Ev (fun k => spec_l06Reader_doc.l0 k ((m + 1 : Nat) : Int) b (p : Int) false id vs) R := fun {g} R hg h =>
      Ev.step (fun k => spec_l06Reader_doc.l0.eq_2 _ _ _ _ _ _ k) (Ev.ite_pos (by omega) (Ev.step (fun k => spec_l06Reader_doc.j1.eq_2 _ _ _ _ _ _ _ k) (Ev.ite_pos rfl (Ev.congr (fun k => (hg k).symm) h))))
    have hT := specT_ev b hb hl p hp
    unfold rdVs rdV
    rcases opt_split (rdT b p) with hg | ⟨⟨f, n⟩, hg⟩
    · rw [hg]
      refine ⟨fun r hr => by simp at hr, fun _ => ?_⟩
      obtain ⟨q, hT⟩ := hT.2 hg
      exact Bad.of (fun r h => hst r (fun _ => rfl) (Ev.bind hT (Ev.bind (count_bad b q) h))) (badL1 b _ 0 q id _ vs [] (by omega))
    · rw [hg]
      have hle := rdT_le b hg
      have hC := specC_ev b hb hl n hle
      rcases opt_split (rdC b n) with hg2 | ⟨⟨c, n2⟩, hg2⟩
      · refine ⟨fun r hr => by simp [hg2] at hr, fun _ => ?_⟩
        obtain ⟨q, hC⟩ := hC.2 hg2
        exact Bad.of (fun r h => hst r (fun _ => rfl) (Ev.bind (hT.1 _ hg) (Ev.bind hC h))) (badL1 b _ 0 q id _ vs [] (by omega))
      · have hle2 := rdC_le b hg2
        have h1 := spec_l1 b hb hl ((m + 1 : Nat) : Int) id f vs (by omega) c n2 [] hle2.1 hle2.2 (by simpa using hle2.1)
        have hst1 : ∀ R, Ev (fun k => spec_l06Reader_doc.l1 k ((m + 1 : Nat) : Int) (c : Int) b (n2 : Int) false id vs f []) R → Ev (fun k => spec_l06Reader_doc.l0 k ((m + 1 : Nat) : Int) b (p : Int) false id vs) R := fun R h => hst R (fun _ => rfl) (Ev.bind (hT.1 _ hg) (Ev.bind (hC.1 _ hg2) h))
        rcases opt_split (rdTs b c n2) with hg3 | ⟨⟨ts, n3⟩, hg3⟩
        · exact ⟨fun r hr => by simp [hg2, hg3] at hr, fun _ => Bad.of hst1 (h1.2 hg3)⟩
        · have hle3 := rdTs_le b _ _ _ hle2.2 hg3
          have hD := specC_ev b hb hl n3 hle3.1
          have hst2 : ∀ R, Ev (fun k => spec_l06Reader_doc.j3 k ((m + 1 : Nat) : Int) b (n3 : Int) false id vs f ts) R → Ev (fun k => spec_l06Reader_doc.l0 k ((m + 1 : Nat) : Int) b (p : Int) false id vs) R := fun R h => hst1 R (h1.1 _ hg3 R (by simpa using h))
          rcases opt_split (rdC b n3) with hg4 | ⟨⟨d, n4⟩, hg4⟩
          · refine ⟨fun r hr => by simp [hg2, hg3, hg4] at hr, fun _ => ?_⟩
            obtain ⟨q, hD⟩ := hD.2 hg4
            exact Bad.of (fun r h => hst2 r (Ev.step (fun k => spec_l06Reader_doc.j3.eq_2 _ _ _ _ _ _ _ _ k) (Ev.bind hD h))) (badL2 b ((m + 1 : Nat) : Int) 0 q id f vs ts [] (by omega))
          · have hle4 := rdC_le b hg4
            have h2 := spec_l2 b hb hl ((m + 1 : Nat) : Int) id f vs ts (by omega) d n4 [] hle4.1 hle4.2 (by simpa using hle4.1)
            have hst3 : ∀ R, Ev (fun k => spec_l06Reader_doc.l2 k ((m + 1 : Nat) : Int) (d : Int) b (n4 : Int) false id vs f ts []) R → Ev (fun k => spec_l06Reader_doc.l0 k ((m + 1 : Nat) : Int) b (p : Int) false id vs) R := fun R h => hst2 R (Ev.step (fun k => spec_l06Reader_doc.j3.eq_2 _ _ _ _ _ _ _ _ k) (Ev.bind (hD.1 _ hg4) h))
            rcases opt_split (rdNs b d n4) with hg5 | ⟨⟨ns, n5⟩, hg5⟩
            · exact ⟨fun r hr => by simp [hg2, hg3, hg4, hg5] at hr, fun _ => Bad.of hst3 (h2.2 hg5)⟩
            · have hle5 := rdNs_le b _ _ _ hle4.2 hg5
              have hi := ih n5 (vs ++ [⟨f, ts, ns⟩]) (by omega) hle5.1 (by simp; omega)
              rw [← wrap_pred m (by omega)] at hi
              have hst4 : ∀ R, Ev (fun k => spec_l06Reader_doc.l0 k (wrap64 (((m + 1 : Nat) : Int) - 1)) b (n5 : Int) false id (vs ++ [⟨f, ts, ns⟩])) R → Ev (fun k => spec_l06Reader_doc.l0 k ((m + 1 : Nat) : Int) b (p : Int) false id vs) R := fun R h => hst3 R (h2.1 _ hg5 R (by simpa using h))
              rcases opt_split (rdVs b m n5) with hs | ⟨s, hs⟩
              · exact ⟨fun r hr => by simp [hg2, hg3, hg4, hg5, hs] at hr, fun _ => Bad.of hst4 (hi.2 hs)⟩
              · refine ⟨fun r hr => ?_, fun hr => by simp [hg2, hg3, hg4, hg5, hs] at hr⟩
                have e : r = ((⟨f, ts, ns⟩ : S84) :: s.1, s.2) := by simpa [hg2, hg3, hg4, hg5, hs] using hr.symm
                subst e
                exact hst4 _ (Ev.eq (hi.1 s hs) (by simp))
theorem specDoc_ev : (∀ r, rdD b = some r → Ev (fun k => spec_l06Reader_doc.f k b 0 false) (r.1, r.2.1, (r.2.2 : Int), false)) ∧ (rdD b = none → Bad (fun k => spec_l06Reader_doc.f k b 0 false)) := by
  have hT := specT_ev b hb hl 0 (by omega)
  unfold rdD
  rcases opt_split (rdT b 0) with hg | ⟨⟨f, n⟩, hg⟩
  · rw [hg]
    refine ⟨fun r hr => by simp at hr, fun _ => ?_⟩
    obtain ⟨q, hT⟩ := hT.2 hg
    exact Bad.of (fun r h => Ev.bind hT (Ev.bind (count_bad b q) h)) (badL0 b 0 q _ [])
  · rw [hg]
    have hle := rdT_le b hg
    have hC := specC_ev b hb hl n hle
    rcases opt_split (rdC b n) with hg2 | ⟨⟨c, n2⟩, hg2⟩
    · refine ⟨fun r hr => by simp [hg2] at hr, fun _ => ?_⟩
      obtain ⟨q, hC⟩ := hC.2 hg2
      exact Bad.of (fun r h => Ev.bind (hT.1 _ hg) (Ev.bind hC h)) (badL0 b 0 q _ [])
    · have hle2 := rdC_le b hg2
      have h0 := spec_l0 b hb hl f c n2 [] hle2.1 hle2.2 (by simpa using hle2.1)
      have hst : ∀ R, Ev (fun k => spec_l06Reader_doc.l0 k (c : Int) b (n2 : Int) false f []) R → Ev (fun k => spec_l06Reader_doc.f k b 0 false) R := fun R h => Ev.bind (hT.1 _ hg) (Ev.bind (hC.1 _ hg2) h)
      rcases opt_split (rdVs b c n2) with hs | ⟨s, hs⟩
      · exact ⟨fun r hr => by simp [hg2, hs] at hr, fun _ => Bad.of hst (h0.2 hs)⟩
      · refine ⟨fun r hr => ?_, fun hr => by simp [hg2, hs] at hr⟩
        have e : r = (f, s.1, s.2) := by simpa [hg2, hs] using hr.symm
        subst e
        exact hst _ (h0.1 s hs)
theorem spec_ReadDoc_ev : Ev (fun k => spec_ReadDoc.f k b) (rdR b) := by
  have h := specDoc_ev b hb hl
  unfold rdR
  rcases opt_split (rdD b) with hg | ⟨⟨id, vs, n⟩, hg⟩
  · rw [hg]
    obtain ⟨x, y, z, h⟩ := h.2 hg
    exact Ev.ite_neg (by omega) (Ev.bind h (Ev.ite_pos rfl (Ev.now _)))
  · rw [hg]
    refine Ev.ite_neg (by omega) (Ev.bind (h.1 _ hg) (Ev.ite_neg (by simp) ?_))
    by_cases hn : n = b.length
    · rw [show (match some (id, vs, n) with | some r => if r.2.2 = b.length then (r.1, r.2.1, (0 : Int)) else (ByteArray.empty, [], 15) | none => (ByteArray.empty, [], 15)) = (id, vs, 0) from if_pos hn]
      exact Ev.ite_pos (by show (n : Int) = _; omega) (Ev.now _)
    · rw [show (match some (id, vs, n) with | some r => if r.2.2 = b.length then (r.1, r.2.1, (0 : Int)) else (ByteArray.empty, [], 15) | none => (ByteArray.empty, [], 15)) = (ByteArray.empty, [], 15) from if_neg hn]
      exact Ev.ite_neg (by show ¬ (n : Int) = _; omega) (Ev.now _)
end
end Go.Proofs.Ytndjodgcemgpfaa.Q
end

section
set_option linter.unusedVariables false
set_option linter.unusedSimpArgs false
namespace Go.Proofs.Ytndjodgcemgpfaa.Q
open Go.RowKit Go.Proofs.YtndjodgcemgpfaaW.PrintWords Go.Proofs.YtndjodgcemgpfaaW.PrintLast Go.Proofs.YtndjodgcemgpfaaW.PrintMore
section
variable (b : List Int)
theorem int_bad (p m : Int) : Ev (fun k => impl_docReader_int.f k b p true m) (0, p, true) := Ev.ite_pos rfl (Ev.now _)
variable (hb : IsB b) (hl : b.length ≤ 1048576)
include hb hl
theorem int_ev (p m : Nat) (hp : p ≤ b.length) :
    (∀ r, getB b p = some r → r.1 ≤ m → Ev (fun k => impl_docReader_int.f k b (p : Int) false (m : Int)) ((r.1 : Int), (r.2 : Int), false)) ∧
    (∀ r, getB b p = some r → ¬ r.1 ≤ m → Ev (fun k => impl_docReader_int.f k b (p : Int) false (m : Int)) (0, (p : Int), true)) ∧
    (getB b p = none → Ev (fun k => impl_docReader_int.f k b (p : Int) false (m : Int)) (0, (p : Int), true)) := by
  have h := implGet_ev b p hb hl hp
  refine ⟨fun r hr hm => Ev.ite_neg (by simp) (Ev.bind (h.1 r hr) (Ev.ite_pos rfl (Ev.ite_neg (by show ¬ (r.1 : Int) > (m : Int); omega) (Ev.now _)))),
    fun r hr hm => Ev.ite_neg (by simp) (Ev.bind (h.1 r hr) (Ev.ite_pos rfl (Ev.ite_pos (by show (r.1 : Int) > (m : Int); omega) (Ev.now _)))),
    fun hr => Ev.ite_neg (by simp) (Ev.bind (h.2 hr) (Ev.ite_neg (by simp) (Ev.now _)))⟩
theorem implT_ev (p : Nat) (hp : p ≤ b.length) : (∀ r, rdT b p = some r → Ev (fun k => impl_docReader_text.f k b (p : Int) false) (r.1, (r.2 : Int), false)) ∧ (rdT b p = none → ∃ q, Ev (fun k => impl_docReader_text.f k b (p : Int) false) (ByteArray.empty, q, true)) := by
  have h := int_ev b hb hl p 65536 hp
  unfold rdT
  rcases opt_split (getB b p) with hg | ⟨⟨v, n⟩, hg⟩
  · rw [hg]
    exact ⟨fun r hr => by simp at hr, fun _ => ⟨_, Ev.bind (h.2.2 hg) (Ev.ite_pos rfl (Ev.now _))⟩⟩
  · have hle := getB_le b p hg
    have hle1 : v ≤ 9223372036854775807 := hle.1
    have hle2 : n ≤ b.length := hle.2.2
    rw [hg]
    by_cases hv : v ≤ 65536
    · have w2 : wrap64 ((n : Int) + (v : Int)) = ((n + v : Nat) : Int) := by rw [wrap64_of (by omega) (by omega)]; omega
      have w3 : wrap64 (((n + v : Nat) : Int) - (v : Int)) = (n : Int) := by rw [wrap64_of (by omega) (by omega)]; omega
      have hst : ∀ R, Ev (fun _ : Nat => if wrap64 ((n : Int) + (v : Int)) > (b.length : Int) then some (ByteArray.empty, (n : Int), true) else if 0 ≤ wrap64 (wrap64 ((n : Int) + (v : Int)) - (v : Int)) ∧ wrap64 (wrap64 ((n : Int) + (v : Int)) - (v : Int)) ≤ wrap64 ((n : Int) + (v : Int)) then some (strOfNums ((b.take (wrap64 ((n : Int) + (v : Int))).toNat).drop (wrap64 (wrap64 ((n : Int) + (v : Int)) - (v : Int))).toNat), wrap64 ((n : Int) + (v : Int)), false) else none) R → Ev (fun k => impl_docReader_text.f k b (p : Int) false) R := fun R hR =>
        Ev.bind (h.1 _ hg hv) (Ev.ite_neg (by simp) hR)
      rw [w2, w3] at hst
      by_cases h1 : n + v ≤ b.length
      · have e : (Option.bind (some (v, n)) fun r => if r.1 ≤ 65536 ∧ r.2 + r.1 ≤ b.length then some (strOfNums ((b.take (r.2 + r.1)).drop r.2), r.2 + r.1) else none) = some (strOfNums ((b.take (n + v)).drop n), n + v) := if_pos ⟨hv, h1⟩
        rw [e]
        refine ⟨fun r hr => ?_, fun hr => by simp at hr⟩
        obtain rfl := Option.some.inj hr
        exact hst _ (Ev.ite_neg (by omega) (Ev.ite_pos ⟨by omega, by omega⟩ (Ev.now _)))
      · have e : (Option.bind (some (v, n)) fun r => if r.1 ≤ 65536 ∧ r.2 + r.1 ≤ b.length then some (strOfNums ((b.take (r.2 + r.1)).drop r.2), r.2 + r.1) else none) = none := if_neg (fun hh => h1 hh.2)
        rw [e]
        exact ⟨fun r hr => by simp at hr, fun _ => ⟨_, hst _ (Ev.ite_pos (by omega) (Ev.now _))⟩⟩
    · have e : (Option.bind (some (v, n)) fun r => if r.1 ≤ 65536 ∧ r.2 + r.1 ≤ b.length then some (strOfNums ((b.take (r.2 + r.1)).drop r.2), r.2 + r.1) else none) = none := if_neg (fun hh => hv hh.1)
      rw [e]
      exact ⟨fun r hr => by simp at hr, fun _ => ⟨_, Ev.bind (h.2.1 _ hg hv) (Ev.ite_pos rfl (Ev.now _))⟩⟩
theorem implC_ev (p : Nat) (hp : p ≤ b.length) : (∀ r, rdC b p = some r → Ev (fun k => impl_docReader_int.f k b (p : Int) false 4096) ((r.1 : Int), (r.2 : Int), false)) ∧ (rdC b p = none → ∃ q, Ev (fun k => impl_docReader_int.f k b (p : Int) false 4096) (0, q, true)) := by
  have h := int_ev b hb hl p 4096 hp
  unfold rdC
  rcases opt_split (getB b p) with hg | ⟨⟨v, n⟩, hg⟩
  · rw [hg]
    exact ⟨fun r hr => by simp at hr, fun _ => ⟨_, h.2.2 hg⟩⟩
  · rw [hg]
    by_cases h1 : v ≤ 4096
    · refine ⟨fun r hr => ?_, fun hr => by simp [h1] at hr⟩
      have e : r = (v, n) := by simpa [h1] using hr.symm
      subst e
      exact h.1 _ hg h1
    · exact ⟨fun r hr => by simp [h1] at hr, fun hr => ⟨_, h.2.1 _ hg h1⟩⟩
omit hb hl in
theorem ibadL2 (x10 x11 p : Int) (id f : ByteArray) (vs : List S84) (ts : List ByteArray) (ns : List Int) (hv : vs.length < 2199023255552) : Bad (fun k => impl_docReader_doc.l2 k x10 x11 0 0 b p true id vs f ts ns) :=
  ⟨_, _, _, Ev.step (fun k => impl_docReader_doc.l2.eq_2 _ _ _ _ _ _ _ _ _ _ _ _ k) (Ev.ite_neg (by omega) (Ev.ite_pos hv (Ev.some_bind (Ev.ite_pos rfl (Ev.now _)))))⟩
omit hb hl in
theorem ibadL1 (x10 x11 p : Int) (id f : ByteArray) (vs : List S84) (ts : List ByteArray) (hv : vs.length < 2199023255552) : Bad (fun k => impl_docReader_doc.l1 k x10 x11 0 0 b p true id vs f ts) :=
  Bad.step (fun k => impl_docReader_doc.l1.eq_2 _ _ _ _ _ _ _ _ _ _ _ k) (Bad.of (fun r h => Ev.ite_neg (by omega) (Ev.bind (int_bad b p 4096) h)) (ibadL2 b x10 x11 p id f vs ts [] hv))
theorem rimpl_l2 (x10 x11 : Int) (id f : ByteArray) (vs : List S84) (ts : List ByteArray) (hv : vs.length < 2199023255552) (n : Nat) (hn : n ≤ 4096) : ∀ (m i p : Nat) (ns : List Int), i + m = n → p ≤ b.length → ns.length + m ≤ 4096 →
    (∀ r, rdNs b m p = some r → ∀ R, Ev (fun k => impl_docReader_doc.l0 k x10 (wrap64 (x11 + 1)) b (r.2 : Int) false id (vs ++ [⟨f, ts, ns ++ r.1⟩])) R → Ev (fun k => impl_docReader_doc.l2 k x10 x11 (n : Int) (i : Int) b (p : Int) false id vs f ts ns) R) ∧
    (rdNs b m p = none → Bad (fun k => impl_docReader_doc.l2 k x10 x11 (n : Int) (i : Int) b (p : Int) false id vs f ts ns)) := by
  intro m
  induction m with
  | zero =>
    intro i p ns hi hp hns
    refine ⟨fun r hr R h => ?_, fun hr => by simp [rdNs] at hr⟩
    obtain rfl := Option.some.inj hr
    rw [List.append_nil] at h
    exact Ev.step (fun k => impl_docReader_doc.l2.eq_2 _ _ _ _ _ _ _ _ _ _ _ _ k) (Ev.ite_neg (by omega) (Ev.ite_pos hv (Ev.some_bind (Ev.ite_neg (by simp) h))))
  | succ m ih =>
    intro i p ns hi hp hns
    have hN := int_ev b hb hl p 2000000000000 hp
    have hbad : ∀ q : Int, Ev (fun k => impl_docReader_int.f k b (p : Int) false 2000000000000) (0, q, true) → Bad (fun k => impl_docReader_doc.l2 k x10 x11 (n : Int) (i : Int) b (p : Int) false id vs f ts ns) := fun q h =>
      ⟨_, _, _, Ev.step (fun k => impl_docReader_doc.l2.eq_2 _ _ _ _ _ _ _ _ _ _ _ _ k) (Ev.ite_pos (by omega) (Ev.bind h (Ev.ite_neg (by show ¬ Int.tmod 0 2 = 1; decide) (Ev.ite_pos (by omega) (Ev.ite_pos rfl (Ev.now _))))))⟩
    unfold rdNs rdN
    rcases opt_split (getB b p) with hg | ⟨⟨v, q⟩, hg⟩
    · rw [hg]
      exact ⟨fun r hr => by simp at hr, fun _ => hbad _ (hN.2.2 hg)⟩
    · rw [hg]
      by_cases hm : v ≤ 2000000000000
      · have hle : q ≤ b.length := (getB_le b p hg).2.2
        have hi' := ih (i + 1) q (ns ++ [numV v]) (by omega) hle (by simp; omega)
        rw [← wrap_succ (i := i) (by omega)] at hi'
        have hst : ∀ R, Ev (fun k => impl_docReader_doc.l2 k x10 x11 (n : Int) (wrap64 ((i : Int) + 1)) b (q : Int) false id vs f ts (ns ++ [numV v])) R → Ev (fun k => impl_docReader_doc.l2 k x10 x11 (n : Int) (i : Int) b (p : Int) false id vs f ts ns) R := fun R h => by
          refine Ev.step (fun k => impl_docReader_doc.l2.eq_2 _ _ _ _ _ _ _ _ _ _ _ _ k) (Ev.ite_pos (by omega) (Ev.bind (hN.1 _ hg hm) ?_))
          by_cases h2 : v % 2 = 1
          · rw [← numV_odd h2 hm] at h
            exact Ev.ite_pos (tmod_odd.2 h2) (Ev.ite_pos (by omega) (Ev.ite_neg (by simp) h))
          · rw [← numV_even h2 hm] at h
            exact Ev.ite_neg (fun h3 => h2 (tmod_odd.1 h3)) (Ev.ite_pos (by omega) (Ev.ite_neg (by simp) h))
        have e : ((some (v, q)).bind fun r => if r.1 ≤ 2000000000000 then some (numV r.1, r.2) else none) = some (numV v, q) := if_pos hm
        rw [e]
        show (∀ r, ((rdNs b m q).bind fun s => some (numV v :: s.1, s.2)) = some r → _) ∧ (((rdNs b m q).bind fun s => some (numV v :: s.1, s.2)) = none → _)
        rcases opt_split (rdNs b m q) with hs | ⟨s, hs⟩
        · rw [hs]
          exact ⟨fun r hr => by simp at hr, fun _ => Bad.of hst (hi'.2 hs)⟩
        · rw [hs]
          refine ⟨fun r hr R h => ?_, fun hr => by simp at hr⟩
          obtain rfl := Option.some.inj hr
          exact hst R (hi'.1 s hs R (by rw [show ns ++ [numV v] ++ s.1 = ns ++ numV v :: s.1 from by simp]; exact h))
      · have e : ((some (v, q)).bind fun r => if r.1 ≤ 2000000000000 then some (numV r.1, r.2) else none) = none := if_neg hm
        rw [e]
        exact ⟨fun r hr => by simp at hr, fun _ => hbad _ (hN.2.1 _ hg hm)⟩
theorem rimpl_l1 (x10 x11 : Int) (id f : ByteArray) (vs : List S84) (hv : vs.length < 2199023255552) (n : Nat) (hn : n ≤ 4096) : ∀ (m i p : Nat) (ts : List ByteArray), i + m = n → p ≤ b.length → ts.length + m ≤ 4096 →
    (∀ r, rdTs b m p = some r → ∀ R, Ev (fun k => (impl_docReader_int.f k b (r.2 : Int) false 4096).bind fun bt408 => impl_docReader_doc.l2 k x10 x11 bt408.1 0 b bt408.2.1 bt408.2.2 id vs f (ts ++ r.1) ([] : List Int)) R → Ev (fun k => impl_docReader_doc.l1 k x10 x11 (n : Int) (i : Int) b (p : Int) false id vs f ts) R) ∧
    (rdTs b m p = none → Bad (fun k => impl_docReader_doc.l1 k x10 x11 (n : Int) (i : Int) b (p : Int) false id vs f ts)) := by
  intro m
  induction m with
  | zero =>
    intro i p ts hi hp hts
    refine ⟨fun r hr R h => ?_, fun hr => by simp [rdTs] at hr⟩
    obtain rfl := Option.some.inj hr
    rw [List.append_nil] at h
    exact Ev.step (fun k => impl_docReader_doc.l1.eq_2 _ _ _ _ _ _ _ _ _ _ _ k) (Ev.ite_neg (by omega) h)
  | succ m ih =>
    intro i p ts hi hp hts
    have hT := implT_ev b hb hl p hp
    unfold rdTs
    rcases opt_split (rdT b p) with hg | ⟨⟨v, q⟩, hg⟩
    · rw [hg]
      refine ⟨fun r hr => by simp at hr, fun _ => ?_⟩
      obtain ⟨q, hT⟩ := hT.2 hg
      exact ⟨_, _, _, Ev.step (fun k => impl_docReader_doc.l1.eq_2 _ _ _ _ _ _ _ _ _ _ _ k) (Ev.ite_pos (by omega) (Ev.bind hT (Ev.ite_pos (by omega) (Ev.ite_pos rfl (Ev.now _)))))⟩
    · have hle := rdT_le b hg
      have hi' := ih (i + 1) q (ts ++ [v]) (by omega) hle (by simp; omega)
      rw [← wrap_succ (i := i) (by omega)] at hi'
      have hst : ∀ R, Ev (fun k => impl_docReader_doc.l1 k x10 x11 (n : Int) (wrap64 ((i : Int) + 1)) b (q : Int) false id vs f (ts ++ [v])) R → Ev (fun k => impl_docReader_doc.l1 k x10 x11 (n : Int) (i : Int) b (p : Int) false id vs f ts) R := fun R h =>
        Ev.step (fun k => impl_docReader_doc.l1.eq_2 _ _ _ _ _ _ _ _ _ _ _ k) (Ev.ite_pos (by omega) (Ev.bind (hT.1 _ hg) (Ev.ite_pos (by omega) (Ev.ite_neg (by simp) h))))
      rw [hg]
      show (∀ r, ((rdTs b m q).bind fun s => some (v :: s.1, s.2)) = some r → _) ∧ (((rdTs b m q).bind fun s => some (v :: s.1, s.2)) = none → _)
      rcases opt_split (rdTs b m q) with hs | ⟨s, hs⟩
      · rw [hs]
        exact ⟨fun r hr => by simp at hr, fun _ => Bad.of hst (hi'.2 hs)⟩
      · rw [hs]
        refine ⟨fun r hr R h => ?_, fun hr => by simp at hr⟩
        obtain rfl := Option.some.inj hr
        exact hst R (hi'.1 s hs R (by rw [show ts ++ [v] ++ s.1 = ts ++ v :: s.1 from by simp]; exact h))
theorem rimpl_l0 (id : ByteArray) (n0 : Nat) (hn : n0 ≤ 4096) : ∀ (m i p : Nat) (vs : List S84), i + m = n0 → p ≤ b.length → vs.length + m ≤ 4096 →
    (∀ r, rdVs b m p = some r → Ev (fun k => impl_docReader_doc.l0 k (n0 : Int) (i : Int) b (p : Int) false id vs) (id, vs ++ r.1, (r.2 : Int), false)) ∧
    (rdVs b m p = none → Bad (fun k => impl_docReader_doc.l0 k (n0 : Int) (i : Int) b (p : Int) false id vs)) := by
  intro m
  induction m with
  | zero =>
    intro i p vs hi hp hvs
    refine ⟨fun r hr => ?_, fun hr => by simp [rdVs] at hr⟩
    obtain rfl := Option.some.inj hr
    rw [List.append_nil]
    exact Ev.step (fun k => impl_docReader_doc.l0.eq_2 _ _ _ _ _ _ _ k) (Ev.ite_neg (by omega) (Ev.now _))
  | succ m ih =>
    intro i p vs hi hp hvs
    have hst : ∀ {g : Nat → Option (ByteArray × List S84 × Int × Bool)} (R : ByteArray × List S84 × Int × Bool), (∀ k, g k = ((impl_docReader_text.f k b (p : Int) false).bind fun bt395 => ((impl_docReader_int.f k b bt395.2.1 bt395.2.2 4096).bind fun bt399 => (impl_docReader_doc.l1 k (n0 : Int) (i : Int) bt399.1 0 b bt399.2.1 bt399.2.2 id vs bt395.1 ([] : List ByteArray))))) → Ev g R → Ev (fun k => impl_docReader_doc.l0 k (n0 : Int) (i : Int) b (p : Int) false id vs) R := fun {g} R hg h =>
      Ev.step (fun k => impl_docReader_doc.l0.eq_2 _ _ _ _ _ _ _ k) (Ev.ite_pos (by omega) (Ev.congr (fun k => (hg k).symm) h))
    have hT := implT_ev b hb hl p hp
    unfold rdVs rdV
    rcases opt_split (rdT b p) with hg | ⟨⟨f, n⟩, hg⟩
    · rw [hg]
      refine ⟨fun r hr => by simp at hr, fun _ => ?_⟩
      obtain ⟨q, hT⟩ := hT.2 hg
      exact Bad.of (fun r h => hst r (fun _ => rfl) (Ev.bind hT (Ev.bind (int_bad b q 4096) h))) (ibadL1 b _ _ q id _ vs [] (by omega))
    · rw [hg]
      have hle := rdT_le b hg
      have hC := implC_ev b hb hl n hle
      rcases opt_split (rdC b n) with hg2 | ⟨⟨c, n2⟩, hg2⟩
      · refine ⟨fun r hr => by simp [hg2] at hr, fun _ => ?_⟩
        obtain ⟨q, hC⟩ := hC.2 hg2
        exact Bad.of (fun r h => hst r (fun _ => rfl) (Ev.bind (hT.1 _ hg) (Ev.bind hC h))) (ibadL1 b _ _ q id _ vs [] (by omega))
      · have hle2 := rdC_le b hg2
        have h1 := rimpl_l1 b hb hl (n0 : Int) (i : Int) id f vs (by omega) c hle2.1 c 0 n2 [] (by omega) hle2.2 (by simpa using hle2.1)
        have hst1 : ∀ R, Ev (fun k => impl_docReader_doc.l1 k (n0 : Int) (i : Int) (c : Int) ((0 : Nat) : Int) b (n2 : Int) false id vs f []) R → Ev (fun k => impl_docReader_doc.l0 k (n0 : Int) (i : Int) b (p : Int) false id vs) R := fun R h => hst R (fun _ => rfl) (Ev.bind (hT.1 _ hg) (Ev.bind (hC.1 _ hg2) h))
        rcases opt_split (rdTs b c n2) with hg3 | ⟨⟨ts, n3⟩, hg3⟩
        · exact ⟨fun r hr => by simp [hg2, hg3] at hr, fun _ => Bad.of hst1 (h1.2 hg3)⟩
        · have hle3 := rdTs_le b _ _ _ hle2.2 hg3
          have hD := implC_ev b hb hl n3 hle3.1
          have hst2 : ∀ R, Ev (fun k => (impl_docReader_int.f k b (n3 : Int) false 4096).bind fun bt408 => impl_docReader_doc.l2 k (n0 : Int) (i : Int) bt408.1 0 b bt408.2.1 bt408.2.2 id vs f ts ([] : List Int)) R → Ev (fun k => impl_docReader_doc.l0 k (n0 : Int) (i : Int) b (p : Int) false id vs) R := fun R h => hst1 R (h1.1 _ hg3 R (by simpa using h))
          rcases opt_split (rdC b n3) with hg4 | ⟨⟨d, n4⟩, hg4⟩
          · refine ⟨fun r hr => by simp [hg2, hg3, hg4] at hr, fun _ => ?_⟩
            obtain ⟨q, hD⟩ := hD.2 hg4
            exact Bad.of (fun r h => hst2 r (Ev.bind hD h)) (ibadL2 b (n0 : Int) (i : Int) q id f vs ts [] (by omega))
          · have hle4 := rdC_le b hg4
            have h2 := rimpl_l2 b hb hl (n0 : Int) (i : Int) id f vs ts (by omega) d hle4.1 d 0 n4 [] (by omega) hle4.2 (by simpa using hle4.1)
            have hst3 : ∀ R, Ev (fun k => impl_docReader_doc.l2 k (n0 : Int) (i : Int) (d : Int) ((0 : Nat) : Int) b (n4 : Int) false id vs f ts []) R → Ev (fun k => impl_docReader_doc.l0 k (n0 : Int) (i : Int) b (p : Int) false id vs) R := fun R h => hst2 R (Ev.bind (hD.1 _ hg4) h)
            rcases opt_split (rdNs b d n4) with hg5 | ⟨⟨ns, n5⟩, hg5⟩
            · exact ⟨fun r hr => by simp [hg2, hg3, hg4, hg5] at hr, fun _ => Bad.of hst3 (h2.2 hg5)⟩
            · have hle5 := rdNs_le b _ _ _ hle4.2 hg5
              have hi' := ih (i + 1) n5 (vs ++ [⟨f, ts, ns⟩]) (by omega) hle5.1 (by simp; omega)
              rw [← wrap_succ (i := i) (by omega)] at hi'
              have hst4 : ∀ R, Ev (fun k => impl_docReader_doc.l0 k (n0 : Int) (wrap64 ((i : Int) + 1)) b (n5 : Int) false id (vs ++ [⟨f, ts, ns⟩])) R → Ev (fun k => impl_docReader_doc.l0 k (n0 : Int) (i : Int) b (p : Int) false id vs) R := fun R h => hst3 R (h2.1 _ hg5 R (by simpa using h))
              rcases opt_split (rdVs b m n5) with hs | ⟨s, hs⟩
              · exact ⟨fun r hr => by simp [hg2, hg3, hg4, hg5, hs] at hr, fun _ => Bad.of hst4 (hi'.2 hs)⟩
              · refine ⟨fun r hr => ?_, fun hr => by simp [hg2, hg3, hg4, hg5, hs] at hr⟩
                have e : r = ((⟨f, ts, ns⟩ : S84) :: s.1, s.2) := by simpa [hg2, hg3, hg4, hg5, hs] using hr.symm
                subst e
                exact hst4 _ (Ev.eq (hi'.1 s hs) (by simp))
theorem implDoc_ev : (∀ r, rdD b = some r → Ev (fun k => impl_docReader_doc.f k b 0 false) (r.1, r.2.1, (r.2.2 : Int), false)) ∧ (rdD b = none → Bad (fun k => impl_docReader_doc.f k b 0 false)) := by
  have hT := implT_ev b hb hl 0 (by omega)
  have l0bad : ∀ (q : Int) (id : ByteArray), Bad (fun k => impl_docReader_doc.l0 k 0 0 b q true id []) := fun q id => ⟨_, _, _, Ev.step (fun k => impl_docReader_doc.l0.eq_2 _ _ _ _ _ _ _ k) (Ev.ite_neg (by omega) (Ev.now _))⟩
  unfold rdD
  rcases opt_split (rdT b 0) with hg | ⟨⟨f, n⟩, hg⟩
  · rw [hg]
    refine ⟨fun r hr => by simp at hr, fun _ => ?_⟩
    obtain ⟨q, hT⟩ := hT.2 hg
    exact Bad.of (fun r h => Ev.bind hT (Ev.bind (int_bad b q 4096) h)) (l0bad q _)
  · rw [hg]
    have hle := rdT_le b hg
    have hC := implC_ev b hb hl n hle
    rcases opt_split (rdC b n) with hg2 | ⟨⟨c, n2⟩, hg2⟩
    · refine ⟨fun r hr => by simp [hg2] at hr, fun _ => ?_⟩
      obtain ⟨q, hC⟩ := hC.2 hg2
      exact Bad.of (fun r h => Ev.bind (hT.1 _ hg) (Ev.bind hC h)) (l0bad q _)
    · have hle2 := rdC_le b hg2
      have h0 := rimpl_l0 b hb hl f c hle2.1 c 0 n2 [] (by omega) hle2.2 (by simpa using hle2.1)
      have hst : ∀ R, Ev (fun k => impl_docReader_doc.l0 k (c : Int) ((0 : Nat) : Int) b (n2 : Int) false f []) R → Ev (fun k => impl_docReader_doc.f k b 0 false) R := fun R h => Ev.bind (hT.1 _ hg) (Ev.bind (hC.1 _ hg2) h)
      rcases opt_split (rdVs b c n2) with hs | ⟨s, hs⟩
      · exact ⟨fun r hr => by simp [hg2, hs] at hr, fun _ => Bad.of hst (h0.2 hs)⟩
      · refine ⟨fun r hr => ?_, fun hr => by simp [hg2, hs] at hr⟩
        have e : r = (f, s.1, s.2) := by simpa [hg2, hs] using hr.symm
        subst e
        exact hst _ (h0.1 s hs)
omit hb hl in
theorem rdR_none (hg : rdD b = none) : rdR b = (ByteArray.empty, [], 15) := by
  unfold rdR
  rw [hg]
omit hb hl in
theorem rdR_some {r : ByteArray × List S84 × Nat} (hg : rdD b = some r) : rdR b = if r.2.2 = b.length then (r.1, r.2.1, 0) else (ByteArray.empty, [], 15) := by
  unfold rdR
  rw [hg]
theorem impl_ReadDoc_ev : Ev (fun k => impl_ReadDoc.f k b) (rdR b) := by
  have h := implDoc_ev b hb hl
  rcases opt_split (rdD b) with hg | ⟨⟨id, vs, n⟩, hg⟩
  · rw [rdR_none b hg]
    obtain ⟨x, y, z, h⟩ := h.2 hg
    exact Ev.ite_neg (by omega) (Ev.bind h (Ev.ite_pos rfl (Ev.now _)))
  · rw [rdR_some b hg]
    refine Ev.ite_neg (by omega) (Ev.bind (h.1 _ hg) (Ev.ite_neg (by simp) ?_))
    by_cases hn : n = b.length
    · rw [if_pos hn]
      exact Ev.ite_pos (by show (n : Int) = _; omega) (Ev.now _)
    · rw [if_neg hn]
      exact Ev.ite_neg (by show ¬ (n : Int) = _; omega) (Ev.now _)
end
end Go.Proofs.Ytndjodgcemgpfaa.Q
end

section
set_option linter.unusedVariables false
set_option linter.unusedSimpArgs false
namespace Go.Proofs.Ytndjodgcemgpfaa.Q
open Go.RowKit Go.Proofs.YtndjodgcemgpfaaW.PrintWords Go.Proofs.YtndjodgcemgpfaaW.PrintLast Go.Proofs.YtndjodgcemgpfaaW.PrintMore
set_option maxHeartbeats 2000000 in
set_option maxRecDepth 100000 in
theorem laws_FnExactReadDoc.walk0 (A : Option Addr) (c : Nat) (b : List Int) (w : World) (hl : ¬ b.length ≤ 1048576) :
    Calls Try.prog 4 #[.slice A b.length c] w fun e w' => e = .returned (.bool true) ∧ Below w.heap.size w w' := by
  have hl' : decide (1048576 < (b.length : Int)) = true := decide_eq_true (by omega)
  go_enter Try.func4, Try.ntmps4
  go_wp2_with fail
  go_ret
  exact ⟨rfl, Below.refl _ _⟩
theorem toByteS_l0 (xs : List Int) (hl : xs.length ≤ 1048576) : ∀ (rest pre : List Int), xs = pre ++ rest →
    Ev (fun k => laws_toByteS.l0 k xs (pre ++ List.replicate rest.length 0) (pre.length : Int)) xs := by
  intro rest
  induction rest with
  | nil =>
    intro pre he
    refine Ev.step (fun k => laws_toByteS.l0.eq_2 _ _ _ k) (Ev.ite_neg (by rw [he]; exact end_lt) (Ev.eq (Ev.now _) (by rw [he]; rfl)))
  | cons x rest ih =>
    intro pre he
    have hm : ((pre.length : Int)) < (xs.length : Int) := by rw [he]; exact mid_lt
    have hr : rd xs (pre.length : Int) = x := by rw [he]; exact mid_getD 0
    refine Ev.step (fun k => laws_toByteS.l0.eq_2 _ _ _ k) (Ev.ite_pos hm (Ev.ite_pos (by omega) (Ev.ite_pos (by simp; omega) ?_)))
    rw [hr, wrap_next (x := x) (by omega), List.length_cons, List.replicate_succ, mid_set, snoc_cons]
    exact ih (pre ++ [x]) (by rw [he, snoc_cons])
theorem toByteS_ev (xs : List Int) (hl : xs.length ≤ 1048576) : Ev (fun k => laws_toByteS.f k xs) xs := by
  unfold laws_toByteS.f
  refine Ev.ite_pos (by omega) (Ev.ite_pos (by omega) ?_)
  rw [Int.toNat_natCast]
  exact toByteS_l0 xs hl xs [] rfl
theorem rdR_sizes (b : List Int) : (rdR b).2.1.length ≤ 4096 ∧ ∀ x ∈ (rdR b).2.1, x.f1.length ≤ 4096 ∧ x.f2.length ≤ 4096 := by
  rcases opt_split (rdD b) with hg | ⟨r, hg⟩
  · rw [rdR_none b hg]
    exact ⟨Nat.zero_le _, fun x hx => by simp at hx⟩
  · rw [rdR_some b hg]
    split
    · unfold rdD at hg
      obtain ⟨f, hf, hg⟩ := Option.bind_eq_some_iff.1 hg
      obtain ⟨q, hq, hg⟩ := Option.bind_eq_some_iff.1 hg
      obtain ⟨vs, hvs, hg⟩ := Option.bind_eq_some_iff.1 hg
      obtain rfl := Option.some.inj hg
      have h1 := rdC_le b hq
      have h2 := rdVs_le b _ _ _ h1.2 hvs
      exact ⟨by show vs.1.length ≤ 4096; rw [h2.2.1]; exact h1.1, h2.2.2⟩
    · exact ⟨Nat.zero_le _, fun x hx => by simp at hx⟩
theorem cntVS_small (xs : List S84) (h : ∀ x ∈ xs, x.f1.length ≤ 4096 ∧ x.f2.length ≤ 4096) : cntVS xs ≤ 8193 * xs.length := by
  induction xs with
  | nil => simp [cntVS]
  | cons x xs ih =>
    rw [cntVS_cons, List.length_cons]
    have h1 := h x (by simp)
    have h2 := ih (fun y hy => h y (by simp [hy]))
    have e : cntV x = 1 + x.f1.length + x.f2.length := rfl
    omega
theorem laws_FnExactReadDoc.true_ (A : Option Addr) (c : Nat) (b : List Int) (w : World) (hr : Kd.C (Kd.int .u8) w A b.length b) (hc : b.length ≤ c) (hwf : ∀ y ∈ b, (Lit.int .u8 y).wf = true) :
    Calls Try.prog 4 #[.slice A b.length c] w fun e w' => e = .returned (.bool true) ∧ Below w.heap.size w w' := by
  by_cases hl : b.length ≤ 1048576
  · have hb : IsB b := fun y hy => by
      have h := hwf y hy
      simp [Lit.wf, IntKind.min, IntKind.max, IntKind.signed, IntKind.bits] at h
      omega
    have hsz := rdR_sizes b
    have hcv := cntVS_small _ hsz.2
    obtain ⟨K1, e1⟩ := toByteS_ev b hl
    obtain ⟨K2, e2⟩ := spec_ReadDoc_ev b hb hl
    obtain ⟨K3, e3⟩ := impl_ReadDoc_ev b hb hl
    obtain ⟨K4, e4⟩ := eqDoc_ev (rdR b).1 (rdR b).2.1 (by omega) (fun x hx => ⟨by have := hsz.2 x hx; omega, by have := hsz.2 x hx; omega⟩)
    obtain ⟨K5, e5⟩ := eqByteS_ev b (by omega)
    obtain ⟨K6, e6⟩ := markByteS_ev b 1 (by omega) (by omega)
    obtain ⟨K7, e7⟩ := markValueS_ev (rdR b).2.1 1 (by omega) (by omega) (by omega)
    obtain ⟨K8, e8⟩ := heldDoc_ev (rdR b).1 (rdR b).2.1 1 (by omega) (by omega) (by omega)
    have hk : ∃ k, K1 ≤ k ∧ K2 ≤ k ∧ K3 ≤ k ∧ K4 ≤ k ∧ K5 ≤ k ∧ K6 ≤ k ∧ K7 ≤ k ∧ K8 ≤ k := ⟨K1 + K2 + K3 + K4 + K5 + K6 + K7 + K8, by omega, by omega, by omega, by omega, by omega, by omega, by omega, by omega⟩
    obtain ⟨k, b1, b2, b3, b4, b5, b6, b7, b8⟩ := hk
    exact laws_FnExactReadDoc.walk k A c b w hr hc hl _ _ _ _ _ _ _ (e1 k b1) (e2 k b2) (e3 k b3) (e4 k b4) (e5 k b5) (e6 k b6) (e7 k b7) (e8 k b8) (by omega) (by omega)
  · exact laws_FnExactReadDoc.walk0 A c b w hl
end Go.Proofs.Ytndjodgcemgpfaa.Q
end
