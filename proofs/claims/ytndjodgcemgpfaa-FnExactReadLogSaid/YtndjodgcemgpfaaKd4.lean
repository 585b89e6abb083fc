/- A part of the proof: the texts Qx0, Qxf118, Qxf124, Qxf94, Qxf55, Qxf14, Qxf13, Qxf16, Qxf85, Qxf87, Qxf101, Qxf59, Qxf86, Qxf95, QhmarkValueS, Qpmk, Qxf49, Qxf91, packed. -/
import Derived.Test.YtndjodgcemgpfaaProg
import Derived.Test.YtndjodgcemgpfaaKd3

open Go.World renaming block_lt_of_cell? → ua
open List renaming setIfInBounds_toArray → ub, set_cons_zero → uc, set_cons_succ → ud, length_drop → uf, length_take → ug, map_toArray → uh, map_cons → ui, map_nil → uj, length_append → ul
open Option renaming bind_eq_some_iff → ue, bind_some → uk
open Nat renaming le_refl → um
set_option linter.unusedVariables false
set_option linter.unusedSimpArgs false
section
namespace Go.Proofs.Ytndjodgcemgpfaa.Q
open Go.RowKit Go.Proofs.YtndjodgcemgpfaaW.PrintWords Go.Proofs.YtndjodgcemgpfaaW.PrintLast Go.Proofs.YtndjodgcemgpfaaW.PrintMore
attribute [local go_sem] max2_int min2_int max_two min_two max_three min_three max_four min_four
def errW : Option Int → Value
 | none => .nilIface
 | some c => .iface 0 (.int .i64 c)
theorem zm : errW none = .nilIface := rfl
theorem zl (c : Int) : errW (some c) = .iface 0 (.int .i64 c) := rfl
theorem info3 : (Try.prog.info? 3).map (fun i => (i.zero, i.size, i.bytes)) = some (some (.int .i64 0), 1, 8) := by kernel_rfl
theorem info5 : (Try.prog.info? 5).map (fun i => (i.zero, i.size, i.bytes)) = some (some (.int .u8 0), 1, 1) := by kernel_rfl
theorem info9 : (Try.prog.info? 9).map (fun i => (i.zero, i.size, i.bytes)) = some (some (.string ⟨#[]⟩), 1, 16) := by kernel_rfl
theorem info47 : (Try.prog.info? 47).map (fun i => (i.zero, i.size, i.bytes)) = some (some (.agg #[(.int .i64 0), (.int .i64 0), (.string ⟨#[]⟩), (.string ⟨#[]⟩), (.slice none 0 0)]), 5, 72) := by kernel_rfl
theorem info84 : (Try.prog.info? 84).map (fun i => (i.zero, i.size, i.bytes)) = some (some (.agg #[(.string ⟨#[]⟩), (.slice none 0 0), (.slice none 0 0)]), 3, 64) := by kernel_rfl
structure S84 where
 f0 : ByteArray
 f1 : (List ByteArray)
 f2 : (List Int)
def z84 : S84 := ⟨(⟨#[]⟩ : ByteArray), ([] : List ByteArray), ([] : List Int)⟩
def k84 : Kd S84 := Kd.iso (Kd.pair Kd.string (Kd.pair (Kd.slice 9 Kd.string) (Kd.slice 3 (Kd.int .i64)))) (fun x : S84 => (x.f0, x.f1, x.f2))
theorem k84_open {w : World} {x : S84} {cs : List Value} (h : k84.K w x cs) : ∃ A1 c1 A2 c2, cs = [.string x.f0, .slice A1 x.f1.length c1, .slice A2 x.f2.length c2] ∧ x.f1.length ≤ c1 ∧ Kd.string.C w A1 x.f1.length x.f1 ∧ x.f2.length ≤ c2 ∧ (Kd.int .i64).C w A2 x.f2.length x.f2 := by
 obtain ⟨_, _, rfl, rfl, ⟨_, _, rfl, ⟨A1, c1, rfl, l1, g1⟩, ⟨A2, c2, rfl, l2, g2⟩⟩⟩ := h
 exact ⟨A1, c1, A2, c2, rfl, l1, g1, l2, g2⟩
theorem k84_openM {w : World} {base : Nat} {ok : Nat → Prop} {x : S84} {cs : List Value} (h : k84.M w base ok x cs) : ∃ v1 v2, cs = [.string x.f0, v1, v2] ∧ Kd.string.R 9 w base ok v1 x.f1 ∧ (Kd.int .i64).R 3 w base ok v2 x.f2 := by
 obtain ⟨_, _, rfl, rfl, ⟨_, _, rfl, ⟨v1, rfl, g1⟩, ⟨v2, rfl, g2⟩⟩⟩ := h
 exact ⟨v1, v2, rfl, g1, g2⟩
theorem k84_mkM (w : World) (base : Nat) (ok : Nat → Prop) (x : S84) {v1 : Value} (g1 : Kd.string.R 9 w base ok v1 x.f1) {v2 : Value} (g2 : (Kd.int .i64).R 3 w base ok v2 x.f2) : k84.M w base ok x [.string x.f0, v1, v2] := ⟨[.string x.f0], [v1, v2], rfl, rfl, ⟨[v1], [v2], rfl, ⟨v1, rfl, g1⟩, ⟨v2, rfl, g2⟩⟩⟩
def rd_T84 (xs : List S84) (i : Int) : S84 := xs.getD i.toNat z84
theorem at_T84 {w : World} {A : Option Addr} {n : Nat} {xs : List S84} (h : Kd.C k84 w A n xs) (i : Int) (h0 : 0 ≤ i) (h1 : i < n) : ∃ ad A1 c1 A2 c2, A = some ad ∧ w.cell? (ad.add (i.toNat * 3)) = some (.string (rd_T84 xs i).f0) ∧ w.cell? ⟨(ad.add (i.toNat * 3)).block, (ad.add (i.toNat * 3)).off + 1, none⟩ = some (.slice A1 (rd_T84 xs i).f1.length c1) ∧ w.cell? ⟨(ad.add (i.toNat * 3)).block, (ad.add (i.toNat * 3)).off + 2, none⟩ = some (.slice A2 (rd_T84 xs i).f2.length c2) ∧ (rd_T84 xs i).f1.length ≤ c1 ∧ Kd.string.C w A1 (rd_T84 xs i).f1.length (rd_T84 xs i).f1 ∧ (rd_T84 xs i).f2.length ≤ c2 ∧ (Kd.int .i64).C w A2 (rd_T84 xs i).f2.length (rd_T84 xs i).f2 := by
 obtain ⟨ad, c, e, _, hK, hc0⟩ := Kd.C_get h z84 i h0 h1
 have hc : ∀ j u, c[j]? = some u → w.cell? (ad.add (i.toNat * 3 + j)) = some u := hc0
 obtain ⟨A1, c1, A2, c2, rfl, l1, g1, l2, g2⟩ := k84_open hK
 exact ⟨ad, A1, c1, A2, c2, e, hc 0 _ rfl, by rw [← add_field _ _ 1 (by omega)]; exact hc 1 _ rfl, by rw [← add_field _ _ 2 (by omega)]; exact hc 2 _ rfl, l1, g1, l2, g2⟩
structure S31 where
 f0 : ByteArray
 f1 : (List S84)
def z31 : S31 := ⟨(⟨#[]⟩ : ByteArray), ([] : List S84)⟩
def k31 : Kd S31 := Kd.iso (Kd.pair Kd.string (Kd.slice 84 k84)) (fun x : S31 => (x.f0, x.f1))
theorem k31_open {w : World} {x : S31} {cs : List Value} (h : k31.K w x cs) : ∃ A1 c1, cs = [.string x.f0, .slice A1 x.f1.length c1] ∧ x.f1.length ≤ c1 ∧ k84.C w A1 x.f1.length x.f1 := by
 obtain ⟨_, _, rfl, rfl, ⟨A1, c1, rfl, l1, g1⟩⟩ := h
 exact ⟨A1, c1, rfl, l1, g1⟩
structure S47 where
 f0 : Int
 f1 : Int
 f2 : ByteArray
 f3 : S31
def z47 : S47 := ⟨(0 : Int), (0 : Int), (⟨#[]⟩ : ByteArray), z31⟩
def k47 : Kd S47 := Kd.iso (Kd.pair (Kd.int .i64) (Kd.pair (Kd.int .i64) (Kd.pair Kd.string k31))) (fun x : S47 => (x.f0, x.f1, x.f2, x.f3))
theorem k47_open {w : World} {x : S47} {cs : List Value} (h : k47.K w x cs) : ∃ A4 c4, cs = [.int .i64 x.f0, .int .i64 x.f1, .string x.f2, .string x.f3.f0, .slice A4 x.f3.f1.length c4] ∧ x.f3.f1.length ≤ c4 ∧ k84.C w A4 x.f3.f1.length x.f3.f1 := by
 obtain ⟨_, _, rfl, rfl, ⟨_, _, rfl, rfl, ⟨_, _, rfl, rfl, s3⟩⟩⟩ := h
 obtain ⟨A4, c4, rfl, l4, g4⟩ := k31_open s3
 exact ⟨A4, c4, rfl, l4, g4⟩
def rd_T47 (xs : List S47) (i : Int) : S47 := xs.getD i.toNat z47
theorem at_T47 {w : World} {A : Option Addr} {n : Nat} {xs : List S47} (h : Kd.C k47 w A n xs) (i : Int) (h0 : 0 ≤ i) (h1 : i < n) : ∃ ad A4 c4, A = some ad ∧ w.cell? (ad.add (i.toNat * 5)) = some (.int .i64 (rd_T47 xs i).f0) ∧ w.cell? ⟨(ad.add (i.toNat * 5)).block, (ad.add (i.toNat * 5)).off + 1, none⟩ = some (.int .i64 (rd_T47 xs i).f1) ∧ w.cell? ⟨(ad.add (i.toNat * 5)).block, (ad.add (i.toNat * 5)).off + 2, none⟩ = some (.string (rd_T47 xs i).f2) ∧ w.cell? ⟨(ad.add (i.toNat * 5)).block, (ad.add (i.toNat * 5)).off + 3, none⟩ = some (.string (rd_T47 xs i).f3.f0) ∧ w.cell? ⟨(ad.add (i.toNat * 5)).block, (ad.add (i.toNat * 5)).off + 4, none⟩ = some (.slice A4 (rd_T47 xs i).f3.f1.length c4) ∧ (rd_T47 xs i).f3.f1.length ≤ c4 ∧ k84.C w A4 (rd_T47 xs i).f3.f1.length (rd_T47 xs i).f3.f1 := by
 obtain ⟨ad, c, e, _, hK, hc0⟩ := Kd.C_get h z47 i h0 h1
 have hc : ∀ j u, c[j]? = some u → w.cell? (ad.add (i.toNat * 5 + j)) = some u := hc0
 obtain ⟨A4, c4, rfl, l4, g4⟩ := k47_open hK
 exact ⟨ad, A4, c4, e, hc 0 _ rfl, by rw [← add_field _ _ 1 (by omega)]; exact hc 1 _ rfl, by rw [← add_field _ _ 2 (by omega)]; exact hc 2 _ rfl, by rw [← add_field _ _ 3 (by omega)]; exact hc 3 _ rfl, by rw [← add_field _ _ 4 (by omega)]; exact hc 4 _ rfl, l4, g4⟩
def laws_eqIntS.l0 : Nat → List Int → List Int → Int → Option (Bool)
 | 0, _, _, _ => none
 | k + 1, x0, x1, x5 => if x5 < (x0.length : Int) then (if 0 ≤ x5 then (if x5 < (x1.length : Int) then (if (rd x0 x5) = (rd x1 x5) then (laws_eqIntS.l0 k x0 x1 (wrap64 (x5 + 1))) else (some false)) else (none)) else (none)) else (some true)
def laws_eqIntS.f (k : Nat) (l0 : List Int) (l1 : List Int) : Option (Bool) := if (l0.length : Int) = (l1.length : Int) then (laws_eqIntS.l0 k l0 l1 0) else (some false)
set_option maxHeartbeats 8000000 in
set_option maxRecDepth 100000 in
theorem laws_eqIntS.calls (k : Nat) (A0 : Option Addr) (c0 : Nat) (l0 : List Int) (A1 : Option Addr) (c1 : Nat) (l1 : List Int) (r : Bool) (w : World) (hr0 : Kd.C (Kd.int .i64) w A0 l0.length l0) (hc0 : l0.length ≤ c0) (hr1 : Kd.C (Kd.int .i64) w A1 l1.length l1) (hc1 : l1.length ≤ c1) (h : laws_eqIntS.f k l0 l1 = some r) :
  Calls Try.prog 118 #[.slice A0 l0.length c0, .slice A1 l1.length c1] w fun e w' => e = .returned (.bool r) ∧ Drawn0 w w' := by
 have HR0 := z1o.mk hr0
 have HC0 := z1o.mk hc0
 clear hr0 hc0
 have HR1 := z1o.mk hr1
 have HC1 := z1o.mk hc1
 clear hr1 hc1
 have H : (if (l0.length : Int) = (l1.length : Int) then (laws_eqIntS.l0 k l0 l1 0) else (some false)) = some r := h
 clear h
 by_cases c3 : (l0.length : Int) = (l1.length : Int)
 ·rw [if_pos c3] at H
  have c3b0 : ((l0.length : Int) == (l1.length : Int)) = true := beq_iff_eq.mpr c3
  have c3b1 : ((l0.length : Int) != (l1.length : Int)) = false := bne_eq_false_iff_eq.mpr c3
  have c3b2 : (l0.length == l1.length) = true := by first | simpa using c3 | (simp at c3 ⊢; omega)
  clear c3
  have H' := z1o.mk H
  clear H
  go_enter Try.func118, Try.ntmps118
  go_wp2
  repeat (go_quiet (fail); try go_wp2)
  go_loopg [5] k (fun kq v5 w' => ∃ (x5_1 : Int), v5 = .int .i64 x5_1 ∧ z1o (laws_eqIntS.l0 kq l0 l1 x5_1 = some r) ∧ z1o (kq ≤ k) ∧ Drawn0 w w')
  case atStart => exact ⟨(0), (by first | rfl | (simp; done) | (simp [*]; done)), H', ⟨um _⟩, yb⟩
  case round =>
   clear H'
   try clear c1
   try clear p2
   try clear c3
   try clear c3b0
   try clear c3b1
   try clear c3b2
   obtain ⟨x5_1, rfl, HA, HK1, ⟨m1, rfl⟩⟩ := hrel
   cases gk with
   | zero => exact absurd HA.out (by simp [laws_eqIntS.l0])
   | succ k1 =>
    have H := HA.out
    clear HA
    simp only [laws_eqIntS.l0] at H
    by_cases c4 : x5_1 < (l0.length : Int)
    ·rw [if_pos c4] at H
     have c4b0 : decide (x5_1 < (l0.length : Int)) = true := decide_eq_true c4
     clear c4
     by_cases c5 : 0 ≤ x5_1
     ·rw [if_pos c5] at H
      have c5b0 : decide (0 ≤ x5_1) = true := decide_eq_true c5
      clear c5
      by_cases c6 : x5_1 < (l1.length : Int)
      ·rw [if_pos c6] at H
       have c6b0 : decide (x5_1 < (l1.length : Int)) = true := decide_eq_true c6
       clear c6
       by_cases c7 : (rd l0 x5_1) = (rd l1 x5_1)
       ·rw [if_pos c7] at H
        have c7b0 : ((rd l0 x5_1) == (rd l1 x5_1)) = true := beq_iff_eq.mpr c7
        have c7b1 : ((rd l0 x5_1) != (rd l1 x5_1)) = false := bne_eq_false_iff_eq.mpr c7
        clear c7
        have H' := z1o.mk H
        clear H
        have p279 : 0 ≤ (x5_1 : Int) := of_decide_eq_true (by first | (with_reducible assumption) | assumption)
        have q279 : x5_1 < (l0.length : Int) := of_decide_eq_true (by first | (with_reducible assumption) | assumption)
        obtain ⟨ad279, e279, hx279_0⟩ := Kd.at_int HR0.out x5_1 p279 q279
        cases e279
        replace p279 := eq_true p279
        replace q279 := eq_true q279
        have p280 : 0 ≤ (x5_1 : Int) := of_decide_eq_true (by first | (with_reducible assumption) | assumption)
        have q280 : x5_1 < (l1.length : Int) := of_decide_eq_true (by first | (with_reducible assumption) | assumption)
        obtain ⟨ad280, e280, hx280_0⟩ := Kd.at_int HR1.out x5_1 p280 q280
        cases e280
        replace p280 := eq_true p280
        replace q280 := eq_true q280
        go_wp2
        repeat (go_quiet (fail); try go_wp2)
        go_roundg k1
        case measure => have := HK1.out; omega
        case rel => exact ⟨(wrap64 (x5_1 + 1)), (by first | rfl | (simp; done) | (simp [*]; done)), H', ⟨by have := HK1.out; omega⟩, yb⟩
       ·rw [if_neg c7] at H
        have c7b0 : ((rd l0 x5_1) == (rd l1 x5_1)) = false := beq_eq_false_iff_ne.mpr c7
        have c7b1 : ((rd l0 x5_1) != (rd l1 x5_1)) = true := bne_iff_ne.mpr c7
        obtain rfl := Option.some.inj H
        have p279 : 0 ≤ (x5_1 : Int) := of_decide_eq_true (by first | (with_reducible assumption) | assumption)
        have q279 : x5_1 < (l0.length : Int) := of_decide_eq_true (by first | (with_reducible assumption) | assumption)
        obtain ⟨ad279, e279, hx279_0⟩ := Kd.at_int HR0.out x5_1 p279 q279
        cases e279
        replace p279 := eq_true p279
        replace q279 := eq_true q279
        have p280 : 0 ≤ (x5_1 : Int) := of_decide_eq_true (by first | (with_reducible assumption) | assumption)
        have q280 : x5_1 < (l1.length : Int) := of_decide_eq_true (by first | (with_reducible assumption) | assumption)
        obtain ⟨ad280, e280, hx280_0⟩ := Kd.at_int HR1.out x5_1 p280 q280
        cases e280
        replace p280 := eq_true p280
        replace q280 := eq_true q280
        go_wp2
        repeat (go_quiet (fail); try go_wp2)
        go_ret
        exact ⟨by first | rfl | (simp; done) | (simp [*]; done), yb⟩
      ·rw [if_neg c6] at H
       exact absurd H (by simp)
     ·rw [if_neg c5] at H
      exact absurd H (by simp)
    ·rw [if_neg c4] at H
     have c4b0 : decide (x5_1 < (l0.length : Int)) = false := decide_eq_false c4
     clear c4
     obtain rfl := Option.some.inj H
     go_wp2
     repeat (go_quiet (fail); try go_wp2)
     go_ret
     exact ⟨by first | rfl | (simp; done) | (simp [*]; done), yb⟩
 ·rw [if_neg c3] at H
  have c3b0 : ((l0.length : Int) == (l1.length : Int)) = false := beq_eq_false_iff_ne.mpr c3
  have c3b1 : ((l0.length : Int) != (l1.length : Int)) = true := bne_iff_ne.mpr c3
  have c3b2 : (l0.length == l1.length) = false := by first | simpa using c3 | (simp at c3 ⊢; omega)
  obtain rfl := Option.some.inj H
  go_enter Try.func118, Try.ntmps118
  go_wp2
  repeat (go_quiet (fail); try go_wp2)
  go_ret
  exact ⟨by first | rfl | (simp; done) | (simp [*]; done), yb⟩
def laws_eqStringS.l0 : Nat → List ByteArray → List ByteArray → Int → Option (Bool)
 | 0, _, _, _ => none
 | k + 1, x0, x1, x5 => if x5 < (x0.length : Int) then (if 0 ≤ x5 then (if x5 < (x1.length : Int) then (if (rdOf ByteArray.empty x0 x5).toList = (rdOf ByteArray.empty x1 x5).toList then (laws_eqStringS.l0 k x0 x1 (wrap64 (x5 + 1))) else (some false)) else (none)) else (none)) else (some true)
def laws_eqStringS.f (k : Nat) (l0 : List ByteArray) (l1 : List ByteArray) : Option (Bool) := if (l0.length : Int) = (l1.length : Int) then (laws_eqStringS.l0 k l0 l1 0) else (some false)
set_option maxHeartbeats 8000000 in
set_option maxRecDepth 100000 in
theorem laws_eqStringS.calls (k : Nat) (A0 : Option Addr) (c0 : Nat) (l0 : List ByteArray) (A1 : Option Addr) (c1 : Nat) (l1 : List ByteArray) (r : Bool) (w : World) (hr0 : Kd.C Kd.string w A0 l0.length l0) (hc0 : l0.length ≤ c0) (hr1 : Kd.C Kd.string w A1 l1.length l1) (hc1 : l1.length ≤ c1) (h : laws_eqStringS.f k l0 l1 = some r) :
  Calls Try.prog 124 #[.slice A0 l0.length c0, .slice A1 l1.length c1] w fun e w' => e = .returned (.bool r) ∧ Drawn0 w w' := by
 have HR0 := z1o.mk hr0
 have HC0 := z1o.mk hc0
 clear hr0 hc0
 have HR1 := z1o.mk hr1
 have HC1 := z1o.mk hc1
 clear hr1 hc1
 have H : (if (l0.length : Int) = (l1.length : Int) then (laws_eqStringS.l0 k l0 l1 0) else (some false)) = some r := h
 clear h
 by_cases c3 : (l0.length : Int) = (l1.length : Int)
 ·rw [if_pos c3] at H
  have c3b0 : ((l0.length : Int) == (l1.length : Int)) = true := beq_iff_eq.mpr c3
  have c3b1 : ((l0.length : Int) != (l1.length : Int)) = false := bne_eq_false_iff_eq.mpr c3
  have c3b2 : (l0.length == l1.length) = true := by first | simpa using c3 | (simp at c3 ⊢; omega)
  clear c3
  have H' := z1o.mk H
  clear H
  go_enter Try.func124, Try.ntmps124
  go_wp2
  repeat (go_quiet (fail); try go_wp2)
  go_loopg [5] k (fun kq v5 w' => ∃ (x5_1 : Int), v5 = .int .i64 x5_1 ∧ z1o (laws_eqStringS.l0 kq l0 l1 x5_1 = some r) ∧ z1o (kq ≤ k) ∧ Drawn0 w w')
  case atStart => exact ⟨(0), (by first | rfl | (simp; done) | (simp [*]; done)), H', ⟨um _⟩, yb⟩
  case round =>
   clear H'
   try clear c1
   try clear p2
   try clear c3
   try clear c3b0
   try clear c3b1
   try clear c3b2
   obtain ⟨x5_1, rfl, HA, HK1, ⟨m1, rfl⟩⟩ := hrel
   cases gk with
   | zero => exact absurd HA.out (by simp [laws_eqStringS.l0])
   | succ k1 =>
    have H := HA.out
    clear HA
    simp only [laws_eqStringS.l0] at H
    by_cases c4 : x5_1 < (l0.length : Int)
    ·rw [if_pos c4] at H
     have c4b0 : decide (x5_1 < (l0.length : Int)) = true := decide_eq_true c4
     clear c4
     by_cases c5 : 0 ≤ x5_1
     ·rw [if_pos c5] at H
      have c5b0 : decide (0 ≤ x5_1) = true := decide_eq_true c5
      clear c5
      by_cases c6 : x5_1 < (l1.length : Int)
      ·rw [if_pos c6] at H
       have c6b0 : decide (x5_1 < (l1.length : Int)) = true := decide_eq_true c6
       clear c6
       by_cases c7 : (rdOf ByteArray.empty l0 x5_1).toList = (rdOf ByteArray.empty l1 x5_1).toList
       ·rw [if_pos c7] at H
        have c7b0 : ((rdOf ByteArray.empty l0 x5_1).toList == (rdOf ByteArray.empty l1 x5_1).toList) = true := beq_iff_eq.mpr c7
        have c7b1 : ((rdOf ByteArray.empty l0 x5_1).toList != (rdOf ByteArray.empty l1 x5_1).toList) = false := bne_eq_false_iff_eq.mpr c7
        clear c7
        have H' := z1o.mk H
        clear H
        have p281 : 0 ≤ (x5_1 : Int) := of_decide_eq_true (by first | (with_reducible assumption) | assumption)
        have q281 : x5_1 < (l0.length : Int) := of_decide_eq_true (by first | (with_reducible assumption) | assumption)
        obtain ⟨ad281, e281, hx281_0⟩ := Kd.at_string HR0.out x5_1 p281 q281
        cases e281
        replace p281 := eq_true p281
        replace q281 := eq_true q281
        have p282 : 0 ≤ (x5_1 : Int) := of_decide_eq_true (by first | (with_reducible assumption) | assumption)
        have q282 : x5_1 < (l1.length : Int) := of_decide_eq_true (by first | (with_reducible assumption) | assumption)
        obtain ⟨ad282, e282, hx282_0⟩ := Kd.at_string HR1.out x5_1 p282 q282
        cases e282
        replace p282 := eq_true p282
        replace q282 := eq_true q282
        go_wp2
        repeat (go_quiet (fail); try go_wp2)
        go_roundg k1
        case measure => have := HK1.out; omega
        case rel => exact ⟨(wrap64 (x5_1 + 1)), (by first | rfl | (simp; done) | (simp [*]; done)), H', ⟨by have := HK1.out; omega⟩, yb⟩
       ·rw [if_neg c7] at H
        have c7b0 : ((rdOf ByteArray.empty l0 x5_1).toList == (rdOf ByteArray.empty l1 x5_1).toList) = false := beq_eq_false_iff_ne.mpr c7
        have c7b1 : ((rdOf ByteArray.empty l0 x5_1).toList != (rdOf ByteArray.empty l1 x5_1).toList) = true := bne_iff_ne.mpr c7
        obtain rfl := Option.some.inj H
        have p281 : 0 ≤ (x5_1 : Int) := of_decide_eq_true (by first | (with_reducible assumption) | assumption)
        have q281 : x5_1 < (l0.length : Int) := of_decide_eq_true (by first | (with_reducible assumption) | assumption)
        obtain ⟨ad281, e281, hx281_0⟩ := Kd.at_string HR0.out x5_1 p281 q281
        cases e281
        replace p281 := eq_true p281
        replace q281 := eq_true q281
        have p282 : 0 ≤ (x5_1 : Int) := of_decide_eq_true (by first | (with_reducible assumption) | assumption)
        have q282 : x5_1 < (l1.length : Int) := of_decide_eq_true (by first | (with_reducible assumption) | assumption)
        obtain ⟨ad282, e282, hx282_0⟩ := Kd.at_string HR1.out x5_1 p282 q282
        cases e282
        replace p282 := eq_true p282
        replace q282 := eq_true q282
        go_wp2
        repeat (go_quiet (fail); try go_wp2)
        go_ret
        exact ⟨by first | rfl | (simp; done) | (simp [*]; done), yb⟩
      ·rw [if_neg c6] at H
       exact absurd H (by simp)
     ·rw [if_neg c5] at H
      exact absurd H (by simp)
    ·rw [if_neg c4] at H
     have c4b0 : decide (x5_1 < (l0.length : Int)) = false := decide_eq_false c4
     clear c4
     obtain rfl := Option.some.inj H
     go_wp2
     repeat (go_quiet (fail); try go_wp2)
     go_ret
     exact ⟨by first | rfl | (simp; done) | (simp [*]; done), yb⟩
 ·rw [if_neg c3] at H
  have c3b0 : ((l0.length : Int) == (l1.length : Int)) = false := beq_eq_false_iff_ne.mpr c3
  have c3b1 : ((l0.length : Int) != (l1.length : Int)) = true := bne_iff_ne.mpr c3
  have c3b2 : (l0.length == l1.length) = false := by first | simpa using c3 | (simp at c3 ⊢; omega)
  obtain rfl := Option.some.inj H
  go_enter Try.func124, Try.ntmps124
  go_wp2
  repeat (go_quiet (fail); try go_wp2)
  go_ret
  exact ⟨by first | rfl | (simp; done) | (simp [*]; done), yb⟩
def laws_eqValue.f (k : Nat) (a0_0 : ByteArray) (l0_1 : List ByteArray) (l0_2 : List Int) (a1_0 : ByteArray) (l1_1 : List ByteArray) (l1_2 : List Int) : Option (Bool) := if a0_0.toList = a1_0.toList then ((laws_eqStringS.f k l0_1 l1_1).bind fun t285 => (if t285 = true then ((laws_eqIntS.f k l0_2 l1_2).bind fun t286 => (if t286 = true then (some true) else (some false))) else (some false))) else (some false)
set_option maxHeartbeats 8000000 in
set_option maxRecDepth 100000 in
theorem laws_eqValue.calls (k : Nat) (a0_0 : ByteArray) (A0_1 : Option Addr) (c0_1 : Nat) (l0_1 : List ByteArray) (A0_2 : Option Addr) (c0_2 : Nat) (l0_2 : List Int) (a1_0 : ByteArray) (A1_1 : Option Addr) (c1_1 : Nat) (l1_1 : List ByteArray) (A1_2 : Option Addr) (c1_2 : Nat) (l1_2 : List Int) (r : Bool) (w : World) (hr0_1 : Kd.C Kd.string w A0_1 l0_1.length l0_1) (hc0_1 : l0_1.length ≤ c0_1) (hr0_2 : Kd.C (Kd.int .i64) w A0_2 l0_2.length l0_2) (hc0_2 : l0_2.length ≤ c0_2) (hr1_1 : Kd.C Kd.string w A1_1 l1_1.length l1_1) (hc1_1 : l1_1.length ≤ c1_1) (hr1_2 : Kd.C (Kd.int .i64) w A1_2 l1_2.length l1_2) (hc1_2 : l1_2.length ≤ c1_2) (h : laws_eqValue.f k a0_0 l0_1 l0_2 a1_0 l1_1 l1_2 = some r) :
  Calls Try.prog 94 #[.agg #[.string a0_0, .slice A0_1 l0_1.length c0_1, .slice A0_2 l0_2.length c0_2], .agg #[.string a1_0, .slice A1_1 l1_1.length c1_1, .slice A1_2 l1_2.length c1_2]] w fun e w' => e = .returned (.bool r) ∧ Below w.heap.size w w' := by
 have hu84 := Try.underlying84
 have HR0_1 := z1o.mk hr0_1
 have HC0_1 := z1o.mk hc0_1
 clear hr0_1 hc0_1
 have HR0_2 := z1o.mk hr0_2
 have HC0_2 := z1o.mk hc0_2
 clear hr0_2 hc0_2
 have HR1_1 := z1o.mk hr1_1
 have HC1_1 := z1o.mk hc1_1
 clear hr1_1 hc1_1
 have HR1_2 := z1o.mk hr1_2
 have HC1_2 := z1o.mk hc1_2
 clear hr1_2 hc1_2
 have HB := z1o.mk (Below.refl w.heap.size w)
 have H : (if a0_0.toList = a1_0.toList then ((laws_eqStringS.f k l0_1 l1_1).bind fun t285 => (if t285 = true then ((laws_eqIntS.f k l0_2 l1_2).bind fun t286 => (if t286 = true then (some true) else (some false))) else (some false))) else (some false)) = some r := h
 clear h
 by_cases c3 : a0_0.toList = a1_0.toList
 ·rw [if_pos c3] at H
  have c3b0 : (a0_0.toList == a1_0.toList) = true := beq_iff_eq.mpr c3
  have c3b1 : (a0_0.toList != a1_0.toList) = false := bne_eq_false_iff_eq.mpr c3
  clear c3
  replace H := ue.mp H
  obtain ⟨t285, A40, H⟩ := H
  replace H : (if t285 = true then ((laws_eqIntS.f k l0_2 l1_2).bind fun t286 => (if t286 = true then (some true) else (some false))) else (some false)) = some r := H
  have A4 := z1o.mk A40
  clear A40
  by_cases c5 : t285 = true
  ·subst c5
   have H1 : ((laws_eqIntS.f k l0_2 l1_2).bind fun t286 => (if t286 = true then (some true) else (some false))) = some r := by rw [if_pos rfl] at H; exact H
   clear H
   have H := H1
   clear H1
   replace H := ue.mp H
   obtain ⟨t286, A60, H⟩ := H
   replace H : (if t286 = true then (some true) else (some false)) = some r := H
   have A6 := z1o.mk A60
   clear A60
   by_cases c7 : t286 = true
   ·subst c7
    have H1 : (some true) = some r := by rw [if_pos rfl] at H; exact H
    clear H
    have H := H1
    clear H1
    obtain rfl := Option.some.inj H
    go_enter Try.func94, Try.ntmps94
    go_wp2_with (first | ((with_reducible refine zq (N := 2) rfl ?_); refine zv ?hg (N := 2) ?hd (cs := #[.string a0_0, .slice A0_1 l0_1.length c0_1, .slice A0_2 l0_2.length c0_2]) (t := 84) ?hr ?_; (case hd => rfl); (case hg => rfl); (case hr => first | (go_simp; done) | (go_simp; rfl)); intro gb283 hg w8 hbox hb; have n0_ := z1o.mk (za y0 hb); have n1_ := z1o.mk (hbox); have n2_ := z1o.mk ((by rw [hg]; exact (zc y0) : w.heap.size ≤ gb283)); have n3_ := z1o.mk ((by rw [hg]; exact (zc y0) : w.heap.size ≤ gb283)); clear HB; have HB := n0_; have BK283 := n1_; have GW283 := n2_; have GE283 := n3_; clear n0_ n1_ n2_ n3_; clear hb hbox hg) | ((with_reducible refine zq (N := 3) rfl ?_); refine zv ?hg (N := 3) ?hd (cs := #[.string a1_0, .slice A1_1 l1_1.length c1_1, .slice A1_2 l1_2.length c1_2]) (t := 84) ?hr ?_; (case hd => rfl); (case hg => rfl); (case hr => first | (go_simp; done) | (go_simp; rfl)); intro gb284 hg w9 hbox hb; have n0_ := z1o.mk (zb (g := gb283) (o := .cells #[.string a0_0, .slice A0_1 l0_1.length c0_1, .slice A0_2 l0_2.length c0_2] 84 (0, 0)) y19 hb); have n1_ := z1o.mk (za yx hb); have n2_ := z1o.mk (hbox); have n3_ := z1o.mk ((by rw [hg]; exact (zc yx) : w.heap.size ≤ gb284)); have n4_ := z1o.mk ((by rw [hg]; exact (zc yx) : w.heap.size ≤ gb284)); have n5_ := z1o.mk ((by rw [hg]; exact Nat.ne_of_lt (zg (g := gb283) (o := .cells #[.string a0_0, .slice A0_1 l0_1.length c0_1, .slice A0_2 l0_2.length c0_2] 84 (0, 0)) y19) : gb283 ≠ gb284)); have n6_ := z1o.mk ((by rw [hg]; exact Nat.ne_of_gt (zg (g := gb283) (o := .cells #[.string a0_0, .slice A0_1 l0_1.length c0_1, .slice A0_2 l0_2.length c0_2] 84 (0, 0)) y19) : gb284 ≠ gb283)); clear BK283; clear HB; have BK283 := n0_; have HB := n1_; have BK284 := n2_; have GW284 := n3_; have GE284 := n4_; have NB283_284 := n5_; have NB284_283 := n6_; clear n0_ n1_ n2_ n3_ n4_ n5_ n6_; clear hb hbox hg; have hnb10 := NB283_284.out; have hnc10 := NB284_283.out; obtain ⟨hcz11_0, hcz11_1, hcz11_2⟩ := cbk3 BK283.out; obtain ⟨hfz11_0, hfz11_1, hfz11_2⟩ := cbf3 BK283.out; obtain ⟨hcz12_0, hcz12_1, hcz12_2⟩ := cbk3 BK284.out; obtain ⟨hfz12_0, hfz12_1, hfz12_2⟩ := cbf3 BK284.out) | ((with_reducible refine zp (f := 124) rfl ?_); refine goesL_ (some 14) rfl rfl Try.func124 (by kernel_rfl) rfl #[.slice A0_1 l0_1.length c0_1, .slice A1_1 l1_1.length c1_1] rfl (by (try simp only [uh, ui, uj]); first | done | rfl | (simp only [uf, ug]; rfl)) ?_; (with_reducible refine (laws_eqStringS.calls k _ _ l0_1 _ _ l1_1 true _ ?side1 ?side2 ?side3 ?side4 A4.out).mono ?_); (case side1 => exact y1w); (case side2 => exact HC0_1.out); (case side3 => exact y1x); (case side4 => exact HC1_1.out); rintro e w' ⟨rfl, ⟨nd, rfl⟩⟩; refine ⟨_, rfl, ?_⟩) | ((with_reducible refine zp (f := 118) rfl ?_); refine goesL_ (some 20) rfl rfl Try.func118 (by kernel_rfl) rfl #[.slice A0_2 l0_2.length c0_2, .slice A1_2 l1_2.length c1_2] rfl (by (try simp only [uh, ui, uj]); first | done | rfl | (simp only [uf, ug]; rfl)) ?_; (with_reducible refine (laws_eqIntS.calls k _ _ l0_2 _ _ l1_2 true _ ?side1 ?side2 ?side3 ?side4 A6.out).mono ?_); (case side1 => repeat (first | exact (Kd.C_below HR0_2.out y15) | (with_reducible refine Kd.C_alloc ?_ _) | (with_reducible refine Kd.C_drewN ?_ _) | (with_reducible refine Kd.C_drew ?_))); (case side2 => exact HC0_2.out); (case side3 => repeat (first | exact (Kd.C_below HR1_2.out y15) | (with_reducible refine Kd.C_alloc ?_ _) | (with_reducible refine Kd.C_drewN ?_ _) | (with_reducible refine Kd.C_drew ?_))); (case side4 => exact HC1_2.out); rintro e w' ⟨rfl, ⟨nd, rfl⟩⟩; refine ⟨_, rfl, ?_⟩))
    go_ret
    exact ⟨by first | rfl | (simp [zm, zl] <;> rfl) | (simp [*, zm, zl] <;> rfl), y15⟩
   ·replace c7 := Bool.eq_false_iff.mpr c7
    subst c7
    have H1 : (some false) = some r := by rw [if_neg (show ¬ (false = true) by decide)] at H; exact H
    clear H
    have H := H1
    clear H1
    obtain rfl := Option.some.inj H
    go_enter Try.func94, Try.ntmps94
    go_wp2_with (first | ((with_reducible refine zq (N := 2) rfl ?_); refine zv ?hg (N := 2) ?hd (cs := #[.string a0_0, .slice A0_1 l0_1.length c0_1, .slice A0_2 l0_2.length c0_2]) (t := 84) ?hr ?_; (case hd => rfl); (case hg => rfl); (case hr => first | (go_simp; done) | (go_simp; rfl)); intro gb283 hg w13 hbox hb; have n0_ := z1o.mk (za y0 hb); have n1_ := z1o.mk (hbox); have n2_ := z1o.mk ((by rw [hg]; exact (zc y0) : w.heap.size ≤ gb283)); have n3_ := z1o.mk ((by rw [hg]; exact (zc y0) : w.heap.size ≤ gb283)); clear HB; have HB := n0_; have BK283 := n1_; have GW283 := n2_; have GE283 := n3_; clear n0_ n1_ n2_ n3_; clear hb hbox hg) | ((with_reducible refine zq (N := 3) rfl ?_); refine zv ?hg (N := 3) ?hd (cs := #[.string a1_0, .slice A1_1 l1_1.length c1_1, .slice A1_2 l1_2.length c1_2]) (t := 84) ?hr ?_; (case hd => rfl); (case hg => rfl); (case hr => first | (go_simp; done) | (go_simp; rfl)); intro gb284 hg w14 hbox hb; have n0_ := z1o.mk (zb (g := gb283) (o := .cells #[.string a0_0, .slice A0_1 l0_1.length c0_1, .slice A0_2 l0_2.length c0_2] 84 (0, 0)) y19 hb); have n1_ := z1o.mk (za yx hb); have n2_ := z1o.mk (hbox); have n3_ := z1o.mk ((by rw [hg]; exact (zc yx) : w.heap.size ≤ gb284)); have n4_ := z1o.mk ((by rw [hg]; exact (zc yx) : w.heap.size ≤ gb284)); have n5_ := z1o.mk ((by rw [hg]; exact Nat.ne_of_lt (zg (g := gb283) (o := .cells #[.string a0_0, .slice A0_1 l0_1.length c0_1, .slice A0_2 l0_2.length c0_2] 84 (0, 0)) y19) : gb283 ≠ gb284)); have n6_ := z1o.mk ((by rw [hg]; exact Nat.ne_of_gt (zg (g := gb283) (o := .cells #[.string a0_0, .slice A0_1 l0_1.length c0_1, .slice A0_2 l0_2.length c0_2] 84 (0, 0)) y19) : gb284 ≠ gb283)); clear BK283; clear HB; have BK283 := n0_; have HB := n1_; have BK284 := n2_; have GW284 := n3_; have GE284 := n4_; have NB283_284 := n5_; have NB284_283 := n6_; clear n0_ n1_ n2_ n3_ n4_ n5_ n6_; clear hb hbox hg; have hnb15 := NB283_284.out; have hnc15 := NB284_283.out; obtain ⟨hcz16_0, hcz16_1, hcz16_2⟩ := cbk3 BK283.out; obtain ⟨hfz16_0, hfz16_1, hfz16_2⟩ := cbf3 BK283.out; obtain ⟨hcz17_0, hcz17_1, hcz17_2⟩ := cbk3 BK284.out; obtain ⟨hfz17_0, hfz17_1, hfz17_2⟩ := cbf3 BK284.out) | ((with_reducible refine zp (f := 124) rfl ?_); refine goesL_ (some 14) rfl rfl Try.func124 (by kernel_rfl) rfl #[.slice A0_1 l0_1.length c0_1, .slice A1_1 l1_1.length c1_1] rfl (by (try simp only [uh, ui, uj]); first | done | rfl | (simp only [uf, ug]; rfl)) ?_; (with_reducible refine (laws_eqStringS.calls k _ _ l0_1 _ _ l1_1 true _ ?side1 ?side2 ?side3 ?side4 A4.out).mono ?_); (case side1 => exact y1w); (case side2 => exact HC0_1.out); (case side3 => exact y1x); (case side4 => exact HC1_1.out); rintro e w' ⟨rfl, ⟨nd, rfl⟩⟩; refine ⟨_, rfl, ?_⟩) | ((with_reducible refine zp (f := 118) rfl ?_); refine goesL_ (some 20) rfl rfl Try.func118 (by kernel_rfl) rfl #[.slice A0_2 l0_2.length c0_2, .slice A1_2 l1_2.length c1_2] rfl (by (try simp only [uh, ui, uj]); first | done | rfl | (simp only [uf, ug]; rfl)) ?_; (with_reducible refine (laws_eqIntS.calls k _ _ l0_2 _ _ l1_2 false _ ?side1 ?side2 ?side3 ?side4 A6.out).mono ?_); (case side1 => repeat (first | exact (Kd.C_below HR0_2.out y15) | (with_reducible refine Kd.C_alloc ?_ _) | (with_reducible refine Kd.C_drewN ?_ _) | (with_reducible refine Kd.C_drew ?_))); (case side2 => exact HC0_2.out); (case side3 => repeat (first | exact (Kd.C_below HR1_2.out y15) | (with_reducible refine Kd.C_alloc ?_ _) | (with_reducible refine Kd.C_drewN ?_ _) | (with_reducible refine Kd.C_drew ?_))); (case side4 => exact HC1_2.out); rintro e w' ⟨rfl, ⟨nd, rfl⟩⟩; refine ⟨_, rfl, ?_⟩))
    go_ret
    exact ⟨by first | rfl | (simp [zm, zl] <;> rfl) | (simp [*, zm, zl] <;> rfl), y15⟩
  ·replace c5 := Bool.eq_false_iff.mpr c5
   subst c5
   have H1 : (some false) = some r := by rw [if_neg (show ¬ (false = true) by decide)] at H; exact H
   clear H
   have H := H1
   clear H1
   obtain rfl := Option.some.inj H
   go_enter Try.func94, Try.ntmps94
   go_wp2_with (first | ((with_reducible refine zq (N := 2) rfl ?_); refine zv ?hg (N := 2) ?hd (cs := #[.string a0_0, .slice A0_1 l0_1.length c0_1, .slice A0_2 l0_2.length c0_2]) (t := 84) ?hr ?_; (case hd => rfl); (case hg => rfl); (case hr => first | (go_simp; done) | (go_simp; rfl)); intro gb283 hg w18 hbox hb; have n0_ := z1o.mk (za y0 hb); have n1_ := z1o.mk (hbox); have n2_ := z1o.mk ((by rw [hg]; exact (zc y0) : w.heap.size ≤ gb283)); have n3_ := z1o.mk ((by rw [hg]; exact (zc y0) : w.heap.size ≤ gb283)); clear HB; have HB := n0_; have BK283 := n1_; have GW283 := n2_; have GE283 := n3_; clear n0_ n1_ n2_ n3_; clear hb hbox hg) | ((with_reducible refine zq (N := 3) rfl ?_); refine zv ?hg (N := 3) ?hd (cs := #[.string a1_0, .slice A1_1 l1_1.length c1_1, .slice A1_2 l1_2.length c1_2]) (t := 84) ?hr ?_; (case hd => rfl); (case hg => rfl); (case hr => first | (go_simp; done) | (go_simp; rfl)); intro gb284 hg w19 hbox hb; have n0_ := z1o.mk (zb (g := gb283) (o := .cells #[.string a0_0, .slice A0_1 l0_1.length c0_1, .slice A0_2 l0_2.length c0_2] 84 (0, 0)) y19 hb); have n1_ := z1o.mk (za yx hb); have n2_ := z1o.mk (hbox); have n3_ := z1o.mk ((by rw [hg]; exact (zc yx) : w.heap.size ≤ gb284)); have n4_ := z1o.mk ((by rw [hg]; exact (zc yx) : w.heap.size ≤ gb284)); have n5_ := z1o.mk ((by rw [hg]; exact Nat.ne_of_lt (zg (g := gb283) (o := .cells #[.string a0_0, .slice A0_1 l0_1.length c0_1, .slice A0_2 l0_2.length c0_2] 84 (0, 0)) y19) : gb283 ≠ gb284)); have n6_ := z1o.mk ((by rw [hg]; exact Nat.ne_of_gt (zg (g := gb283) (o := .cells #[.string a0_0, .slice A0_1 l0_1.length c0_1, .slice A0_2 l0_2.length c0_2] 84 (0, 0)) y19) : gb284 ≠ gb283)); clear BK283; clear HB; have BK283 := n0_; have HB := n1_; have BK284 := n2_; have GW284 := n3_; have GE284 := n4_; have NB283_284 := n5_; have NB284_283 := n6_; clear n0_ n1_ n2_ n3_ n4_ n5_ n6_; clear hb hbox hg; have hnb20 := NB283_284.out; have hnc20 := NB284_283.out; obtain ⟨hcz21_0, hcz21_1, hcz21_2⟩ := cbk3 BK283.out; obtain ⟨hfz21_0, hfz21_1, hfz21_2⟩ := cbf3 BK283.out; obtain ⟨hcz22_0, hcz22_1, hcz22_2⟩ := cbk3 BK284.out; obtain ⟨hfz22_0, hfz22_1, hfz22_2⟩ := cbf3 BK284.out) | ((with_reducible refine zp (f := 124) rfl ?_); refine goesL_ (some 14) rfl rfl Try.func124 (by kernel_rfl) rfl #[.slice A0_1 l0_1.length c0_1, .slice A1_1 l1_1.length c1_1] rfl (by (try simp only [uh, ui, uj]); first | done | rfl | (simp only [uf, ug]; rfl)) ?_; (with_reducible refine (laws_eqStringS.calls k _ _ l0_1 _ _ l1_1 false _ ?side1 ?side2 ?side3 ?side4 A4.out).mono ?_); (case side1 => exact y1w); (case side2 => exact HC0_1.out); (case side3 => exact y1x); (case side4 => exact HC1_1.out); rintro e w' ⟨rfl, ⟨nd, rfl⟩⟩; refine ⟨_, rfl, ?_⟩))
   go_ret
   exact ⟨by first | rfl | (simp [zm, zl] <;> rfl) | (simp [*, zm, zl] <;> rfl), y15⟩
 ·rw [if_neg c3] at H
  have c3b0 : (a0_0.toList == a1_0.toList) = false := beq_eq_false_iff_ne.mpr c3
  have c3b1 : (a0_0.toList != a1_0.toList) = true := bne_iff_ne.mpr c3
  obtain rfl := Option.some.inj H
  go_enter Try.func94, Try.ntmps94
  go_wp2_with (first | ((with_reducible refine zq (N := 2) rfl ?_); refine zv ?hg (N := 2) ?hd (cs := #[.string a0_0, .slice A0_1 l0_1.length c0_1, .slice A0_2 l0_2.length c0_2]) (t := 84) ?hr ?_; (case hd => rfl); (case hg => rfl); (case hr => first | (go_simp; done) | (go_simp; rfl)); intro gb283 hg w23 hbox hb; have n0_ := z1o.mk (za y0 hb); have n1_ := z1o.mk (hbox); have n2_ := z1o.mk ((by rw [hg]; exact (zc y0) : w.heap.size ≤ gb283)); have n3_ := z1o.mk ((by rw [hg]; exact (zc y0) : w.heap.size ≤ gb283)); clear HB; have HB := n0_; have BK283 := n1_; have GW283 := n2_; have GE283 := n3_; clear n0_ n1_ n2_ n3_; clear hb hbox hg) | ((with_reducible refine zq (N := 3) rfl ?_); refine zv ?hg (N := 3) ?hd (cs := #[.string a1_0, .slice A1_1 l1_1.length c1_1, .slice A1_2 l1_2.length c1_2]) (t := 84) ?hr ?_; (case hd => rfl); (case hg => rfl); (case hr => first | (go_simp; done) | (go_simp; rfl)); intro gb284 hg w24 hbox hb; have n0_ := z1o.mk (zb (g := gb283) (o := .cells #[.string a0_0, .slice A0_1 l0_1.length c0_1, .slice A0_2 l0_2.length c0_2] 84 (0, 0)) y19 hb); have n1_ := z1o.mk (za yx hb); have n2_ := z1o.mk (hbox); have n3_ := z1o.mk ((by rw [hg]; exact (zc yx) : w.heap.size ≤ gb284)); have n4_ := z1o.mk ((by rw [hg]; exact (zc yx) : w.heap.size ≤ gb284)); have n5_ := z1o.mk ((by rw [hg]; exact Nat.ne_of_lt (zg (g := gb283) (o := .cells #[.string a0_0, .slice A0_1 l0_1.length c0_1, .slice A0_2 l0_2.length c0_2] 84 (0, 0)) y19) : gb283 ≠ gb284)); have n6_ := z1o.mk ((by rw [hg]; exact Nat.ne_of_gt (zg (g := gb283) (o := .cells #[.string a0_0, .slice A0_1 l0_1.length c0_1, .slice A0_2 l0_2.length c0_2] 84 (0, 0)) y19) : gb284 ≠ gb283)); clear BK283; clear HB; have BK283 := n0_; have HB := n1_; have BK284 := n2_; have GW284 := n3_; have GE284 := n4_; have NB283_284 := n5_; have NB284_283 := n6_; clear n0_ n1_ n2_ n3_ n4_ n5_ n6_; clear hb hbox hg; have hnb25 := NB283_284.out; have hnc25 := NB284_283.out; obtain ⟨hcz26_0, hcz26_1, hcz26_2⟩ := cbk3 BK283.out; obtain ⟨hfz26_0, hfz26_1, hfz26_2⟩ := cbf3 BK283.out; obtain ⟨hcz27_0, hcz27_1, hcz27_2⟩ := cbk3 BK284.out; obtain ⟨hfz27_0, hfz27_1, hfz27_2⟩ := cbf3 BK284.out))
  go_ret
  exact ⟨by first | rfl | (simp [zm, zl] <;> rfl) | (simp [*, zm, zl] <;> rfl), y15⟩
def z1b.l0 : Nat → List (S84) → List (S84) → Int → Option (Bool)
 | 0, _, _, _ => none
 | k + 1, x0, x1, x5 => if x5 < (x0.length : Int) then (if 0 ≤ x5 then (if x5 < (x1.length : Int) then ((laws_eqValue.f k ((rd_T84 x0 x5).f0) ((rd_T84 x0 x5).f1) ((rd_T84 x0 x5).f2) ((rd_T84 x1 x5).f0) ((rd_T84 x1 x5).f1) ((rd_T84 x1 x5).f2)).bind fun t289 => (if t289 = true then (z1b.l0 k x0 x1 (wrap64 (x5 + 1))) else (some false))) else (none)) else (none)) else (some true)
def z1b.f (k : Nat) (l0 : List (S84)) (l1 : List (S84)) : Option (Bool) := if (l0.length : Int) = (l1.length : Int) then (z1b.l0 k l0 l1 0) else (some false)
def z1b.T6 : Bool × List (List Nat × List Nat) := (true, [([], []), ([], []), ([0, 1], [0, 1]), ([2], [2]), ([], []), ([], []), ([4, 5], [4, 5]), ([6], [6]), ([3, 7], [3, 7]), ([8], [8])])
def z1b.B6 : List Nat := [0, 0, 3, 7, 0, 0, 48, 112, 255, 511]
theorem z1b.tab6 : rtab .any (opsOf Try.f55 6) = z1b.T6 := by kernel_rfl
theorem z1b.bits6 : waitsOk z1b.T6.2 z1b.B6 = true := by kernel_rfl
set_option maxHeartbeats 8000000 in
set_option maxRecDepth 100000 in
theorem z1b.calls (k : Nat) (A0 : Option Addr) (c0 : Nat) (l0 : List (S84)) (A1 : Option Addr) (c1 : Nat) (l1 : List (S84)) (r : Bool) (w : World) (hr0 : Kd.C k84 w A0 l0.length l0) (hc0 : l0.length ≤ c0) (hr1 : Kd.C k84 w A1 l1.length l1) (hc1 : l1.length ≤ c1) (h : z1b.f k l0 l1 = some r) :
  Calls Try.prog 55 #[.slice A0 l0.length c0, .slice A1 l1.length c1] w fun e w' => e = .returned (.bool r) ∧ Below w.heap.size w w' := by
 have hu84 := Try.underlying84
 have HR0 := z1o.mk hr0
 have HC0 := z1o.mk hc0
 clear hr0 hc0
 have HR1 := z1o.mk hr1
 have HC1 := z1o.mk hc1
 clear hr1 hc1
 have HB := z1o.mk (Below.refl w.heap.size w)
 have H : (if (l0.length : Int) = (l1.length : Int) then (z1b.l0 k l0 l1 0) else (some false)) = some r := h
 clear h
 by_cases c3 : (l0.length : Int) = (l1.length : Int)
 ·rw [if_pos c3] at H
  have c3b0 : ((l0.length : Int) == (l1.length : Int)) = true := beq_iff_eq.mpr c3
  have c3b1 : ((l0.length : Int) != (l1.length : Int)) = false := bne_eq_false_iff_eq.mpr c3
  have c3b2 : (l0.length == l1.length) = true := by first | simpa using c3 | (simp at c3 ⊢; omega)
  clear c3
  have H' := z1o.mk H
  clear H
  go_enter Try.func55, Try.ntmps55
  go_wp2
  go_loopg [5] k (fun kq v5 w' => ∃ (x5_1 : Int), v5 = .int .i64 x5_1 ∧ z1o (z1b.l0 kq l0 l1 x5_1 = some r) ∧ z1o (kq ≤ k) ∧ z1o (Below w.heap.size w w'))
  case atStart => exact ⟨(0), (by first | rfl | (simp; done) | (simp [*]; done)), H', ⟨um _⟩, ⟨y0⟩⟩
  case round =>
   clear H'
   try clear c1
   try clear p2
   try clear c3
   try clear c3b0
   try clear c3b1
   try clear c3b2
   obtain ⟨x5_1, rfl, HA, HK1, HB⟩ := hrel
   cases gk with
   | zero => exact absurd HA.out (by simp [z1b.l0])
   | succ k1 =>
    have H := HA.out
    clear HA
    simp only [z1b.l0] at H
    by_cases c4 : x5_1 < (l0.length : Int)
    ·rw [if_pos c4] at H
     have c4b0 : decide (x5_1 < (l0.length : Int)) = true := decide_eq_true c4
     clear c4
     by_cases c5 : 0 ≤ x5_1
     ·rw [if_pos c5] at H
      have c5b0 : decide (0 ≤ x5_1) = true := decide_eq_true c5
      clear c5
      by_cases c6 : x5_1 < (l1.length : Int)
      ·rw [if_pos c6] at H
       have c6b0 : decide (x5_1 < (l1.length : Int)) = true := decide_eq_true c6
       clear c6
       replace H := ue.mp H
       obtain ⟨t289, A70, H⟩ := H
       replace H : (if t289 = true then (z1b.l0 k1 l0 l1 (wrap64 (x5_1 + 1))) else (some false)) = some r := H
       have A7 := z1o.mk A70
       clear A70
       by_cases c8 : t289 = true
       ·subst c8
        have H1 : (z1b.l0 k1 l0 l1 (wrap64 (x5_1 + 1))) = some r := by rw [if_pos rfl] at H; exact H
        clear H
        have H := H1
        clear H1
        have H' := z1o.mk H
        clear H
        try go_wp2
        have n0_ := z1o.mk (z3 HB.out)
        clear HB
        have HB := n0_
        clear n0_
        have p287 : 0 ≤ (x5_1 : Int) := of_decide_eq_true (by first | (with_reducible assumption) | assumption)
        have q287 : x5_1 < (l0.length : Int) := of_decide_eq_true (by first | (with_reducible assumption) | assumption)
        obtain ⟨ad287, A287_1, c287_1, A287_2, c287_2, e287, hx287_0, hx287_1, hx287_2, hl287_1, hi287_1, hl287_2, hi287_2⟩ := at_T84 HR0.out x5_1 p287 q287
        have hw287_2 := hx287_2
        have hw287_1 := hx287_1
        have hw287_0 := hx287_0
        have HW287_1 := z1o.mk hx287_1
        have HW287_2 := z1o.mk hx287_2
        cases e287
        replace hx287_0 := (HB.out.cell (ua w _ hx287_0)).trans hx287_0
        replace hx287_1 := (HB.out.cell (ua w _ hx287_1)).trans hx287_1
        replace hx287_2 := (HB.out.cell (ua w _ hx287_2)).trans hx287_2
        have HR287_1 := z1o.mk hi287_1
        have HC287_1 := z1o.mk hl287_1
        clear hi287_1 hl287_1
        have HR287_2 := z1o.mk hi287_2
        have HC287_2 := z1o.mk hl287_2
        clear hi287_2 hl287_2
        replace p287 := eq_true p287
        replace q287 := eq_true q287
        have p288 : 0 ≤ (x5_1 : Int) := of_decide_eq_true (by first | (with_reducible assumption) | assumption)
        have q288 : x5_1 < (l1.length : Int) := of_decide_eq_true (by first | (with_reducible assumption) | assumption)
        obtain ⟨ad288, A288_1, c288_1, A288_2, c288_2, e288, hx288_0, hx288_1, hx288_2, hl288_1, hi288_1, hl288_2, hi288_2⟩ := at_T84 HR1.out x5_1 p288 q288
        have hw288_2 := hx288_2
        have hw288_1 := hx288_1
        have hw288_0 := hx288_0
        have HW288_1 := z1o.mk hx288_1
        have HW288_2 := z1o.mk hx288_2
        cases e288
        replace hx288_0 := (HB.out.cell (ua w _ hx288_0)).trans hx288_0
        replace hx288_1 := (HB.out.cell (ua w _ hx288_1)).trans hx288_1
        replace hx288_2 := (HB.out.cell (ua w _ hx288_2)).trans hx288_2
        have HR288_1 := z1o.mk hi288_1
        have HC288_1 := z1o.mk hl288_1
        clear hi288_1 hl288_1
        have HR288_2 := z1o.mk hi288_2
        have HC288_2 := z1o.mk hl288_2
        clear hi288_2 hl288_2
        replace p288 := eq_true p288
        replace q288 := eq_true q288
        refine start_ (n := 10) (S := fun w' => w'.cell? (ad287.add ((x5_1).toNat * 3)) = some (.string ((rd_T84 l0 x5_1).f0)) ∧ w'.cell? ⟨(ad287.add ((x5_1).toNat * 3)).block, (ad287.add ((x5_1).toNat * 3)).off + 1, none⟩ = some (.slice A287_1 ((rd_T84 l0 x5_1).f1).length c287_1) ∧ w'.cell? ⟨(ad287.add ((x5_1).toNat * 3)).block, (ad287.add ((x5_1).toNat * 3)).off + 2, none⟩ = some (.slice A287_2 ((rd_T84 l0 x5_1).f2).length c287_2) ∧ w'.cell? (ad288.add ((x5_1).toNat * 3)) = some (.string ((rd_T84 l1 x5_1).f0)) ∧ w'.cell? ⟨(ad288.add ((x5_1).toNat * 3)).block, (ad288.add ((x5_1).toNat * 3)).off + 1, none⟩ = some (.slice A288_1 ((rd_T84 l1 x5_1).f1).length c288_1) ∧ w'.cell? ⟨(ad288.add ((x5_1).toNat * 3)).block, (ad288.add ((x5_1).toNat * 3)).off + 2, none⟩ = some (.slice A288_2 ((rd_T84 l1 x5_1).f2).length c288_2)) (ds := []) #[false, false, false, false, false, false, false, false, false, false] (by kernel_rfl) rfl rfl ⟨((HB.out.cell (ua w _ hw287_0)).trans hw287_0), ((HB.out.cell (ua w _ hw287_1)).trans hw287_1), ((HB.out.cell (ua w _ hw287_2)).trans hw287_2), ((HB.out.cell (ua w _ hw288_0)).trans hw288_0), ((HB.out.cell (ua w _ hw288_1)).trans hw288_1), ((HB.out.cell (ua w _ hw288_2)).trans hw288_2)⟩ (fun hHeld => ?_); refine with_tabW z1b.tab6 z1b.bits6 (fun HT_ HW_ => ?_)
        generalize wr.drew = w9 at HB HR287_1 HR287_2 HR288_1 HR288_2 hx287_0 hx287_1 hx287_2 hx288_0 hx288_1 hx288_2 hHeld ⊢
        refine pure_ (i := 0) (N := some 17) (v := ?_) (a' := ?_) #[true, false, false, false, false, false, false, false, false, false] rfl rfl (any_of HT_.out (by kernel_rfl)) (fun _ _ _ h => h) (Or.inl ⟨by rfl, ?_⟩) ?_ ?_
        rotate_left
        ·intro w'
         go_simp
         with_reducible rfl
        rotate_left
        ·simp only [Act.put, ub, uc, ud, zn, zo]
         rfl
        refine pure_ (i := 1) (N := some 18) (v := ?_) (a' := ?_) #[true, true, false, false, false, false, false, false, false, false] rfl rfl (any_of HT_.out (by kernel_rfl)) (fun _ _ _ h => h) (Or.inl ⟨by rfl, ?_⟩) ?_ ?_
        rotate_left
        ·intro w'
         go_simp
         with_reducible rfl
        rotate_left
        ·simp only [Act.put, ub, uc, ud, zn, zo]
         rfl
        refine pure_ (i := 2) (N := some 19) (v := ?_) (a' := ?_) #[true, true, true, false, false, false, false, false, false, false] rfl rfl (any_of HT_.out (by kernel_rfl)) (fun _ _ _ h => h) (Or.inl ⟨by rfl, ?_⟩) ?_ ?_
        rotate_left
        ·intro w'
         go_simp
         with_reducible rfl
        rotate_left
        ·simp only [Act.put, ub, uc, ud, zn, zo]
         rfl
        refine pure_ (i := 4) (N := some 21) (v := ?_) (a' := ?_) #[true, true, true, false, true, false, false, false, false, false] rfl rfl (any_of HT_.out (by kernel_rfl)) (fun _ _ _ h => h) (Or.inl ⟨by rfl, ?_⟩) ?_ ?_
        rotate_left
        ·intro w'
         go_simp
         with_reducible rfl
        rotate_left
        ·simp only [Act.put, ub, uc, ud, zn, zo]
         rfl
        refine pure_ (i := 5) (N := some 22) (v := ?_) (a' := ?_) #[true, true, true, false, true, true, false, false, false, false] rfl rfl (any_of HT_.out (by kernel_rfl)) (fun _ _ _ h => h) (Or.inl ⟨by rfl, ?_⟩) ?_ ?_
        rotate_left
        ·intro w'
         go_simp
         with_reducible rfl
        rotate_left
        ·simp only [Act.put, ub, uc, ud, zn, zo]
         rfl
        refine pure_ (i := 6) (N := some 23) (v := ?_) (a' := ?_) #[true, true, true, false, true, true, true, false, false, false] rfl rfl (any_of HT_.out (by kernel_rfl)) (fun _ _ _ h => h) (Or.inl ⟨by rfl, ?_⟩) ?_ ?_
        rotate_left
        ·intro w'
         go_simp
         with_reducible rfl
        rotate_left
        ·simp only [Act.put, ub, uc, ud, zn, zo]
         rfl
        refine take_ (i := 3) (N := some 20) (v := ?_) (a' := ?_) #[true, true, true, true, true, true, true, false, false, false] rfl rfl (take_ofW HT_.out HW_.out (by kernel_rfl)) (fun _ _ _ h => h) (Or.inl ⟨by rfl, ?_⟩) hHeld ?_ ?_
        rotate_left
        ·rintro w' ⟨s0, s1, s2, s3, s4, s5⟩
         go_simp
         with_reducible rfl
        rotate_left
        ·simp only [Act.put, ub, uc, ud, zn, zo]
         rfl
        refine take_ (i := 7) (N := some 24) (v := ?_) (a' := ?_) #[true, true, true, true, true, true, true, true, false, false] rfl rfl (take_ofW HT_.out HW_.out (by kernel_rfl)) (fun _ _ _ h => h) (Or.inl ⟨by rfl, ?_⟩) hHeld ?_ ?_
        rotate_left
        ·rintro w' ⟨s0, s1, s2, s3, s4, s5⟩
         go_simp
         with_reducible rfl
        rotate_left
        ·simp only [Act.put, ub, uc, ud, zn, zo]
         rfl
        refine one_ (i := 8) (N := some 25) #[true, true, true, true, true, true, true, true, true, false] rfl rfl (one_of HT_.out (by kernel_rfl)) (by decide) (fun K hK => ?_)
        refine goes_ Try.func94 (by kernel_rfl) rfl #[.agg #[.string ((rd_T84 l0 x5_1).f0), .slice A287_1 ((rd_T84 l0 x5_1).f1).length c287_1, .slice A287_2 ((rd_T84 l0 x5_1).f2).length c287_2], .agg #[.string ((rd_T84 l1 x5_1).f0), .slice A288_1 ((rd_T84 l1 x5_1).f1).length c288_1, .slice A288_2 ((rd_T84 l1 x5_1).f2).length c288_2]] (by rfl) rfl rfl (by (try simp only [uh, ui, uj]); first | done | rfl | (simp only [uf, ug]; rfl)) ?_
        with_reducible refine (laws_eqValue.calls k1 ((rd_T84 l0 x5_1).f0) _ _ ((rd_T84 l0 x5_1).f1) _ _ ((rd_T84 l0 x5_1).f2) ((rd_T84 l1 x5_1).f0) _ _ ((rd_T84 l1 x5_1).f1) _ _ ((rd_T84 l1 x5_1).f2) true _ ?side1 ?side2 ?side3 ?side4 ?side5 ?side6 ?side7 ?side8 A7.out).mono ?_
        (case side1 => exact y2m)
        (case side2 => exact HC287_1.out)
        (case side3 => exact y2n)
        (case side4 => exact HC287_2.out)
        (case side5 => exact y2o)
        (case side6 => exact HC288_1.out)
        (case side7 => exact y2p)
        (case side8 => exact HC288_2.out)
        rintro e w10 ⟨rfl, hb⟩
        refine ⟨_, rfl, ?_⟩
        have n0_ := z1o.mk (za y0 hb)
        clear HB
        have HB := n0_
        clear n0_
        (try clear hb)
        (try clear hb2)
        (try clear hk)
        (try clear hi)
        refine hK.out _ _ ⟨((HB.out.cell (ua w _ hw287_0)).trans hw287_0), ((HB.out.cell (ua w _ hw287_1)).trans hw287_1), ((HB.out.cell (ua w _ hw287_2)).trans hw287_2), ((HB.out.cell (ua w _ hw288_0)).trans hw288_0), ((HB.out.cell (ua w _ hw288_1)).trans hw288_1), ((HB.out.cell (ua w _ hw288_2)).trans hw288_2)⟩ (fun hHeld => ?_)
        clear hK K
        refine norm_ (a' := ?_) ?_ ?_
        rotate_left
        ·show Act.put _ (some 25) _ = _
         simp only [Act.put, ub, uc, ud, zn, zo]
         rfl
        refine pure_ (i := 9) (N := some 26) (v := ?_) (a' := ?_) #[true, true, true, true, true, true, true, true, true, true] rfl rfl (any_of HT_.out (by kernel_rfl)) (fun _ _ _ h => h) (Or.inl ⟨by rfl, ?_⟩) ?_ ?_
        rotate_left
        ·intro w'
         go_simp
         with_reducible rfl
        rotate_left
        ·simp only [Act.put, ub, uc, ud, zn, zo]
         rfl
        refine done_ (done_of HT_.out (by kernel_rfl)) ?_
        try go_wp2
        go_roundg k1
        case measure => have := HK1.out; omega
        case rel => exact ⟨(wrap64 (x5_1 + 1)), (by first | rfl | (simp; done) | (simp [*]; done)), H', ⟨by have := HK1.out; omega⟩, ⟨y0⟩⟩
       ·replace c8 := Bool.eq_false_iff.mpr c8
        subst c8
        have H1 : (some false) = some r := by rw [if_neg (show ¬ (false = true) by decide)] at H; exact H
        clear H
        have H := H1
        clear H1
        obtain rfl := Option.some.inj H
        try go_wp2
        have n0_ := z1o.mk (z3 HB.out)
        clear HB
        have HB := n0_
        clear n0_
        have p287 : 0 ≤ (x5_1 : Int) := of_decide_eq_true (by first | (with_reducible assumption) | assumption)
        have q287 : x5_1 < (l0.length : Int) := of_decide_eq_true (by first | (with_reducible assumption) | assumption)
        obtain ⟨ad287, A287_1, c287_1, A287_2, c287_2, e287, hx287_0, hx287_1, hx287_2, hl287_1, hi287_1, hl287_2, hi287_2⟩ := at_T84 HR0.out x5_1 p287 q287
        have hw287_2 := hx287_2
        have hw287_1 := hx287_1
        have hw287_0 := hx287_0
        have HW287_1 := z1o.mk hx287_1
        have HW287_2 := z1o.mk hx287_2
        cases e287
        replace hx287_0 := (HB.out.cell (ua w _ hx287_0)).trans hx287_0
        replace hx287_1 := (HB.out.cell (ua w _ hx287_1)).trans hx287_1
        replace hx287_2 := (HB.out.cell (ua w _ hx287_2)).trans hx287_2
        have HR287_1 := z1o.mk hi287_1
        have HC287_1 := z1o.mk hl287_1
        clear hi287_1 hl287_1
        have HR287_2 := z1o.mk hi287_2
        have HC287_2 := z1o.mk hl287_2
        clear hi287_2 hl287_2
        replace p287 := eq_true p287
        replace q287 := eq_true q287
        have p288 : 0 ≤ (x5_1 : Int) := of_decide_eq_true (by first | (with_reducible assumption) | assumption)
        have q288 : x5_1 < (l1.length : Int) := of_decide_eq_true (by first | (with_reducible assumption) | assumption)
        obtain ⟨ad288, A288_1, c288_1, A288_2, c288_2, e288, hx288_0, hx288_1, hx288_2, hl288_1, hi288_1, hl288_2, hi288_2⟩ := at_T84 HR1.out x5_1 p288 q288
        have hw288_2 := hx288_2
        have hw288_1 := hx288_1
        have hw288_0 := hx288_0
        have HW288_1 := z1o.mk hx288_1
        have HW288_2 := z1o.mk hx288_2
        cases e288
        replace hx288_0 := (HB.out.cell (ua w _ hx288_0)).trans hx288_0
        replace hx288_1 := (HB.out.cell (ua w _ hx288_1)).trans hx288_1
        replace hx288_2 := (HB.out.cell (ua w _ hx288_2)).trans hx288_2
        have HR288_1 := z1o.mk hi288_1
        have HC288_1 := z1o.mk hl288_1
        clear hi288_1 hl288_1
        have HR288_2 := z1o.mk hi288_2
        have HC288_2 := z1o.mk hl288_2
        clear hi288_2 hl288_2
        replace p288 := eq_true p288
        replace q288 := eq_true q288
        refine start_ (n := 10) (S := fun w' => w'.cell? (ad287.add ((x5_1).toNat * 3)) = some (.string ((rd_T84 l0 x5_1).f0)) ∧ w'.cell? ⟨(ad287.add ((x5_1).toNat * 3)).block, (ad287.add ((x5_1).toNat * 3)).off + 1, none⟩ = some (.slice A287_1 ((rd_T84 l0 x5_1).f1).length c287_1) ∧ w'.cell? ⟨(ad287.add ((x5_1).toNat * 3)).block, (ad287.add ((x5_1).toNat * 3)).off + 2, none⟩ = some (.slice A287_2 ((rd_T84 l0 x5_1).f2).length c287_2) ∧ w'.cell? (ad288.add ((x5_1).toNat * 3)) = some (.string ((rd_T84 l1 x5_1).f0)) ∧ w'.cell? ⟨(ad288.add ((x5_1).toNat * 3)).block, (ad288.add ((x5_1).toNat * 3)).off + 1, none⟩ = some (.slice A288_1 ((rd_T84 l1 x5_1).f1).length c288_1) ∧ w'.cell? ⟨(ad288.add ((x5_1).toNat * 3)).block, (ad288.add ((x5_1).toNat * 3)).off + 2, none⟩ = some (.slice A288_2 ((rd_T84 l1 x5_1).f2).length c288_2)) (ds := []) #[false, false, false, false, false, false, false, false, false, false] (by kernel_rfl) rfl rfl ⟨((HB.out.cell (ua w _ hw287_0)).trans hw287_0), ((HB.out.cell (ua w _ hw287_1)).trans hw287_1), ((HB.out.cell (ua w _ hw287_2)).trans hw287_2), ((HB.out.cell (ua w _ hw288_0)).trans hw288_0), ((HB.out.cell (ua w _ hw288_1)).trans hw288_1), ((HB.out.cell (ua w _ hw288_2)).trans hw288_2)⟩ (fun hHeld => ?_); refine with_tabW z1b.tab6 z1b.bits6 (fun HT_ HW_ => ?_)
        generalize wr.drew = w11 at HB HR287_1 HR287_2 HR288_1 HR288_2 hx287_0 hx287_1 hx287_2 hx288_0 hx288_1 hx288_2 hHeld ⊢
        refine pure_ (i := 0) (N := some 17) (v := ?_) (a' := ?_) #[true, false, false, false, false, false, false, false, false, false] rfl rfl (any_of HT_.out (by kernel_rfl)) (fun _ _ _ h => h) (Or.inl ⟨by rfl, ?_⟩) ?_ ?_
        rotate_left
        ·intro w'
         go_simp
         with_reducible rfl
        rotate_left
        ·simp only [Act.put, ub, uc, ud, zn, zo]
         rfl
        refine pure_ (i := 1) (N := some 18) (v := ?_) (a' := ?_) #[true, true, false, false, false, false, false, false, false, false] rfl rfl (any_of HT_.out (by kernel_rfl)) (fun _ _ _ h => h) (Or.inl ⟨by rfl, ?_⟩) ?_ ?_
        rotate_left
        ·intro w'
         go_simp
         with_reducible rfl
        rotate_left
        ·simp only [Act.put, ub, uc, ud, zn, zo]
         rfl
        refine pure_ (i := 2) (N := some 19) (v := ?_) (a' := ?_) #[true, true, true, false, false, false, false, false, false, false] rfl rfl (any_of HT_.out (by kernel_rfl)) (fun _ _ _ h => h) (Or.inl ⟨by rfl, ?_⟩) ?_ ?_
        rotate_left
        ·intro w'
         go_simp
         with_reducible rfl
        rotate_left
        ·simp only [Act.put, ub, uc, ud, zn, zo]
         rfl
        refine pure_ (i := 4) (N := some 21) (v := ?_) (a' := ?_) #[true, true, true, false, true, false, false, false, false, false] rfl rfl (any_of HT_.out (by kernel_rfl)) (fun _ _ _ h => h) (Or.inl ⟨by rfl, ?_⟩) ?_ ?_
        rotate_left
        ·intro w'
         go_simp
         with_reducible rfl
        rotate_left
        ·simp only [Act.put, ub, uc, ud, zn, zo]
         rfl
        refine pure_ (i := 5) (N := some 22) (v := ?_) (a' := ?_) #[true, true, true, false, true, true, false, false, false, false] rfl rfl (any_of HT_.out (by kernel_rfl)) (fun _ _ _ h => h) (Or.inl ⟨by rfl, ?_⟩) ?_ ?_
        rotate_left
        ·intro w'
         go_simp
         with_reducible rfl
        rotate_left
        ·simp only [Act.put, ub, uc, ud, zn, zo]
         rfl
        refine pure_ (i := 6) (N := some 23) (v := ?_) (a' := ?_) #[true, true, true, false, true, true, true, false, false, false] rfl rfl (any_of HT_.out (by kernel_rfl)) (fun _ _ _ h => h) (Or.inl ⟨by rfl, ?_⟩) ?_ ?_
        rotate_left
        ·intro w'
         go_simp
         with_reducible rfl
        rotate_left
        ·simp only [Act.put, ub, uc, ud, zn, zo]
         rfl
        refine take_ (i := 3) (N := some 20) (v := ?_) (a' := ?_) #[true, true, true, true, true, true, true, false, false, false] rfl rfl (take_ofW HT_.out HW_.out (by kernel_rfl)) (fun _ _ _ h => h) (Or.inl ⟨by rfl, ?_⟩) hHeld ?_ ?_
        rotate_left
        ·rintro w' ⟨s0, s1, s2, s3, s4, s5⟩
         go_simp
         with_reducible rfl
        rotate_left
        ·simp only [Act.put, ub, uc, ud, zn, zo]
         rfl
        refine take_ (i := 7) (N := some 24) (v := ?_) (a' := ?_) #[true, true, true, true, true, true, true, true, false, false] rfl rfl (take_ofW HT_.out HW_.out (by kernel_rfl)) (fun _ _ _ h => h) (Or.inl ⟨by rfl, ?_⟩) hHeld ?_ ?_
        rotate_left
        ·rintro w' ⟨s0, s1, s2, s3, s4, s5⟩
         go_simp
         with_reducible rfl
        rotate_left
        ·simp only [Act.put, ub, uc, ud, zn, zo]
         rfl
        refine one_ (i := 8) (N := some 25) #[true, true, true, true, true, true, true, true, true, false] rfl rfl (one_of HT_.out (by kernel_rfl)) (by decide) (fun K hK => ?_)
        refine goes_ Try.func94 (by kernel_rfl) rfl #[.agg #[.string ((rd_T84 l0 x5_1).f0), .slice A287_1 ((rd_T84 l0 x5_1).f1).length c287_1, .slice A287_2 ((rd_T84 l0 x5_1).f2).length c287_2], .agg #[.string ((rd_T84 l1 x5_1).f0), .slice A288_1 ((rd_T84 l1 x5_1).f1).length c288_1, .slice A288_2 ((rd_T84 l1 x5_1).f2).length c288_2]] (by rfl) rfl rfl (by (try simp only [uh, ui, uj]); first | done | rfl | (simp only [uf, ug]; rfl)) ?_
        with_reducible refine (laws_eqValue.calls k1 ((rd_T84 l0 x5_1).f0) _ _ ((rd_T84 l0 x5_1).f1) _ _ ((rd_T84 l0 x5_1).f2) ((rd_T84 l1 x5_1).f0) _ _ ((rd_T84 l1 x5_1).f1) _ _ ((rd_T84 l1 x5_1).f2) false _ ?side1 ?side2 ?side3 ?side4 ?side5 ?side6 ?side7 ?side8 A7.out).mono ?_
        (case side1 => exact y2m)
        (case side2 => exact HC287_1.out)
        (case side3 => exact y2n)
        (case side4 => exact HC287_2.out)
        (case side5 => exact y2o)
        (case side6 => exact HC288_1.out)
        (case side7 => exact y2p)
        (case side8 => exact HC288_2.out)
        rintro e w12 ⟨rfl, hb⟩
        refine ⟨_, rfl, ?_⟩
        have n0_ := z1o.mk (za y0 hb)
        clear HB
        have HB := n0_
        clear n0_
        (try clear hb)
        (try clear hb2)
        (try clear hk)
        (try clear hi)
        refine hK.out _ _ ⟨((HB.out.cell (ua w _ hw287_0)).trans hw287_0), ((HB.out.cell (ua w _ hw287_1)).trans hw287_1), ((HB.out.cell (ua w _ hw287_2)).trans hw287_2), ((HB.out.cell (ua w _ hw288_0)).trans hw288_0), ((HB.out.cell (ua w _ hw288_1)).trans hw288_1), ((HB.out.cell (ua w _ hw288_2)).trans hw288_2)⟩ (fun hHeld => ?_)
        clear hK K
        refine norm_ (a' := ?_) ?_ ?_
        rotate_left
        ·show Act.put _ (some 25) _ = _
         simp only [Act.put, ub, uc, ud, zn, zo]
         rfl
        refine pure_ (i := 9) (N := some 26) (v := ?_) (a' := ?_) #[true, true, true, true, true, true, true, true, true, true] rfl rfl (any_of HT_.out (by kernel_rfl)) (fun _ _ _ h => h) (Or.inl ⟨by rfl, ?_⟩) ?_ ?_
        rotate_left
        ·intro w'
         go_simp
         with_reducible rfl
        rotate_left
        ·simp only [Act.put, ub, uc, ud, zn, zo]
         rfl
        refine done_ (done_of HT_.out (by kernel_rfl)) ?_
        try go_wp2
        go_ret
        exact ⟨by first | rfl | (simp [zm, zl] <;> rfl) | (simp [*, zm, zl] <;> rfl), y0⟩
      ·rw [if_neg c6] at H
       exact absurd H (by simp)
     ·rw [if_neg c5] at H
      exact absurd H (by simp)
    ·rw [if_neg c4] at H
     have c4b0 : decide (x5_1 < (l0.length : Int)) = false := decide_eq_false c4
     clear c4
     obtain rfl := Option.some.inj H
     go_wp2
     go_ret
     exact ⟨by first | rfl | (simp [zm, zl] <;> rfl) | (simp [*, zm, zl] <;> rfl), y0⟩
 ·rw [if_neg c3] at H
  have c3b0 : ((l0.length : Int) == (l1.length : Int)) = false := beq_eq_false_iff_ne.mpr c3
  have c3b1 : ((l0.length : Int) != (l1.length : Int)) = true := bne_iff_ne.mpr c3
  have c3b2 : (l0.length == l1.length) = false := by first | simpa using c3 | (simp at c3 ⊢; omega)
  obtain rfl := Option.some.inj H
  go_enter Try.func55, Try.ntmps55
  go_wp2
  go_ret
  exact ⟨by first | rfl | (simp [zm, zl] <;> rfl) | (simp [*, zm, zl] <;> rfl), y0⟩
def laws_eqDoc.f (k : Nat) (a0_0 : ByteArray) (l0_1 : List (S84)) (a1_0 : ByteArray) (l1_1 : List (S84)) : Option (Bool) := if a0_0.toList = a1_0.toList then ((z1b.f k l0_1 l1_1).bind fun t292 => (if t292 = true then (some true) else (some false))) else (some false)
set_option maxHeartbeats 8000000 in
set_option maxRecDepth 100000 in
theorem laws_eqDoc.calls (k : Nat) (a0_0 : ByteArray) (A0_1 : Option Addr) (c0_1 : Nat) (l0_1 : List (S84)) (a1_0 : ByteArray) (A1_1 : Option Addr) (c1_1 : Nat) (l1_1 : List (S84)) (r : Bool) (w : World) (hr0_1 : Kd.C k84 w A0_1 l0_1.length l0_1) (hc0_1 : l0_1.length ≤ c0_1) (hr1_1 : Kd.C k84 w A1_1 l1_1.length l1_1) (hc1_1 : l1_1.length ≤ c1_1) (h : laws_eqDoc.f k a0_0 l0_1 a1_0 l1_1 = some r) :
  Calls Try.prog 14 #[.agg #[.string a0_0, .slice A0_1 l0_1.length c0_1], .agg #[.string a1_0, .slice A1_1 l1_1.length c1_1]] w fun e w' => e = .returned (.bool r) ∧ Below w.heap.size w w' := by
 have hu31 := Try.underlying31
 have HR0_1 := z1o.mk hr0_1
 have HC0_1 := z1o.mk hc0_1
 clear hr0_1 hc0_1
 have HR1_1 := z1o.mk hr1_1
 have HC1_1 := z1o.mk hc1_1
 clear hr1_1 hc1_1
 have HB := z1o.mk (Below.refl w.heap.size w)
 have H : (if a0_0.toList = a1_0.toList then ((z1b.f k l0_1 l1_1).bind fun t292 => (if t292 = true then (some true) else (some false))) else (some false)) = some r := h
 clear h
 by_cases c3 : a0_0.toList = a1_0.toList
 ·rw [if_pos c3] at H
  have c3b0 : (a0_0.toList == a1_0.toList) = true := beq_iff_eq.mpr c3
  have c3b1 : (a0_0.toList != a1_0.toList) = false := bne_eq_false_iff_eq.mpr c3
  clear c3
  replace H := ue.mp H
  obtain ⟨t292, A40, H⟩ := H
  replace H : (if t292 = true then (some true) else (some false)) = some r := H
  have A4 := z1o.mk A40
  clear A40
  by_cases c5 : t292 = true
  ·subst c5
   have H1 : (some true) = some r := by rw [if_pos rfl] at H; exact H
   clear H
   have H := H1
   clear H1
   obtain rfl := Option.some.inj H
   go_enter Try.func14, Try.ntmps14
   go_wp2_with (first | ((with_reducible refine zq (N := 2) rfl ?_); refine zv ?hg (N := 2) ?hd (cs := #[.string a0_0, .slice A0_1 l0_1.length c0_1]) (t := 31) ?hr ?_; (case hd => rfl); (case hg => rfl); (case hr => first | (go_simp; done) | (go_simp; rfl)); intro gb290 hg w6 hbox hb; have n0_ := z1o.mk (za y0 hb); have n1_ := z1o.mk (hbox); have n2_ := z1o.mk ((by rw [hg]; exact (zc y0) : w.heap.size ≤ gb290)); have n3_ := z1o.mk ((by rw [hg]; exact (zc y0) : w.heap.size ≤ gb290)); clear HB; have HB := n0_; have BK290 := n1_; have GW290 := n2_; have GE290 := n3_; clear n0_ n1_ n2_ n3_; clear hb hbox hg) | ((with_reducible refine zq (N := 3) rfl ?_); refine zv ?hg (N := 3) ?hd (cs := #[.string a1_0, .slice A1_1 l1_1.length c1_1]) (t := 31) ?hr ?_; (case hd => rfl); (case hg => rfl); (case hr => first | (go_simp; done) | (go_simp; rfl)); intro gb291 hg w7 hbox hb; have n0_ := z1o.mk (zb (g := gb290) (o := .cells #[.string a0_0, .slice A0_1 l0_1.length c0_1] 31 (0, 0)) y1d hb); have n1_ := z1o.mk (za y17 hb); have n2_ := z1o.mk (hbox); have n3_ := z1o.mk ((by rw [hg]; exact (zc y17) : w.heap.size ≤ gb291)); have n4_ := z1o.mk ((by rw [hg]; exact (zc y17) : w.heap.size ≤ gb291)); have n5_ := z1o.mk ((by rw [hg]; exact Nat.ne_of_lt (zg (g := gb290) (o := .cells #[.string a0_0, .slice A0_1 l0_1.length c0_1] 31 (0, 0)) y1d) : gb290 ≠ gb291)); have n6_ := z1o.mk ((by rw [hg]; exact Nat.ne_of_gt (zg (g := gb290) (o := .cells #[.string a0_0, .slice A0_1 l0_1.length c0_1] 31 (0, 0)) y1d) : gb291 ≠ gb290)); clear BK290; clear HB; have BK290 := n0_; have HB := n1_; have BK291 := n2_; have GW291 := n3_; have GE291 := n4_; have NB290_291 := n5_; have NB291_290 := n6_; clear n0_ n1_ n2_ n3_ n4_ n5_ n6_; clear hb hbox hg; have hnb8 := NB290_291.out; have hnc8 := NB291_290.out; obtain ⟨hcz9_0, hcz9_1⟩ := cbk2 BK290.out; obtain ⟨hfz9_0, hfz9_1⟩ := cbf2 BK290.out; obtain ⟨hcz10_0, hcz10_1⟩ := cbk2 BK291.out; obtain ⟨hfz10_0, hfz10_1⟩ := cbf2 BK291.out) | ((with_reducible refine zp (f := 55) rfl ?_); refine goesL_ (some 14) rfl rfl Try.func55 (by kernel_rfl) rfl #[.slice A0_1 l0_1.length c0_1, .slice A1_1 l1_1.length c1_1] rfl (by (try simp only [uh, ui, uj]); first | done | rfl | (simp only [uf, ug]; rfl)) ?_; (with_reducible refine (z1b.calls k _ _ l0_1 _ _ l1_1 true _ ?side1 ?side2 ?side3 ?side4 A4.out).mono ?_); (case side1 => exact y1w); (case side2 => exact HC0_1.out); (case side3 => exact y1x); (case side4 => exact HC1_1.out); rintro e w11 ⟨rfl, hb⟩; refine ⟨_, rfl, ?_⟩; have n0_ := z1o.mk (zb (g := gb290) (o := .cells #[.string a0_0, .slice A0_1 l0_1.length c0_1] 31 (0, 0)) y1d hb); have n1_ := z1o.mk (zb (g := gb291) (o := .cells #[.string a1_0, .slice A1_1 l1_1.length c1_1] 31 (0, 0)) (by (with_reducible repeat (first | refine z8 ?_ _ | refine z9 ?_ | refine z7 ?_ _)); exact BK291.out) hb); have n2_ := z1o.mk (za y1t hb); clear BK290; clear BK291; clear HB; have BK290 := n0_; have BK291 := n1_; have HB := n2_; clear n0_ n1_ n2_; (try clear hb); (try clear hb2); (try clear hk); (try clear hi)))
   go_ret
   exact ⟨by first | rfl | (simp [zm, zl] <;> rfl) | (simp [*, zm, zl] <;> rfl), y1t⟩
  ·replace c5 := Bool.eq_false_iff.mpr c5
   subst c5
   have H1 : (some false) = some r := by rw [if_neg (show ¬ (false = true) by decide)] at H; exact H
   clear H
   have H := H1
   clear H1
   obtain rfl := Option.some.inj H
   go_enter Try.func14, Try.ntmps14
   go_wp2_with (first | ((with_reducible refine zq (N := 2) rfl ?_); refine zv ?hg (N := 2) ?hd (cs := #[.string a0_0, .slice A0_1 l0_1.length c0_1]) (t := 31) ?hr ?_; (case hd => rfl); (case hg => rfl); (case hr => first | (go_simp; done) | (go_simp; rfl)); intro gb290 hg w12 hbox hb; have n0_ := z1o.mk (za y0 hb); have n1_ := z1o.mk (hbox); have n2_ := z1o.mk ((by rw [hg]; exact (zc y0) : w.heap.size ≤ gb290)); have n3_ := z1o.mk ((by rw [hg]; exact (zc y0) : w.heap.size ≤ gb290)); clear HB; have HB := n0_; have BK290 := n1_; have GW290 := n2_; have GE290 := n3_; clear n0_ n1_ n2_ n3_; clear hb hbox hg) | ((with_reducible refine zq (N := 3) rfl ?_); refine zv ?hg (N := 3) ?hd (cs := #[.string a1_0, .slice A1_1 l1_1.length c1_1]) (t := 31) ?hr ?_; (case hd => rfl); (case hg => rfl); (case hr => first | (go_simp; done) | (go_simp; rfl)); intro gb291 hg w13 hbox hb; have n0_ := z1o.mk (zb (g := gb290) (o := .cells #[.string a0_0, .slice A0_1 l0_1.length c0_1] 31 (0, 0)) y1d hb); have n1_ := z1o.mk (za y17 hb); have n2_ := z1o.mk (hbox); have n3_ := z1o.mk ((by rw [hg]; exact (zc y17) : w.heap.size ≤ gb291)); have n4_ := z1o.mk ((by rw [hg]; exact (zc y17) : w.heap.size ≤ gb291)); have n5_ := z1o.mk ((by rw [hg]; exact Nat.ne_of_lt (zg (g := gb290) (o := .cells #[.string a0_0, .slice A0_1 l0_1.length c0_1] 31 (0, 0)) y1d) : gb290 ≠ gb291)); have n6_ := z1o.mk ((by rw [hg]; exact Nat.ne_of_gt (zg (g := gb290) (o := .cells #[.string a0_0, .slice A0_1 l0_1.length c0_1] 31 (0, 0)) y1d) : gb291 ≠ gb290)); clear BK290; clear HB; have BK290 := n0_; have HB := n1_; have BK291 := n2_; have GW291 := n3_; have GE291 := n4_; have NB290_291 := n5_; have NB291_290 := n6_; clear n0_ n1_ n2_ n3_ n4_ n5_ n6_; clear hb hbox hg; have hnb14 := NB290_291.out; have hnc14 := NB291_290.out; obtain ⟨hcz15_0, hcz15_1⟩ := cbk2 BK290.out; obtain ⟨hfz15_0, hfz15_1⟩ := cbf2 BK290.out; obtain ⟨hcz16_0, hcz16_1⟩ := cbk2 BK291.out; obtain ⟨hfz16_0, hfz16_1⟩ := cbf2 BK291.out) | ((with_reducible refine zp (f := 55) rfl ?_); refine goesL_ (some 14) rfl rfl Try.func55 (by kernel_rfl) rfl #[.slice A0_1 l0_1.length c0_1, .slice A1_1 l1_1.length c1_1] rfl (by (try simp only [uh, ui, uj]); first | done | rfl | (simp only [uf, ug]; rfl)) ?_; (with_reducible refine (z1b.calls k _ _ l0_1 _ _ l1_1 false _ ?side1 ?side2 ?side3 ?side4 A4.out).mono ?_); (case side1 => exact y1w); (case side2 => exact HC0_1.out); (case side3 => exact y1x); (case side4 => exact HC1_1.out); rintro e w17 ⟨rfl, hb⟩; refine ⟨_, rfl, ?_⟩; have n0_ := z1o.mk (zb (g := gb290) (o := .cells #[.string a0_0, .slice A0_1 l0_1.length c0_1] 31 (0, 0)) y1d hb); have n1_ := z1o.mk (zb (g := gb291) (o := .cells #[.string a1_0, .slice A1_1 l1_1.length c1_1] 31 (0, 0)) (by (with_reducible repeat (first | refine z8 ?_ _ | refine z9 ?_ | refine z7 ?_ _)); exact BK291.out) hb); have n2_ := z1o.mk (za y1t hb); clear BK290; clear BK291; clear HB; have BK290 := n0_; have BK291 := n1_; have HB := n2_; clear n0_ n1_ n2_; (try clear hb); (try clear hb2); (try clear hk); (try clear hi)))
   go_ret
   exact ⟨by first | rfl | (simp [zm, zl] <;> rfl) | (simp [*, zm, zl] <;> rfl), y1t⟩
 ·rw [if_neg c3] at H
  have c3b0 : (a0_0.toList == a1_0.toList) = false := beq_eq_false_iff_ne.mpr c3
  have c3b1 : (a0_0.toList != a1_0.toList) = true := bne_iff_ne.mpr c3
  obtain rfl := Option.some.inj H
  go_enter Try.func14, Try.ntmps14
  go_wp2_with (first | ((with_reducible refine zq (N := 2) rfl ?_); refine zv ?hg (N := 2) ?hd (cs := #[.string a0_0, .slice A0_1 l0_1.length c0_1]) (t := 31) ?hr ?_; (case hd => rfl); (case hg => rfl); (case hr => first | (go_simp; done) | (go_simp; rfl)); intro gb290 hg w18 hbox hb; have n0_ := z1o.mk (za y0 hb); have n1_ := z1o.mk (hbox); have n2_ := z1o.mk ((by rw [hg]; exact (zc y0) : w.heap.size ≤ gb290)); have n3_ := z1o.mk ((by rw [hg]; exact (zc y0) : w.heap.size ≤ gb290)); clear HB; have HB := n0_; have BK290 := n1_; have GW290 := n2_; have GE290 := n3_; clear n0_ n1_ n2_ n3_; clear hb hbox hg) | ((with_reducible refine zq (N := 3) rfl ?_); refine zv ?hg (N := 3) ?hd (cs := #[.string a1_0, .slice A1_1 l1_1.length c1_1]) (t := 31) ?hr ?_; (case hd => rfl); (case hg => rfl); (case hr => first | (go_simp; done) | (go_simp; rfl)); intro gb291 hg w19 hbox hb; have n0_ := z1o.mk (zb (g := gb290) (o := .cells #[.string a0_0, .slice A0_1 l0_1.length c0_1] 31 (0, 0)) y1d hb); have n1_ := z1o.mk (za y17 hb); have n2_ := z1o.mk (hbox); have n3_ := z1o.mk ((by rw [hg]; exact (zc y17) : w.heap.size ≤ gb291)); have n4_ := z1o.mk ((by rw [hg]; exact (zc y17) : w.heap.size ≤ gb291)); have n5_ := z1o.mk ((by rw [hg]; exact Nat.ne_of_lt (zg (g := gb290) (o := .cells #[.string a0_0, .slice A0_1 l0_1.length c0_1] 31 (0, 0)) y1d) : gb290 ≠ gb291)); have n6_ := z1o.mk ((by rw [hg]; exact Nat.ne_of_gt (zg (g := gb290) (o := .cells #[.string a0_0, .slice A0_1 l0_1.length c0_1] 31 (0, 0)) y1d) : gb291 ≠ gb290)); clear BK290; clear HB; have BK290 := n0_; have HB := n1_; have BK291 := n2_; have GW291 := n3_; have GE291 := n4_; have NB290_291 := n5_; have NB291_290 := n6_; clear n0_ n1_ n2_ n3_ n4_ n5_ n6_; clear hb hbox hg; have hnb20 := NB290_291.out; have hnc20 := NB291_290.out; obtain ⟨hcz21_0, hcz21_1⟩ := cbk2 BK290.out; obtain ⟨hfz21_0, hfz21_1⟩ := cbf2 BK290.out; obtain ⟨hcz22_0, hcz22_1⟩ := cbk2 BK291.out; obtain ⟨hfz22_0, hfz22_1⟩ := cbf2 BK291.out))
  go_ret
  exact ⟨by first | rfl | (simp [zm, zl] <;> rfl) | (simp [*, zm, zl] <;> rfl), y1t⟩
def laws_eqByteS.l0 : Nat → List Int → List Int → Int → Option (Bool)
 | 0, _, _, _ => none
 | k + 1, x0, x1, x5 => if x5 < (x0.length : Int) then (if 0 ≤ x5 then (if x5 < (x1.length : Int) then (if (rd x0 x5) = (rd x1 x5) then (laws_eqByteS.l0 k x0 x1 (wrap64 (x5 + 1))) else (some false)) else (none)) else (none)) else (some true)
def laws_eqByteS.f (k : Nat) (l0 : List Int) (l1 : List Int) : Option (Bool) := if (l0.length : Int) = (l1.length : Int) then (laws_eqByteS.l0 k l0 l1 0) else (some false)
set_option maxHeartbeats 8000000 in
set_option maxRecDepth 100000 in
theorem laws_eqByteS.calls (k : Nat) (A0 : Option Addr) (c0 : Nat) (l0 : List Int) (A1 : Option Addr) (c1 : Nat) (l1 : List Int) (r : Bool) (w : World) (hr0 : Kd.C (Kd.int .u8) w A0 l0.length l0) (hc0 : l0.length ≤ c0) (hr1 : Kd.C (Kd.int .u8) w A1 l1.length l1) (hc1 : l1.length ≤ c1) (h : laws_eqByteS.f k l0 l1 = some r) :
  Calls Try.prog 13 #[.slice A0 l0.length c0, .slice A1 l1.length c1] w fun e w' => e = .returned (.bool r) ∧ Drawn0 w w' := by
 have HR0 := z1o.mk hr0
 have HC0 := z1o.mk hc0
 clear hr0 hc0
 have HR1 := z1o.mk hr1
 have HC1 := z1o.mk hc1
 clear hr1 hc1
 have H : (if (l0.length : Int) = (l1.length : Int) then (laws_eqByteS.l0 k l0 l1 0) else (some false)) = some r := h
 clear h
 by_cases c3 : (l0.length : Int) = (l1.length : Int)
 ·rw [if_pos c3] at H
  have c3b0 : ((l0.length : Int) == (l1.length : Int)) = true := beq_iff_eq.mpr c3
  have c3b1 : ((l0.length : Int) != (l1.length : Int)) = false := bne_eq_false_iff_eq.mpr c3
  have c3b2 : (l0.length == l1.length) = true := by first | simpa using c3 | (simp at c3 ⊢; omega)
  clear c3
  have H' := z1o.mk H
  clear H
  go_enter Try.func13, Try.ntmps13
  go_wp2
  repeat (go_quiet (fail); try go_wp2)
  go_loopg [5] k (fun kq v5 w' => ∃ (x5_1 : Int), v5 = .int .i64 x5_1 ∧ z1o (laws_eqByteS.l0 kq l0 l1 x5_1 = some r) ∧ z1o (kq ≤ k) ∧ Drawn0 w w')
  case atStart => exact ⟨(0), (by first | rfl | (simp; done) | (simp [*]; done)), H', ⟨um _⟩, yb⟩
  case round =>
   clear H'
   try clear c1
   try clear p2
   try clear c3
   try clear c3b0
   try clear c3b1
   try clear c3b2
   obtain ⟨x5_1, rfl, HA, HK1, ⟨m1, rfl⟩⟩ := hrel
   cases gk with
   | zero => exact absurd HA.out (by simp [laws_eqByteS.l0])
   | succ k1 =>
    have H := HA.out
    clear HA
    simp only [laws_eqByteS.l0] at H
    by_cases c4 : x5_1 < (l0.length : Int)
    ·rw [if_pos c4] at H
     have c4b0 : decide (x5_1 < (l0.length : Int)) = true := decide_eq_true c4
     clear c4
     by_cases c5 : 0 ≤ x5_1
     ·rw [if_pos c5] at H
      have c5b0 : decide (0 ≤ x5_1) = true := decide_eq_true c5
      clear c5
      by_cases c6 : x5_1 < (l1.length : Int)
      ·rw [if_pos c6] at H
       have c6b0 : decide (x5_1 < (l1.length : Int)) = true := decide_eq_true c6
       clear c6
       by_cases c7 : (rd l0 x5_1) = (rd l1 x5_1)
       ·rw [if_pos c7] at H
        have c7b0 : ((rd l0 x5_1) == (rd l1 x5_1)) = true := beq_iff_eq.mpr c7
        have c7b1 : ((rd l0 x5_1) != (rd l1 x5_1)) = false := bne_eq_false_iff_eq.mpr c7
        clear c7
        have H' := z1o.mk H
        clear H
        have p277 : 0 ≤ (x5_1 : Int) := of_decide_eq_true (by first | (with_reducible assumption) | assumption)
        have q277 : x5_1 < (l0.length : Int) := of_decide_eq_true (by first | (with_reducible assumption) | assumption)
        obtain ⟨ad277, e277, hx277_0⟩ := Kd.at_int HR0.out x5_1 p277 q277
        cases e277
        replace p277 := eq_true p277
        replace q277 := eq_true q277
        have p278 : 0 ≤ (x5_1 : Int) := of_decide_eq_true (by first | (with_reducible assumption) | assumption)
        have q278 : x5_1 < (l1.length : Int) := of_decide_eq_true (by first | (with_reducible assumption) | assumption)
        obtain ⟨ad278, e278, hx278_0⟩ := Kd.at_int HR1.out x5_1 p278 q278
        cases e278
        replace p278 := eq_true p278
        replace q278 := eq_true q278
        go_wp2
        repeat (go_quiet (fail); try go_wp2)
        go_roundg k1
        case measure => have := HK1.out; omega
        case rel => exact ⟨(wrap64 (x5_1 + 1)), (by first | rfl | (simp; done) | (simp [*]; done)), H', ⟨by have := HK1.out; omega⟩, yb⟩
       ·rw [if_neg c7] at H
        have c7b0 : ((rd l0 x5_1) == (rd l1 x5_1)) = false := beq_eq_false_iff_ne.mpr c7
        have c7b1 : ((rd l0 x5_1) != (rd l1 x5_1)) = true := bne_iff_ne.mpr c7
        obtain rfl := Option.some.inj H
        have p277 : 0 ≤ (x5_1 : Int) := of_decide_eq_true (by first | (with_reducible assumption) | assumption)
        have q277 : x5_1 < (l0.length : Int) := of_decide_eq_true (by first | (with_reducible assumption) | assumption)
        obtain ⟨ad277, e277, hx277_0⟩ := Kd.at_int HR0.out x5_1 p277 q277
        cases e277
        replace p277 := eq_true p277
        replace q277 := eq_true q277
        have p278 : 0 ≤ (x5_1 : Int) := of_decide_eq_true (by first | (with_reducible assumption) | assumption)
        have q278 : x5_1 < (l1.length : Int) := of_decide_eq_true (by first | (with_reducible assumption) | assumption)
        obtain ⟨ad278, e278, hx278_0⟩ := Kd.at_int HR1.out x5_1 p278 q278
        cases e278
        replace p278 := eq_true p278
        replace q278 := eq_true q278
        go_wp2
        repeat (go_quiet (fail); try go_wp2)
        go_ret
        exact ⟨by first | rfl | (simp; done) | (simp [*]; done), yb⟩
      ·rw [if_neg c6] at H
       exact absurd H (by simp)
     ·rw [if_neg c5] at H
      exact absurd H (by simp)
    ·rw [if_neg c4] at H
     have c4b0 : decide (x5_1 < (l0.length : Int)) = false := decide_eq_false c4
     clear c4
     obtain rfl := Option.some.inj H
     go_wp2
     repeat (go_quiet (fail); try go_wp2)
     go_ret
     exact ⟨by first | rfl | (simp; done) | (simp [*]; done), yb⟩
 ·rw [if_neg c3] at H
  have c3b0 : ((l0.length : Int) == (l1.length : Int)) = false := beq_eq_false_iff_ne.mpr c3
  have c3b1 : ((l0.length : Int) != (l1.length : Int)) = true := bne_iff_ne.mpr c3
  have c3b2 : (l0.length == l1.length) = false := by first | simpa using c3 | (simp at c3 ⊢; omega)
  obtain rfl := Option.some.inj H
  go_enter Try.func13, Try.ntmps13
  go_wp2
  repeat (go_quiet (fail); try go_wp2)
  go_ret
  exact ⟨by first | rfl | (simp; done) | (simp [*]; done), yb⟩
def laws_markByteS.l0 : Nat → List Int → Int → Int → Option (Int × List Int)
 | 0, _, _, _ => none
 | k + 1, x0, x1, x5 => if x5 < (x0.length : Int) then (if 0 ≤ x5 then (laws_markByteS.l0 k (x0.set (x5 : Int).toNat ((x1) % 256)) (wrap64 (x1 + 1)) (wrap64 (x5 + 1))) else (none)) else (some (x1, x0))
def laws_markByteS.f (k : Nat) (l0 : List Int) (a1 : Int) : Option (Int × List Int) := laws_markByteS.l0 k l0 a1 0
set_option maxHeartbeats 8000000 in
set_option maxRecDepth 100000 in
theorem laws_markByteS.calls (k : Nat) (P0_ : Nat → Prop) (u9000_ : Value) (l0 : List Int) (a1 : Int) (r1 : Int) (r2 : List Int) (w0 w : World) (hB : Below w0.heap.size w0 w) (ho0 : Kd.R (Kd.int .u8) 5 w w0.heap.size P0_ u9000_ l0) (h : laws_markByteS.f k l0 a1 = some (r1, r2)) :
  Calls Try.prog 16 #[u9000_, .int .i64 a1] w fun e w' => e = .returned (.int .i64 r1) ∧ Kd.R (Kd.int .u8) 5 w' w0.heap.size (fun k_ => (P0_ k_ ∨ w.heap.size ≤ k_)) u9000_ r2 ∧ Below w0.heap.size w0 w' ∧ Kept w w' (fun k_ => P0_ k_) := by
 have HO0 := z1o.mk (show Kd.R (Kd.int .u8) 5 w w0.heap.size (fun k_ => (P0_ k_ ∨ w.heap.size ≤ k_)) u9000_ l0 from Kd.R_mono ho0 (fun k_ hk => (.inl hk)))
 have HK := z1o.mk (Kept.refl w (fun k_ => P0_ k_))
 have HW0 := z1o.mk hB.size
 have HB := z1o.mk hB
 clear hB
 have H : (laws_markByteS.l0 k l0 a1 0) = some (r1, r2) := h
 clear h
 have H' := z1o.mk H
 clear H
 go_enter Try.func16, Try.ntmps16
 go_wp2
 go_loopg [1, 5] k (fun kq v1 v5 w' => ∃ (x0_1 : List Int) (x1_1 : Int) (x5_1 : Int), v1 = .int .i64 x1_1 ∧ v5 = .int .i64 x5_1 ∧ z1o (laws_markByteS.l0 kq x0_1 x1_1 x5_1 = some (r1, r2)) ∧ z1o (kq ≤ k) ∧ z1o (Kd.R (Kd.int .u8) 5 w' w0.heap.size (fun k_ => (P0_ k_ ∨ w.heap.size ≤ k_)) u9000_ x0_1) ∧ z1o (Kept w w' (fun k_ => P0_ k_)) ∧ z1o (Below w0.heap.size w0 w'))
 case atStart => exact ⟨(l0), (a1), (0), (by first | rfl | (simp; done) | (simp [*]; done)), (by first | rfl | (simp; done) | (simp [*]; done)), H', ⟨um _⟩, ⟨y1a⟩, ⟨y7⟩, ⟨y0⟩⟩
 case round =>
  clear H'
  try clear c1
  try clear p2
  obtain ⟨x0_1, x1_1, x5_1, rfl, rfl, HA, HK1, HO_0, HK, HB⟩ := hrel
  cases gk with
  | zero => exact absurd HA.out (by simp [laws_markByteS.l0])
  | succ k1 =>
   have H := HA.out
   clear HA
   simp only [laws_markByteS.l0] at H
   by_cases c3 : x5_1 < (x0_1.length : Int)
   ·rw [if_pos c3] at H
    have c3b0 : decide (x5_1 < (x0_1.length : Int)) = true := decide_eq_true c3
    clear c3
    by_cases c4 : 0 ≤ x5_1
    ·rw [if_pos c4] at H
     have c4b0 : decide (0 ≤ x5_1) = true := decide_eq_true c4
     clear c4
     obtain ⟨y301, hy301⟩ : ∃ y_ : List Int, y_ = (x0_1.set (x5_1 : Int).toNat ((x1_1) % 256)) := ⟨_, rfl⟩
     replace H : (laws_markByteS.l0 k1 y301 (wrap64 (x1_1 + 1)) (wrap64 (x5_1 + 1))) = some (r1, r2) := by first | (rw [hy301]; with_reducible exact H) | (have H2_ := (uk _ _).symm.trans H; rw [hy301]; with_reducible exact H2_) | (have H2_ := (uk _ _).symm.trans H; with_reducible exact H2_) | with_reducible exact H | (rw [hy301]; exact H) | exact H
     have Ny301 := z1o.mk hy301
     clear hy301
     have H' := z1o.mk H
     clear H
     obtain ⟨Ao6, co6, eo6⟩ := Kd.R_slice HO_0.out
     subst eo6
     have p5 : 0 ≤ (x5_1 : Int) := of_decide_eq_true (by first | (with_reducible assumption) | assumption)
     have q5 : (x5_1 : Int) < ((x0_1.length : Int) : Int) := of_decide_eq_true (by first | (with_reducible assumption) | assumption)
     obtain ⟨go5, co5, eo5, gb5, gl5, cl5, HG5⟩ := Kd.R_form HO_0.out (by omega)
     (first | cases eo5 | (injection eo5 with ea_ en_ ec_; (first | subst ea_ | (injection ea_ with ea_; subst ea_)); subst ec_; clear en_))
     have GB5 := z1o.mk gb5
     have GG5 := z1o.mk HG5
     clear gb5 gl5 HG5
     have HMgo5 := z1o.mk (show (P0_ go5 ∨ w.heap.size ≤ go5) from (HO_0.out.1 _ rfl))
     obtain ⟨hx5_0, hf5_0⟩ := Kd.R_celln 0 HO_0.out (x5_1 : Int) p5 q5
     replace p5 := eq_true p5
     replace q5 := eq_true q5
     have HP7 := Kd.R_putg HO_0.out (x5_1 : Int) ((x1_1) % 256)
     go_wp2_with (first | ((with_reducible refine zt (t := 5) (p := 16) rfl ?_); refine zw (t := 5) (p := 16) (v := ?vo_w8) (w1 := (wr.setCell ⟨go5, (x5_1 : Int).toNat, none⟩ (.int .u8 ((x1_1) % 256)))) ?hg ?ho ?hn ?hr ?_; (case ho => rfl); (case hg => rfl); (case hn => rfl); (case hr => first | (go_simp; done) | (go_simp; rfl)); intro w8 hw; have hg : wr.grownBy w8 (some go5) := (by rw [hw]; exact HP7.2); have hp_ : Kd.R (Kd.int .u8) 5 w8 w0.heap.size (fun k_ => (P0_ k_ ∨ w.heap.size ≤ k_)) (.slice (some ⟨go5, 0, none⟩) x0_1.length co6) y301 := (by rw [hw, Ny301.out]; exact HP7.1); clear HP7; have n0_ := z1o.mk (hp_); have n1_ := z1o.mk ((by rw [hw]; exact z4 (HB.out) GB5.out : Below w0.heap.size w0 w8)); have n2_ := z1o.mk (Kept.of_grown (S := (fun k_ => P0_ k_)) hg y7 (fun k_ e_ => (HO_0.out.1 k_ e_))); clear HO_0; clear HB; clear HK; have HO_0 := n0_; have HB := n1_; have HK := n2_; clear n0_ n1_ n2_; clear hg hw hp_))
     go_roundg k1
     case measure => have := HK1.out; omega
     case rel => exact ⟨(y301), (wrap64 (x1_1 + 1)), (wrap64 (x5_1 + 1)), (by first | rfl | (simp; done) | (simp [*]; done)), (by first | rfl | (simp; done) | (simp [*]; done)), H', ⟨by have := HK1.out; omega⟩, ⟨y1r⟩, ⟨y7⟩, ⟨y0⟩⟩
    ·rw [if_neg c4] at H
     exact absurd H (by simp)
   ·rw [if_neg c3] at H
    have c3b0 : decide (x5_1 < (x0_1.length : Int)) = false := decide_eq_false c3
    clear c3
    simp only [Option.some.injEq, Prod.mk.injEq] at H
    obtain ⟨rfl, rfl⟩ := H
    obtain ⟨Ao9, co9, eo9⟩ := Kd.R_slice HO_0.out
    subst eo9
    go_wp2
    go_ret
    exact ⟨by first | rfl | (simp [zm, zl] <;> rfl) | (simp [*, zm, zl] <;> rfl), y1r, y0, y7⟩
def z19.l0 : Nat → Int → ByteArray → Option (ByteArray)
 | 0, _, _ => none
 | k + 1, x0, x3 => if x0 > 0 then ((some (([(wrap64 (48 + (Int.tmod x0 10))) % 256] : List Int) : List Int)).bind fun y293 => (if (strOfNums y293).size + x3.size ≤ 9223372036854775807 then (z19.l0 k (wrap64 (Int.tdiv x0 10)) ((strOfNums y293) ++ x3)) else (none))) else (if 1 + x3.size ≤ 9223372036854775807 then (some ((⟨#[109]⟩ : ByteArray) ++ x3)) else (none))
def z19.f (k : Nat) (a0 : Int) : Option (ByteArray) := if a0 ≤ 0 then (some (⟨#[109, 48]⟩ : ByteArray)) else (z19.l0 k a0 (⟨#[]⟩ : ByteArray))
set_option maxHeartbeats 8000000 in
set_option maxRecDepth 100000 in
theorem z19.calls (k : Nat) (a0 : Int) (r : ByteArray) (w : World) (h : z19.f k a0 = some r) :
  Calls Try.prog 85 #[.int .i64 a0] w fun e w' => e = .returned (.string r) ∧ Below w.heap.size w w' := by
 have HB := z1o.mk (Below.refl w.heap.size w)
 have H : (if a0 ≤ 0 then (some (⟨#[109, 48]⟩ : ByteArray)) else (z19.l0 k a0 (⟨#[]⟩ : ByteArray))) = some r := h
 clear h
 by_cases c2 : a0 ≤ 0
 ·rw [if_pos c2] at H
  have c2b0 : decide (a0 ≤ 0) = true := decide_eq_true c2
  clear c2
  obtain rfl := Option.some.inj H
  go_enter Try.func85, Try.ntmps85
  go_wp2
  go_ret
  exact ⟨by first | rfl | (simp [zm, zl] <;> rfl) | (simp [*, zm, zl] <;> rfl), y0⟩
 ·rw [if_neg c2] at H
  have c2b0 : decide (a0 ≤ 0) = false := decide_eq_false c2
  clear c2
  have H' := z1o.mk H
  clear H
  go_enter Try.func85, Try.ntmps85
  go_wp2
  go_loopg [0, 3] k (fun kq v0 v3 w' => ∃ (x0_1 : Int) (x3_1 : ByteArray), v0 = .int .i64 x0_1 ∧ v3 = .string x3_1 ∧ z1o (z19.l0 kq x0_1 x3_1 = some r) ∧ z1o (kq ≤ k) ∧ z1o (Below w.heap.size w w'))
  case atStart => exact ⟨(a0), ((⟨#[]⟩ : ByteArray)), (by first | rfl | (simp; done) | (simp [*]; done)), (by first | rfl | (simp; done) | (simp [*]; done)), H', ⟨um _⟩, ⟨y0⟩⟩
  case round =>
   clear H'
   try clear c2
   try clear c2b0
   try clear p2
   obtain ⟨x0_1, x3_1, rfl, rfl, HA, HK1, HB⟩ := hrel
   cases gk with
   | zero => exact absurd HA.out (by simp [z19.l0])
   | succ k1 =>
    have H := HA.out
    clear HA
    simp only [z19.l0] at H
    by_cases c3 : x0_1 > 0
    ·rw [if_pos c3] at H
     have c3b0 : decide (0 < x0_1) = true := decide_eq_true c3
     clear c3
     obtain ⟨y293, hy293⟩ : ∃ y_ : List Int, y_ = (([(wrap64 (48 + (Int.tmod x0_1 10))) % 256] : List Int)) := ⟨_, rfl⟩
     replace H : (if (strOfNums y293).size + x3_1.size ≤ 9223372036854775807 then (z19.l0 k1 (wrap64 (Int.tdiv x0_1 10)) ((strOfNums y293) ++ x3_1)) else (none)) = some r := by first | (rw [hy293]; with_reducible exact H) | (have H2_ := (uk _ _).symm.trans H; rw [hy293]; with_reducible exact H2_) | (have H2_ := (uk _ _).symm.trans H; with_reducible exact H2_) | with_reducible exact H | (rw [hy293]; exact H) | exact H
     have Ny293 := z1o.mk hy293
     clear hy293
     by_cases c4 : (strOfNums y293).size + x3_1.size ≤ 9223372036854775807
     ·rw [if_pos c4] at H
      have c4b0 := eq_true c4
      have c4b1 : decide ((strOfNums y293).size + x3_1.size ≤ 9223372036854775807) = true := decide_eq_true c4
      try have c4b2 : (9223372036854775807 < (strOfNums y293).size + x3_1.size) = False := eq_false (Nat.not_lt.2 c4)
      have H' := z1o.mk H
      clear H
      go_wp2_with (first | ((with_reducible refine zq (N := 12) rfl ?_); refine Kd.R_lit (Kd.int .u8) _ 5 ?hg (N := 12) ?hd (xs := ([(wrap64 (48 + (Int.tmod x0_1 10))) % 256] : List Int)) (inner := [.int .u8 ((wrap64 (48 + (Int.tmod x0_1 10))) % 256)]) (ok := fun _ => True) (okp := fun _ => True) ?hr ?hp (fun _ hk => hk) trivial (Below.refl _ _) (um _) (by simp) ?_; (case hd => rfl); (case hg => rfl); (case hr => first | (go_simp; done) | (go_simp; rfl)); (case hp => exact (Reps.one (show Kd.M (Kd.int .u8) _ _ _ ((wrap64 (48 + (Int.tmod x0_1 10))) % 256) [.int .u8 ((wrap64 (48 + (Int.tmod x0_1 10))) % 256)] from rfl) (Reps.none _ _))); intro v294 w5 ho6 hb hg_ hnew_; clear hg_ hnew_; (first | rw [← Ny293.out] at ho6 | (simp only [Int.reduceToNat] at ho6; rw [← Ny293.out] at ho6)); have n0_ := z1o.mk (Kd.R_lower ho6 (zc y0)); have n1_ := z1o.mk (za y0 hb); clear HB; have HO295 := n0_; have HB := n1_; clear n0_ n1_; clear hb ho6; have hcv7 := own_string (P := Try.prog) Try.underlying26 Try.underlying5 Try.underlying9 (Kd.own_of_R HO295.out)))
      go_roundg k1
      case measure => have := HK1.out; omega
      case rel => exact ⟨(wrap64 (Int.tdiv x0_1 10)), ((strOfNums y293) ++ x3_1), (by first | rfl | (simp; done) | (simp [*]; done)), (by first | rfl | (simp; done) | (simp [*]; done)), H', ⟨by have := HK1.out; omega⟩, ⟨y0⟩⟩
     ·rw [if_neg c4] at H
      exact absurd H (by simp)
    ·rw [if_neg c3] at H
     have c3b0 : decide (0 < x0_1) = false := decide_eq_false c3
     clear c3
     by_cases c8 : 1 + x3_1.size ≤ 9223372036854775807
     ·rw [if_pos c8] at H
      have c8b0 := eq_true c8
      have c8b1 : decide (1 + x3_1.size ≤ 9223372036854775807) = true := decide_eq_true c8
      try have c8b2 : (9223372036854775807 < 1 + x3_1.size) = False := eq_false (Nat.not_lt.2 c8)
      obtain rfl := Option.some.inj H
      go_wp2
      go_ret
      exact ⟨by first | rfl | (simp [zm, zl] <;> rfl) | (simp [*, zm, zl] <;> rfl), y0⟩
     ·rw [if_neg c8] at H
      exact absurd H (by simp)
def laws_heldIntS.l0 : Nat → List Int → Int → Int → Option (Int)
 | 0, _, _, _ => none
 | k + 1, x0, x1, x5 => if x5 < (x0.length : Int) then (if 0 ≤ x5 then (if (rd x0 x5) = x1 then (laws_heldIntS.l0 k x0 (wrap64 (x1 + 1)) (wrap64 (x5 + 1))) else (some (-1))) else (none)) else (some x1)
def laws_heldIntS.f (k : Nat) (l0 : List Int) (a1 : Int) : Option (Int) := laws_heldIntS.l0 k l0 a1 0
set_option maxHeartbeats 8000000 in
set_option maxRecDepth 100000 in
theorem laws_heldIntS.calls (k : Nat) (A0 : Option Addr) (c0 : Nat) (l0 : List Int) (a1 : Int) (r : Int) (w : World) (hr0 : Kd.C (Kd.int .i64) w A0 l0.length l0) (hc0 : l0.length ≤ c0) (h : laws_heldIntS.f k l0 a1 = some r) :
  Calls Try.prog 87 #[.slice A0 l0.length c0, .int .i64 a1] w fun e w' => e = .returned (.int .i64 r) ∧ Drawn0 w w' := by
 have HR0 := z1o.mk hr0
 have HC0 := z1o.mk hc0
 clear hr0 hc0
 have H : (laws_heldIntS.l0 k l0 a1 0) = some r := h
 clear h
 have H' := z1o.mk H
 clear H
 go_enter Try.func87, Try.ntmps87
 go_wp2
 go_loopg [1, 5] k (fun kq v1 v5 w' => ∃ (x1_1 : Int) (x5_1 : Int), v1 = .int .i64 x1_1 ∧ v5 = .int .i64 x5_1 ∧ z1o (laws_heldIntS.l0 kq l0 x1_1 x5_1 = some r) ∧ z1o (kq ≤ k) ∧ Drawn0 w w')
 case atStart => exact ⟨(a1), (0), (by first | rfl | (simp; done) | (simp [*]; done)), (by first | rfl | (simp; done) | (simp [*]; done)), H', ⟨um _⟩, yb⟩
 case round =>
  clear H'
  try clear p2
  obtain ⟨x1_1, x5_1, rfl, rfl, HA, HK1, ⟨m1, rfl⟩⟩ := hrel
  cases gk with
  | zero => exact absurd HA.out (by simp [laws_heldIntS.l0])
  | succ k1 =>
   have H := HA.out
   clear HA
   simp only [laws_heldIntS.l0] at H
   by_cases c3 : x5_1 < (l0.length : Int)
   ·rw [if_pos c3] at H
    have c3b0 : decide (x5_1 < (l0.length : Int)) = true := decide_eq_true c3
    clear c3
    by_cases c4 : 0 ≤ x5_1
    ·rw [if_pos c4] at H
     have c4b0 : decide (0 ≤ x5_1) = true := decide_eq_true c4
     clear c4
     by_cases c5 : (rd l0 x5_1) = x1_1
     ·rw [if_pos c5] at H
      have c5b0 : ((rd l0 x5_1) == x1_1) = true := beq_iff_eq.mpr c5
      have c5b1 : ((rd l0 x5_1) != x1_1) = false := bne_eq_false_iff_eq.mpr c5
      clear c5
      have H' := z1o.mk H
      clear H
      have p414 : 0 ≤ (x5_1 : Int) := of_decide_eq_true (by first | (with_reducible assumption) | assumption)
      have q414 : x5_1 < (l0.length : Int) := of_decide_eq_true (by first | (with_reducible assumption) | assumption)
      obtain ⟨ad414, e414, hx414_0⟩ := Kd.at_int HR0.out x5_1 p414 q414
      cases e414
      replace p414 := eq_true p414
      replace q414 := eq_true q414
      go_wp2
      go_roundg k1
      case measure => have := HK1.out; omega
      case rel => exact ⟨(wrap64 (x1_1 + 1)), (wrap64 (x5_1 + 1)), (by first | rfl | (simp; done) | (simp [*]; done)), (by first | rfl | (simp; done) | (simp [*]; done)), H', ⟨by have := HK1.out; omega⟩, yb⟩
     ·rw [if_neg c5] at H
      have c5b0 : ((rd l0 x5_1) == x1_1) = false := beq_eq_false_iff_ne.mpr c5
      have c5b1 : ((rd l0 x5_1) != x1_1) = true := bne_iff_ne.mpr c5
      obtain rfl := Option.some.inj H
      have p414 : 0 ≤ (x5_1 : Int) := of_decide_eq_true (by first | (with_reducible assumption) | assumption)
      have q414 : x5_1 < (l0.length : Int) := of_decide_eq_true (by first | (with_reducible assumption) | assumption)
      obtain ⟨ad414, e414, hx414_0⟩ := Kd.at_int HR0.out x5_1 p414 q414
      cases e414
      replace p414 := eq_true p414
      replace q414 := eq_true q414
      go_wp2
      go_ret
      exact ⟨by first | rfl | (simp; done) | (simp [*]; done), yb⟩
    ·rw [if_neg c4] at H
     exact absurd H (by simp)
   ·rw [if_neg c3] at H
    have c3b0 : decide (x5_1 < (l0.length : Int)) = false := decide_eq_false c3
    clear c3
    obtain rfl := Option.some.inj H
    go_wp2
    go_ret
    exact ⟨by first | rfl | (simp; done) | (simp [*]; done), yb⟩
def z1d.l0 : Nat → List ByteArray → Int → Int → Option (Int)
 | 0, _, _, _ => none
 | k + 1, x0, x1, x5 => if x5 < (x0.length : Int) then (if 0 ≤ x5 then ((z19.f k x1).bind fun t416 => (if (rdOf ByteArray.empty x0 x5).toList = t416.toList then (z1d.l0 k x0 (wrap64 (x1 + 1)) (wrap64 (x5 + 1))) else (some (-1)))) else (none)) else (some x1)
def z1d.f (k : Nat) (l0 : List ByteArray) (a1 : Int) : Option (Int) := z1d.l0 k l0 a1 0
set_option maxHeartbeats 8000000 in
set_option maxRecDepth 100000 in
theorem z1d.calls (k : Nat) (A0 : Option Addr) (c0 : Nat) (l0 : List ByteArray) (a1 : Int) (r : Int) (w : World) (hr0 : Kd.C Kd.string w A0 l0.length l0) (hc0 : l0.length ≤ c0) (h : z1d.f k l0 a1 = some r) :
  Calls Try.prog 101 #[.slice A0 l0.length c0, .int .i64 a1] w fun e w' => e = .returned (.int .i64 r) ∧ Below w.heap.size w w' := by
 have HR0 := z1o.mk hr0
 have HC0 := z1o.mk hc0
 clear hr0 hc0
 have HB := z1o.mk (Below.refl w.heap.size w)
 have H : (z1d.l0 k l0 a1 0) = some r := h
 clear h
 have H' := z1o.mk H
 clear H
 go_enter Try.func101, Try.ntmps101
 go_wp2
 go_loopg [1, 5] k (fun kq v1 v5 w' => ∃ (x1_1 : Int) (x5_1 : Int), v1 = .int .i64 x1_1 ∧ v5 = .int .i64 x5_1 ∧ z1o (z1d.l0 kq l0 x1_1 x5_1 = some r) ∧ z1o (kq ≤ k) ∧ z1o (Below w.heap.size w w'))
 case atStart => exact ⟨(a1), (0), (by first | rfl | (simp; done) | (simp [*]; done)), (by first | rfl | (simp; done) | (simp [*]; done)), H', ⟨um _⟩, ⟨y0⟩⟩
 case round =>
  clear H'
  try clear c1
  try clear p2
  obtain ⟨x1_1, x5_1, rfl, rfl, HA, HK1, HB⟩ := hrel
  cases gk with
  | zero => exact absurd HA.out (by simp [z1d.l0])
  | succ k1 =>
   have H := HA.out
   clear HA
   simp only [z1d.l0] at H
   by_cases c3 : x5_1 < (l0.length : Int)
   ·rw [if_pos c3] at H
    have c3b0 : decide (x5_1 < (l0.length : Int)) = true := decide_eq_true c3
    clear c3
    by_cases c4 : 0 ≤ x5_1
    ·rw [if_pos c4] at H
     have c4b0 : decide (0 ≤ x5_1) = true := decide_eq_true c4
     clear c4
     replace H := ue.mp H
     obtain ⟨t416, A50, H⟩ := H
     replace H : (if (rdOf ByteArray.empty l0 x5_1).toList = t416.toList then (z1d.l0 k1 l0 (wrap64 (x1_1 + 1)) (wrap64 (x5_1 + 1))) else (some (-1))) = some r := H
     have A5 := z1o.mk A50
     clear A50
     by_cases c6 : (rdOf ByteArray.empty l0 x5_1).toList = t416.toList
     ·rw [if_pos c6] at H
      have c6b0 : ((rdOf ByteArray.empty l0 x5_1).toList == t416.toList) = true := beq_iff_eq.mpr c6
      have c6b1 : ((rdOf ByteArray.empty l0 x5_1).toList != t416.toList) = false := bne_eq_false_iff_eq.mpr c6
      clear c6
      have H' := z1o.mk H
      clear H
      try go_wp2
      have n0_ := z1o.mk (z3 HB.out)
      clear HB
      have HB := n0_
      clear n0_
      have p415 : 0 ≤ (x5_1 : Int) := of_decide_eq_true (by first | (with_reducible assumption) | assumption)
      have q415 : x5_1 < (l0.length : Int) := of_decide_eq_true (by first | (with_reducible assumption) | assumption)
      obtain ⟨ad415, e415, hx415_0⟩ := Kd.at_string HR0.out x5_1 p415 q415
      have hw415_0 := hx415_0
      cases e415
      replace hx415_0 := (HB.out.cell (ua w _ hx415_0)).trans hx415_0
      replace p415 := eq_true p415
      replace q415 := eq_true q415
      refine start_ (n := 7) (S := fun w' => w'.cell? (ad415.add (x5_1).toNat) = some (.string (rdOf ByteArray.empty l0 x5_1))) (ds := []) #[false, false, false, false, false, false, false] (by kernel_rfl) rfl rfl (((HB.out.cell (ua w _ hw415_0)).trans hw415_0)) (fun hHeld => ?_)
      generalize wr.drew = w7 at HB hx415_0 hHeld ⊢
      refine pure_ (i := 0) (N := some 12) (v := ?_) (a' := ?_) #[true, false, false, false, false, false, false] rfl rfl (by kernel_rfl) (fun _ _ _ h => h) (Or.inl ⟨by rfl, ?_⟩) ?_ ?_
      rotate_left
      ·intro w'
       go_simp
       with_reducible rfl
      rotate_left
      ·simp only [Act.put, ub, uc, ud, zn, zo]
       rfl
      refine pure_ (i := 1) (N := some 13) (v := ?_) (a' := ?_) #[true, true, false, false, false, false, false] rfl rfl (by kernel_rfl) (fun _ _ _ h => h) (Or.inl ⟨by rfl, ?_⟩) ?_ ?_
      rotate_left
      ·intro w'
       go_simp
       with_reducible rfl
      rotate_left
      ·simp only [Act.put, ub, uc, ud, zn, zo]
       rfl
      refine pure_ (i := 2) (N := some 14) (v := ?_) (a' := ?_) #[true, true, true, false, false, false, false] rfl rfl (by kernel_rfl) (fun _ _ _ h => h) (Or.inl ⟨by rfl, ?_⟩) ?_ ?_
      rotate_left
      ·intro w'
       go_simp
       with_reducible rfl
      rotate_left
      ·simp only [Act.put, ub, uc, ud, zn, zo]
       rfl
      refine pure_ (i := 4) (N := some 16) (v := ?_) (a' := ?_) #[true, true, true, false, true, false, false] rfl rfl (by kernel_rfl) (fun _ _ _ h => h) (Or.inl ⟨by rfl, ?_⟩) ?_ ?_
      rotate_left
      ·intro w'
       go_simp
       with_reducible rfl
      rotate_left
      ·simp only [Act.put, ub, uc, ud, zn, zo]
       rfl
      refine take_ (i := 3) (N := some 15) (v := ?_) (a' := ?_) #[true, true, true, true, true, false, false] rfl rfl (by kernel_rfl) (fun _ _ _ h => h) (Or.inl ⟨by rfl, ?_⟩) hHeld ?_ ?_
      rotate_left
      ·intro w' s0
       go_simp
       with_reducible rfl
      rotate_left
      ·simp only [Act.put, ub, uc, ud, zn, zo]
       rfl
      refine one_ (i := 5) (N := some 17) #[true, true, true, true, true, true, false] rfl rfl (by kernel_rfl) (by decide) (fun K hK => ?_)
      refine goes_ Try.func85 (by kernel_rfl) rfl #[.int .i64 x1_1] (by rfl) rfl rfl (by (try simp only [uh, ui, uj]); first | done | rfl | (simp only [uf, ug]; rfl)) ?_
      with_reducible refine (z19.calls k1 x1_1 t416 _ A5.out).mono ?_
      rintro e w8 ⟨rfl, hb⟩
      refine ⟨_, rfl, ?_⟩
      have n0_ := z1o.mk (za y0 hb)
      clear HB
      have HB := n0_
      clear n0_
      (try clear hb)
      (try clear hb2)
      (try clear hk)
      (try clear hi)
      refine hK.out _ _ (((HB.out.cell (ua w _ hw415_0)).trans hw415_0)) (fun hHeld => ?_)
      clear hK K
      refine norm_ (a' := ?_) ?_ ?_
      rotate_left
      ·show Act.put _ (some 17) _ = _
       simp only [Act.put, ub, uc, ud, zn, zo]
       rfl
      refine pure_ (i := 6) (N := some 18) (v := ?_) (a' := ?_) #[true, true, true, true, true, true, true] rfl rfl (by kernel_rfl) (fun _ _ _ h => h) (Or.inl ⟨by rfl, ?_⟩) ?_ ?_
      rotate_left
      ·intro w'
       go_simp
       with_reducible rfl
      rotate_left
      ·simp only [Act.put, ub, uc, ud, zn, zo]
       rfl
      refine done_ (by kernel_rfl) ?_
      try go_wp2
      go_roundg k1
      case measure => have := HK1.out; omega
      case rel => exact ⟨(wrap64 (x1_1 + 1)), (wrap64 (x5_1 + 1)), (by first | rfl | (simp; done) | (simp [*]; done)), (by first | rfl | (simp; done) | (simp [*]; done)), H', ⟨by have := HK1.out; omega⟩, ⟨y0⟩⟩
     ·rw [if_neg c6] at H
      have c6b0 : ((rdOf ByteArray.empty l0 x5_1).toList == t416.toList) = false := beq_eq_false_iff_ne.mpr c6
      have c6b1 : ((rdOf ByteArray.empty l0 x5_1).toList != t416.toList) = true := bne_iff_ne.mpr c6
      obtain rfl := Option.some.inj H
      try go_wp2
      have n0_ := z1o.mk (z3 HB.out)
      clear HB
      have HB := n0_
      clear n0_
      have p415 : 0 ≤ (x5_1 : Int) := of_decide_eq_true (by first | (with_reducible assumption) | assumption)
      have q415 : x5_1 < (l0.length : Int) := of_decide_eq_true (by first | (with_reducible assumption) | assumption)
      obtain ⟨ad415, e415, hx415_0⟩ := Kd.at_string HR0.out x5_1 p415 q415
      have hw415_0 := hx415_0
      cases e415
      replace hx415_0 := (HB.out.cell (ua w _ hx415_0)).trans hx415_0
      replace p415 := eq_true p415
      replace q415 := eq_true q415
      refine start_ (n := 7) (S := fun w' => w'.cell? (ad415.add (x5_1).toNat) = some (.string (rdOf ByteArray.empty l0 x5_1))) (ds := []) #[false, false, false, false, false, false, false] (by kernel_rfl) rfl rfl (((HB.out.cell (ua w _ hw415_0)).trans hw415_0)) (fun hHeld => ?_)
      generalize wr.drew = w9 at HB hx415_0 hHeld ⊢
      refine pure_ (i := 0) (N := some 12) (v := ?_) (a' := ?_) #[true, false, false, false, false, false, false] rfl rfl (by kernel_rfl) (fun _ _ _ h => h) (Or.inl ⟨by rfl, ?_⟩) ?_ ?_
      rotate_left
      ·intro w'
       go_simp
       with_reducible rfl
      rotate_left
      ·simp only [Act.put, ub, uc, ud, zn, zo]
       rfl
      refine pure_ (i := 1) (N := some 13) (v := ?_) (a' := ?_) #[true, true, false, false, false, false, false] rfl rfl (by kernel_rfl) (fun _ _ _ h => h) (Or.inl ⟨by rfl, ?_⟩) ?_ ?_
      rotate_left
      ·intro w'
       go_simp
       with_reducible rfl
      rotate_left
      ·simp only [Act.put, ub, uc, ud, zn, zo]
       rfl
      refine pure_ (i := 2) (N := some 14) (v := ?_) (a' := ?_) #[true, true, true, false, false, false, false] rfl rfl (by kernel_rfl) (fun _ _ _ h => h) (Or.inl ⟨by rfl, ?_⟩) ?_ ?_
      rotate_left
      ·intro w'
       go_simp
       with_reducible rfl
      rotate_left
      ·simp only [Act.put, ub, uc, ud, zn, zo]
       rfl
      refine pure_ (i := 4) (N := some 16) (v := ?_) (a' := ?_) #[true, true, true, false, true, false, false] rfl rfl (by kernel_rfl) (fun _ _ _ h => h) (Or.inl ⟨by rfl, ?_⟩) ?_ ?_
      rotate_left
      ·intro w'
       go_simp
       with_reducible rfl
      rotate_left
      ·simp only [Act.put, ub, uc, ud, zn, zo]
       rfl
      refine take_ (i := 3) (N := some 15) (v := ?_) (a' := ?_) #[true, true, true, true, true, false, false] rfl rfl (by kernel_rfl) (fun _ _ _ h => h) (Or.inl ⟨by rfl, ?_⟩) hHeld ?_ ?_
      rotate_left
      ·intro w' s0
       go_simp
       with_reducible rfl
      rotate_left
      ·simp only [Act.put, ub, uc, ud, zn, zo]
       rfl
      refine one_ (i := 5) (N := some 17) #[true, true, true, true, true, true, false] rfl rfl (by kernel_rfl) (by decide) (fun K hK => ?_)
      refine goes_ Try.func85 (by kernel_rfl) rfl #[.int .i64 x1_1] (by rfl) rfl rfl (by (try simp only [uh, ui, uj]); first | done | rfl | (simp only [uf, ug]; rfl)) ?_
      with_reducible refine (z19.calls k1 x1_1 t416 _ A5.out).mono ?_
      rintro e w10 ⟨rfl, hb⟩
      refine ⟨_, rfl, ?_⟩
      have n0_ := z1o.mk (za y0 hb)
      clear HB
      have HB := n0_
      clear n0_
      (try clear hb)
      (try clear hb2)
      (try clear hk)
      (try clear hi)
      refine hK.out _ _ (((HB.out.cell (ua w _ hw415_0)).trans hw415_0)) (fun hHeld => ?_)
      clear hK K
      refine norm_ (a' := ?_) ?_ ?_
      rotate_left
      ·show Act.put _ (some 17) _ = _
       simp only [Act.put, ub, uc, ud, zn, zo]
       rfl
      refine pure_ (i := 6) (N := some 18) (v := ?_) (a' := ?_) #[true, true, true, true, true, true, true] rfl rfl (by kernel_rfl) (fun _ _ _ h => h) (Or.inl ⟨by rfl, ?_⟩) ?_ ?_
      rotate_left
      ·intro w'
       go_simp
       with_reducible rfl
      rotate_left
      ·simp only [Act.put, ub, uc, ud, zn, zo]
       rfl
      refine done_ (by kernel_rfl) ?_
      try go_wp2
      go_ret
      exact ⟨by first | rfl | (simp [zm, zl] <;> rfl) | (simp [*, zm, zl] <;> rfl), y0⟩
    ·rw [if_neg c4] at H
     exact absurd H (by simp)
   ·rw [if_neg c3] at H
    have c3b0 : decide (x5_1 < (l0.length : Int)) = false := decide_eq_false c3
    clear c3
    obtain rfl := Option.some.inj H
    go_wp2
    go_ret
    exact ⟨by first | rfl | (simp [zm, zl] <;> rfl) | (simp [*, zm, zl] <;> rfl), y0⟩
def z14.l0 : Nat → List (S84) → Int → Int → Option (Int)
 | 0, _, _, _ => none
 | k + 1, x0, x1, x5 => if x5 < (x0.length : Int) then (if 0 ≤ x5 then ((z19.f k x1).bind fun t418 => (if ((rd_T84 x0 x5).f0).toList = t418.toList then ((z1d.f k ((rd_T84 x0 x5).f1) (wrap64 (x1 + 1))).bind fun t420 => (if t420 < 0 then (some (-1)) else ((laws_heldIntS.f k ((rd_T84 x0 x5).f2) t420).bind fun t422 => (if t422 < 0 then (some (-1)) else (z14.l0 k x0 t422 (wrap64 (x5 + 1))))))) else (some (-1)))) else (none)) else (some x1)
def z14.f (k : Nat) (l0 : List (S84)) (a1 : Int) : Option (Int) := z14.l0 k l0 a1 0
def z14.T4 : Bool × List (List Nat × List Nat) := (true, [([], []), ([], []), ([0, 1], [0, 1]), ([2], [2]), ([3], [3]), ([], []), ([5], [5]), ([4, 6], [4, 6])])
def z14.B4 : List Nat := [0, 0, 3, 7, 15, 0, 32, 127]
theorem z14.tab4 : rtab .any (opsOf Try.f59 4) = z14.T4 := by kernel_rfl
theorem z14.bits4 : waitsOk z14.T4.2 z14.B4 = true := by kernel_rfl
set_option maxHeartbeats 8000000 in
set_option maxRecDepth 100000 in
theorem z14.calls (k : Nat) (A0 : Option Addr) (c0 : Nat) (l0 : List (S84)) (a1 : Int) (r : Int) (w : World) (hr0 : Kd.C k84 w A0 l0.length l0) (hc0 : l0.length ≤ c0) (h : z14.f k l0 a1 = some r) :
  Calls Try.prog 59 #[.slice A0 l0.length c0, .int .i64 a1] w fun e w' => e = .returned (.int .i64 r) ∧ Below w.heap.size w w' := by
 have HR0 := z1o.mk hr0
 have HC0 := z1o.mk hc0
 clear hr0 hc0
 have HB := z1o.mk (Below.refl w.heap.size w)
 have H : (z14.l0 k l0 a1 0) = some r := h
 clear h
 have H' := z1o.mk H
 clear H
 go_enter Try.func59, Try.ntmps59
 go_wp2
 go_loopg [1, 5] k (fun kq v1 v5 w' => ∃ (x1_1 : Int) (x5_1 : Int), v1 = .int .i64 x1_1 ∧ v5 = .int .i64 x5_1 ∧ z1o (z14.l0 kq l0 x1_1 x5_1 = some r) ∧ z1o (kq ≤ k) ∧ z1o (Below w.heap.size w w'))
 case atStart => exact ⟨(a1), (0), (by first | rfl | (simp; done) | (simp [*]; done)), (by first | rfl | (simp; done) | (simp [*]; done)), H', ⟨um _⟩, ⟨y0⟩⟩
 case round =>
  clear H'
  try clear p2
  obtain ⟨x1_1, x5_1, rfl, rfl, HA, HK1, HB⟩ := hrel
  cases gk with
  | zero => exact absurd HA.out (by simp [z14.l0])
  | succ k1 =>
   have H := HA.out
   clear HA
   simp only [z14.l0] at H
   by_cases c3 : x5_1 < (l0.length : Int)
   ·rw [if_pos c3] at H
    have c3b0 : decide (x5_1 < (l0.length : Int)) = true := decide_eq_true c3
    clear c3
    by_cases c4 : 0 ≤ x5_1
    ·rw [if_pos c4] at H
     have c4b0 : decide (0 ≤ x5_1) = true := decide_eq_true c4
     clear c4
     replace H := ue.mp H
     obtain ⟨t418, A50, H⟩ := H
     replace H : (if ((rd_T84 l0 x5_1).f0).toList = t418.toList then ((z1d.f k1 ((rd_T84 l0 x5_1).f1) (wrap64 (x1_1 + 1))).bind fun t420 => (if t420 < 0 then (some (-1)) else ((laws_heldIntS.f k1 ((rd_T84 l0 x5_1).f2) t420).bind fun t422 => (if t422 < 0 then (some (-1)) else (z14.l0 k1 l0 t422 (wrap64 (x5_1 + 1))))))) else (some (-1))) = some r := H
     have A5 := z1o.mk A50
     clear A50
     by_cases c6 : ((rd_T84 l0 x5_1).f0).toList = t418.toList
     ·rw [if_pos c6] at H
      have c6b0 : (((rd_T84 l0 x5_1).f0).toList == t418.toList) = true := beq_iff_eq.mpr c6
      have c6b1 : (((rd_T84 l0 x5_1).f0).toList != t418.toList) = false := bne_eq_false_iff_eq.mpr c6
      clear c6
      replace H := ue.mp H
      obtain ⟨t420, A70, H⟩ := H
      replace H : (if t420 < 0 then (some (-1)) else ((laws_heldIntS.f k1 ((rd_T84 l0 x5_1).f2) t420).bind fun t422 => (if t422 < 0 then (some (-1)) else (z14.l0 k1 l0 t422 (wrap64 (x5_1 + 1)))))) = some r := H
      have A7 := z1o.mk A70
      clear A70
      by_cases c8 : t420 < 0
      ·rw [if_pos c8] at H
       have c8b0 : decide (t420 < 0) = true := decide_eq_true c8
       clear c8
       obtain rfl := Option.some.inj H
       try go_wp2
       have n0_ := z1o.mk (z3 HB.out)
       clear HB
       have HB := n0_
       clear n0_
       have p417 : 0 ≤ (x5_1 : Int) := of_decide_eq_true (by first | (with_reducible assumption) | assumption)
       have q417 : x5_1 < (l0.length : Int) := of_decide_eq_true (by first | (with_reducible assumption) | assumption)
       obtain ⟨ad417, A417_1, c417_1, A417_2, c417_2, e417, hx417_0, hx417_1, hx417_2, hl417_1, hi417_1, hl417_2, hi417_2⟩ := at_T84 HR0.out x5_1 p417 q417
       have hw417_2 := hx417_2
       have hw417_1 := hx417_1
       have hw417_0 := hx417_0
       have HW417_1 := z1o.mk hx417_1
       have HW417_2 := z1o.mk hx417_2
       cases e417
       replace hx417_0 := (HB.out.cell (ua w _ hx417_0)).trans hx417_0
       replace hx417_1 := (HB.out.cell (ua w _ hx417_1)).trans hx417_1
       replace hx417_2 := (HB.out.cell (ua w _ hx417_2)).trans hx417_2
       have HR417_1 := z1o.mk hi417_1
       have HC417_1 := z1o.mk hl417_1
       clear hi417_1 hl417_1
       have HR417_2 := z1o.mk hi417_2
       have HC417_2 := z1o.mk hl417_2
       clear hi417_2 hl417_2
       replace p417 := eq_true p417
       replace q417 := eq_true q417
       refine start_ (n := 8) (S := fun w' => w'.cell? (ad417.add ((x5_1).toNat * 3)) = some (.string ((rd_T84 l0 x5_1).f0)) ∧ w'.cell? ⟨(ad417.add ((x5_1).toNat * 3)).block, (ad417.add ((x5_1).toNat * 3)).off + 1, none⟩ = some (.slice A417_1 ((rd_T84 l0 x5_1).f1).length c417_1) ∧ w'.cell? ⟨(ad417.add ((x5_1).toNat * 3)).block, (ad417.add ((x5_1).toNat * 3)).off + 2, none⟩ = some (.slice A417_2 ((rd_T84 l0 x5_1).f2).length c417_2)) (ds := []) #[false, false, false, false, false, false, false, false] (by kernel_rfl) rfl rfl ⟨((HB.out.cell (ua w _ hw417_0)).trans hw417_0), ((HB.out.cell (ua w _ hw417_1)).trans hw417_1), ((HB.out.cell (ua w _ hw417_2)).trans hw417_2)⟩ (fun hHeld => ?_); refine with_tabW z14.tab4 z14.bits4 (fun HT_ HW_ => ?_)
       generalize wr.drew = w9 at HB HR417_1 HR417_2 hx417_0 hx417_1 hx417_2 hHeld ⊢
       refine pure_ (i := 0) (N := some 12) (v := ?_) (a' := ?_) #[true, false, false, false, false, false, false, false] rfl rfl (any_of HT_.out (by kernel_rfl)) (fun _ _ _ h => h) (Or.inl ⟨by rfl, ?_⟩) ?_ ?_
       rotate_left
       ·intro w'
        go_simp
        with_reducible rfl
       rotate_left
       ·simp only [Act.put, ub, uc, ud, zn, zo]
        rfl
       refine pure_ (i := 1) (N := some 13) (v := ?_) (a' := ?_) #[true, true, false, false, false, false, false, false] rfl rfl (any_of HT_.out (by kernel_rfl)) (fun _ _ _ h => h) (Or.inl ⟨by rfl, ?_⟩) ?_ ?_
       rotate_left
       ·intro w'
        go_simp
        with_reducible rfl
       rotate_left
       ·simp only [Act.put, ub, uc, ud, zn, zo]
        rfl
       refine pure_ (i := 2) (N := some 14) (v := ?_) (a' := ?_) #[true, true, true, false, false, false, false, false] rfl rfl (any_of HT_.out (by kernel_rfl)) (fun _ _ _ h => h) (Or.inl ⟨by rfl, ?_⟩) ?_ ?_
       rotate_left
       ·intro w'
        go_simp
        with_reducible rfl
       rotate_left
       ·simp only [Act.put, ub, uc, ud, zn, zo]
        rfl
       refine pure_ (i := 3) (N := some 15) (v := ?_) (a' := ?_) #[true, true, true, true, false, false, false, false] rfl rfl (any_of HT_.out (by kernel_rfl)) (fun _ _ _ h => h) (Or.inl ⟨by rfl, ?_⟩) ?_ ?_
       rotate_left
       ·intro w'
        go_simp
        with_reducible rfl
       rotate_left
       ·simp only [Act.put, ub, uc, ud, zn, zo]
        rfl
       refine pure_ (i := 5) (N := some 17) (v := ?_) (a' := ?_) #[true, true, true, true, false, true, false, false] rfl rfl (any_of HT_.out (by kernel_rfl)) (fun _ _ _ h => h) (Or.inl ⟨by rfl, ?_⟩) ?_ ?_
       rotate_left
       ·intro w'
        go_simp
        with_reducible rfl
       rotate_left
       ·simp only [Act.put, ub, uc, ud, zn, zo]
        rfl
       refine take_ (i := 4) (N := some 16) (v := ?_) (a' := ?_) #[true, true, true, true, true, true, false, false] rfl rfl (take_ofW HT_.out HW_.out (by kernel_rfl)) (fun _ _ _ h => h) (Or.inl ⟨by rfl, ?_⟩) hHeld ?_ ?_
       rotate_left
       ·rintro w' ⟨s0, s1, s2⟩
        go_simp
        with_reducible rfl
       rotate_left
       ·simp only [Act.put, ub, uc, ud, zn, zo]
        rfl
       refine one_ (i := 6) (N := some 18) #[true, true, true, true, true, true, true, false] rfl rfl (one_of HT_.out (by kernel_rfl)) (by decide) (fun K hK => ?_)
       refine goes_ Try.func85 (by kernel_rfl) rfl #[.int .i64 x1_1] (by rfl) rfl rfl (by (try simp only [uh, ui, uj]); first | done | rfl | (simp only [uf, ug]; rfl)) ?_
       with_reducible refine (z19.calls k1 x1_1 t418 _ A5.out).mono ?_
       rintro e w10 ⟨rfl, hb⟩
       refine ⟨_, rfl, ?_⟩
       have n0_ := z1o.mk (za y0 hb)
       clear HB
       have HB := n0_
       clear n0_
       (try clear hb)
       (try clear hb2)
       (try clear hk)
       (try clear hi)
       refine hK.out _ _ ⟨((HB.out.cell (ua w _ hw417_0)).trans hw417_0), ((HB.out.cell (ua w _ hw417_1)).trans hw417_1), ((HB.out.cell (ua w _ hw417_2)).trans hw417_2)⟩ (fun hHeld => ?_)
       clear hK K
       refine norm_ (a' := ?_) ?_ ?_
       rotate_left
       ·show Act.put _ (some 18) _ = _
        simp only [Act.put, ub, uc, ud, zn, zo]
        rfl
       refine pure_ (i := 7) (N := some 19) (v := ?_) (a' := ?_) #[true, true, true, true, true, true, true, true] rfl rfl (any_of HT_.out (by kernel_rfl)) (fun _ _ _ h => h) (Or.inl ⟨by rfl, ?_⟩) ?_ ?_
       rotate_left
       ·intro w'
        go_simp
        with_reducible rfl
       rotate_left
       ·simp only [Act.put, ub, uc, ud, zn, zo]
        rfl
       refine done_ (done_of HT_.out (by kernel_rfl)) ?_
       have p419 : 0 ≤ (x5_1 : Int) := of_decide_eq_true (by first | (with_reducible assumption) | assumption)
       have q419 : x5_1 < (l0.length : Int) := of_decide_eq_true (by first | (with_reducible assumption) | assumption)
       obtain ⟨ad419, A419_1, c419_1, A419_2, c419_2, e419, hx419_0, hx419_1, hx419_2, hl419_1, hi419_1, hl419_2, hi419_2⟩ := at_T84 HR0.out x5_1 p419 q419
       have HW419_1 := z1o.mk hx419_1
       have HW419_2 := z1o.mk hx419_2
       obtain rfl : ad417 = ad419 := (by injection e419)
       replace hx419_0 := (HB.out.cell (ua w _ hx419_0)).trans hx419_0
       replace hx419_1 := (HB.out.cell (ua w _ hx419_1)).trans hx419_1
       replace hx419_2 := (HB.out.cell (ua w _ hx419_2)).trans hx419_2
       have HR419_1 := z1o.mk hi419_1
       have HC419_1 := z1o.mk hl419_1
       clear hi419_1 hl419_1
       have HR419_2 := z1o.mk hi419_2
       have HC419_2 := z1o.mk hl419_2
       clear hi419_2 hl419_2
       replace p419 := eq_true p419
       replace q419 := eq_true q419
       have ea_ := Option.some.inj (HW417_1.out.symm.trans HW419_1.out)
       injection ea_ with ea_ en_ ec_
       subst ea_
       subst ec_
       clear en_
       have ea_ := Option.some.inj (HW417_2.out.symm.trans HW419_2.out)
       injection ea_ with ea_ en_ ec_
       subst ea_
       subst ec_
       clear en_
       try go_wp2_with (first | ((with_reducible refine zp (f := 101) rfl ?_); refine goesL_ (some 28) rfl rfl Try.func101 (by kernel_rfl) rfl #[.slice A417_1 ((rd_T84 l0 x5_1).f1).length c417_1, .int .i64 (wrap64 (x1_1 + 1))] rfl (by (try simp only [uh, ui, uj]); first | done | rfl | (simp only [uf, ug]; rfl)) ?_; (with_reducible refine (z1d.calls k1 _ _ ((rd_T84 l0 x5_1).f1) (wrap64 (x1_1 + 1)) t420 _ ?side1 ?side2 A7.out).mono ?_); (case side1 => exact y28); (case side2 => exact HC419_1.out); rintro e w11 ⟨rfl, hb⟩; refine ⟨_, rfl, ?_⟩; have n0_ := z1o.mk (za y0 hb); clear HB; have HB := n0_; clear n0_; (try clear hb); (try clear hb2); (try clear hk); (try clear hi)))
       go_ret
       exact ⟨by first | rfl | (simp [zm, zl] <;> rfl) | (simp [*, zm, zl] <;> rfl), y0⟩
      ·rw [if_neg c8] at H
       have c8b0 : decide (t420 < 0) = false := decide_eq_false c8
       clear c8
       replace H := ue.mp H
       obtain ⟨t422, A120, H⟩ := H
       replace H : (if t422 < 0 then (some (-1)) else (z14.l0 k1 l0 t422 (wrap64 (x5_1 + 1)))) = some r := H
       have A12 := z1o.mk A120
       clear A120
       by_cases c13 : t422 < 0
       ·rw [if_pos c13] at H
        have c13b0 : decide (t422 < 0) = true := decide_eq_true c13
        clear c13
        obtain rfl := Option.some.inj H
        try go_wp2
        have n0_ := z1o.mk (z3 HB.out)
        clear HB
        have HB := n0_
        clear n0_
        have p417 : 0 ≤ (x5_1 : Int) := of_decide_eq_true (by first | (with_reducible assumption) | assumption)
        have q417 : x5_1 < (l0.length : Int) := of_decide_eq_true (by first | (with_reducible assumption) | assumption)
        obtain ⟨ad417, A417_1, c417_1, A417_2, c417_2, e417, hx417_0, hx417_1, hx417_2, hl417_1, hi417_1, hl417_2, hi417_2⟩ := at_T84 HR0.out x5_1 p417 q417
        have hw417_2 := hx417_2
        have hw417_1 := hx417_1
        have hw417_0 := hx417_0
        have HW417_1 := z1o.mk hx417_1
        have HW417_2 := z1o.mk hx417_2
        cases e417
        replace hx417_0 := (HB.out.cell (ua w _ hx417_0)).trans hx417_0
        replace hx417_1 := (HB.out.cell (ua w _ hx417_1)).trans hx417_1
        replace hx417_2 := (HB.out.cell (ua w _ hx417_2)).trans hx417_2
        have HR417_1 := z1o.mk hi417_1
        have HC417_1 := z1o.mk hl417_1
        clear hi417_1 hl417_1
        have HR417_2 := z1o.mk hi417_2
        have HC417_2 := z1o.mk hl417_2
        clear hi417_2 hl417_2
        replace p417 := eq_true p417
        replace q417 := eq_true q417
        refine start_ (n := 8) (S := fun w' => w'.cell? (ad417.add ((x5_1).toNat * 3)) = some (.string ((rd_T84 l0 x5_1).f0)) ∧ w'.cell? ⟨(ad417.add ((x5_1).toNat * 3)).block, (ad417.add ((x5_1).toNat * 3)).off + 1, none⟩ = some (.slice A417_1 ((rd_T84 l0 x5_1).f1).length c417_1) ∧ w'.cell? ⟨(ad417.add ((x5_1).toNat * 3)).block, (ad417.add ((x5_1).toNat * 3)).off + 2, none⟩ = some (.slice A417_2 ((rd_T84 l0 x5_1).f2).length c417_2)) (ds := []) #[false, false, false, false, false, false, false, false] (by kernel_rfl) rfl rfl ⟨((HB.out.cell (ua w _ hw417_0)).trans hw417_0), ((HB.out.cell (ua w _ hw417_1)).trans hw417_1), ((HB.out.cell (ua w _ hw417_2)).trans hw417_2)⟩ (fun hHeld => ?_); refine with_tabW z14.tab4 z14.bits4 (fun HT_ HW_ => ?_)
        generalize wr.drew = w14 at HB HR417_1 HR417_2 hx417_0 hx417_1 hx417_2 hHeld ⊢
        refine pure_ (i := 0) (N := some 12) (v := ?_) (a' := ?_) #[true, false, false, false, false, false, false, false] rfl rfl (any_of HT_.out (by kernel_rfl)) (fun _ _ _ h => h) (Or.inl ⟨by rfl, ?_⟩) ?_ ?_
        rotate_left
        ·intro w'
         go_simp
         with_reducible rfl
        rotate_left
        ·simp only [Act.put, ub, uc, ud, zn, zo]
         rfl
        refine pure_ (i := 1) (N := some 13) (v := ?_) (a' := ?_) #[true, true, false, false, false, false, false, false] rfl rfl (any_of HT_.out (by kernel_rfl)) (fun _ _ _ h => h) (Or.inl ⟨by rfl, ?_⟩) ?_ ?_
        rotate_left
        ·intro w'
         go_simp
         with_reducible rfl
        rotate_left
        ·simp only [Act.put, ub, uc, ud, zn, zo]
         rfl
        refine pure_ (i := 2) (N := some 14) (v := ?_) (a' := ?_) #[true, true, true, false, false, false, false, false] rfl rfl (any_of HT_.out (by kernel_rfl)) (fun _ _ _ h => h) (Or.inl ⟨by rfl, ?_⟩) ?_ ?_
        rotate_left
        ·intro w'
         go_simp
         with_reducible rfl
        rotate_left
        ·simp only [Act.put, ub, uc, ud, zn, zo]
         rfl
        refine pure_ (i := 3) (N := some 15) (v := ?_) (a' := ?_) #[true, true, true, true, false, false, false, false] rfl rfl (any_of HT_.out (by kernel_rfl)) (fun _ _ _ h => h) (Or.inl ⟨by rfl, ?_⟩) ?_ ?_
        rotate_left
        ·intro w'
         go_simp
         with_reducible rfl
        rotate_left
        ·simp only [Act.put, ub, uc, ud, zn, zo]
         rfl
        refine pure_ (i := 5) (N := some 17) (v := ?_) (a' := ?_) #[true, true, true, true, false, true, false, false] rfl rfl (any_of HT_.out (by kernel_rfl)) (fun _ _ _ h => h) (Or.inl ⟨by rfl, ?_⟩) ?_ ?_
        rotate_left
        ·intro w'
         go_simp
         with_reducible rfl
        rotate_left
        ·simp only [Act.put, ub, uc, ud, zn, zo]
         rfl
        refine take_ (i := 4) (N := some 16) (v := ?_) (a' := ?_) #[true, true, true, true, true, true, false, false] rfl rfl (take_ofW HT_.out HW_.out (by kernel_rfl)) (fun _ _ _ h => h) (Or.inl ⟨by rfl, ?_⟩) hHeld ?_ ?_
        rotate_left
        ·rintro w' ⟨s0, s1, s2⟩
         go_simp
         with_reducible rfl
        rotate_left
        ·simp only [Act.put, ub, uc, ud, zn, zo]
         rfl
        refine one_ (i := 6) (N := some 18) #[true, true, true, true, true, true, true, false] rfl rfl (one_of HT_.out (by kernel_rfl)) (by decide) (fun K hK => ?_)
        refine goes_ Try.func85 (by kernel_rfl) rfl #[.int .i64 x1_1] (by rfl) rfl rfl (by (try simp only [uh, ui, uj]); first | done | rfl | (simp only [uf, ug]; rfl)) ?_
        with_reducible refine (z19.calls k1 x1_1 t418 _ A5.out).mono ?_
        rintro e w15 ⟨rfl, hb⟩
        refine ⟨_, rfl, ?_⟩
        have n0_ := z1o.mk (za y0 hb)
        clear HB
        have HB := n0_
        clear n0_
        (try clear hb)
        (try clear hb2)
        (try clear hk)
        (try clear hi)
        refine hK.out _ _ ⟨((HB.out.cell (ua w _ hw417_0)).trans hw417_0), ((HB.out.cell (ua w _ hw417_1)).trans hw417_1), ((HB.out.cell (ua w _ hw417_2)).trans hw417_2)⟩ (fun hHeld => ?_)
        clear hK K
        refine norm_ (a' := ?_) ?_ ?_
        rotate_left
        ·show Act.put _ (some 18) _ = _
         simp only [Act.put, ub, uc, ud, zn, zo]
         rfl
        refine pure_ (i := 7) (N := some 19) (v := ?_) (a' := ?_) #[true, true, true, true, true, true, true, true] rfl rfl (any_of HT_.out (by kernel_rfl)) (fun _ _ _ h => h) (Or.inl ⟨by rfl, ?_⟩) ?_ ?_
        rotate_left
        ·intro w'
         go_simp
         with_reducible rfl
        rotate_left
        ·simp only [Act.put, ub, uc, ud, zn, zo]
         rfl
        refine done_ (done_of HT_.out (by kernel_rfl)) ?_
        have p419 : 0 ≤ (x5_1 : Int) := of_decide_eq_true (by first | (with_reducible assumption) | assumption)
        have q419 : x5_1 < (l0.length : Int) := of_decide_eq_true (by first | (with_reducible assumption) | assumption)
        obtain ⟨ad419, A419_1, c419_1, A419_2, c419_2, e419, hx419_0, hx419_1, hx419_2, hl419_1, hi419_1, hl419_2, hi419_2⟩ := at_T84 HR0.out x5_1 p419 q419
        have HW419_1 := z1o.mk hx419_1
        have HW419_2 := z1o.mk hx419_2
        obtain rfl : ad417 = ad419 := (by injection e419)
        replace hx419_0 := (HB.out.cell (ua w _ hx419_0)).trans hx419_0
        replace hx419_1 := (HB.out.cell (ua w _ hx419_1)).trans hx419_1
        replace hx419_2 := (HB.out.cell (ua w _ hx419_2)).trans hx419_2
        have HR419_1 := z1o.mk hi419_1
        have HC419_1 := z1o.mk hl419_1
        clear hi419_1 hl419_1
        have HR419_2 := z1o.mk hi419_2
        have HC419_2 := z1o.mk hl419_2
        clear hi419_2 hl419_2
        replace p419 := eq_true p419
        replace q419 := eq_true q419
        have ea_ := Option.some.inj (HW417_1.out.symm.trans HW419_1.out)
        injection ea_ with ea_ en_ ec_
        subst ea_
        subst ec_
        clear en_
        have ea_ := Option.some.inj (HW417_2.out.symm.trans HW419_2.out)
        injection ea_ with ea_ en_ ec_
        subst ea_
        subst ec_
        clear en_
        try go_wp2_with (first | ((with_reducible refine zp (f := 101) rfl ?_); refine goesL_ (some 28) rfl rfl Try.func101 (by kernel_rfl) rfl #[.slice A417_1 ((rd_T84 l0 x5_1).f1).length c417_1, .int .i64 (wrap64 (x1_1 + 1))] rfl (by (try simp only [uh, ui, uj]); first | done | rfl | (simp only [uf, ug]; rfl)) ?_; (with_reducible refine (z1d.calls k1 _ _ ((rd_T84 l0 x5_1).f1) (wrap64 (x1_1 + 1)) t420 _ ?side1 ?side2 A7.out).mono ?_); (case side1 => exact y28); (case side2 => exact HC419_1.out); rintro e w16 ⟨rfl, hb⟩; refine ⟨_, rfl, ?_⟩; have n0_ := z1o.mk (za y0 hb); clear HB; have HB := n0_; clear n0_; (try clear hb); (try clear hb2); (try clear hk); (try clear hi); have p421 : 0 ≤ (x5_1 : Int) := of_decide_eq_true (by first | (with_reducible assumption) | assumption); have q421 : x5_1 < (l0.length : Int) := of_decide_eq_true (by first | (with_reducible assumption) | assumption); obtain ⟨ad421, A421_1, c421_1, A421_2, c421_2, e421, hx421_0, hx421_1, hx421_2, hl421_1, hi421_1, hl421_2, hi421_2⟩ := at_T84 HR0.out x5_1 p421 q421; have HW421_1 := z1o.mk hx421_1; have HW421_2 := z1o.mk hx421_2; obtain rfl : ad417 = ad421 := (by injection e421); replace hx421_0 := (HB.out.cell (ua w _ hx421_0)).trans hx421_0; replace hx421_1 := (HB.out.cell (ua w _ hx421_1)).trans hx421_1; replace hx421_2 := (HB.out.cell (ua w _ hx421_2)).trans hx421_2; have HR421_1 := z1o.mk hi421_1; have HC421_1 := z1o.mk hl421_1; clear hi421_1 hl421_1; have HR421_2 := z1o.mk hi421_2; have HC421_2 := z1o.mk hl421_2; clear hi421_2 hl421_2; replace p421 := eq_true p421; replace q421 := eq_true q421; have ea_ := Option.some.inj (HW417_1.out.symm.trans HW421_1.out); injection ea_ with ea_ en_ ec_; subst ea_; subst ec_; clear en_; have ea_ := Option.some.inj (HW417_2.out.symm.trans HW421_2.out); injection ea_ with ea_ en_ ec_; subst ea_; subst ec_; clear en_) | ((with_reducible refine zp (f := 87) rfl ?_); refine goesL_ (some 37) rfl rfl Try.func87 (by kernel_rfl) rfl #[.slice A417_2 ((rd_T84 l0 x5_1).f2).length c417_2, .int .i64 t420] rfl (by (try simp only [uh, ui, uj]); first | done | rfl | (simp only [uf, ug]; rfl)) ?_; (with_reducible refine (laws_heldIntS.calls k1 _ _ ((rd_T84 l0 x5_1).f2) t420 t422 _ ?side1 ?side2 A12.out).mono ?_); (case side1 => exact y2q); (case side2 => exact HC421_2.out); rintro e w' ⟨rfl, ⟨nd, rfl⟩⟩; refine ⟨_, rfl, ?_⟩))
        go_ret
        exact ⟨by first | rfl | (simp [zm, zl] <;> rfl) | (simp [*, zm, zl] <;> rfl), y0⟩
       ·rw [if_neg c13] at H
        have c13b0 : decide (t422 < 0) = false := decide_eq_false c13
        clear c13
        have H' := z1o.mk H
        clear H
        try go_wp2
        have n0_ := z1o.mk (z3 HB.out)
        clear HB
        have HB := n0_
        clear n0_
        have p417 : 0 ≤ (x5_1 : Int) := of_decide_eq_true (by first | (with_reducible assumption) | assumption)
        have q417 : x5_1 < (l0.length : Int) := of_decide_eq_true (by first | (with_reducible assumption) | assumption)
        obtain ⟨ad417, A417_1, c417_1, A417_2, c417_2, e417, hx417_0, hx417_1, hx417_2, hl417_1, hi417_1, hl417_2, hi417_2⟩ := at_T84 HR0.out x5_1 p417 q417
        have hw417_2 := hx417_2
        have hw417_1 := hx417_1
        have hw417_0 := hx417_0
        have HW417_1 := z1o.mk hx417_1
        have HW417_2 := z1o.mk hx417_2
        cases e417
        replace hx417_0 := (HB.out.cell (ua w _ hx417_0)).trans hx417_0
        replace hx417_1 := (HB.out.cell (ua w _ hx417_1)).trans hx417_1
        replace hx417_2 := (HB.out.cell (ua w _ hx417_2)).trans hx417_2
        have HR417_1 := z1o.mk hi417_1
        have HC417_1 := z1o.mk hl417_1
        clear hi417_1 hl417_1
        have HR417_2 := z1o.mk hi417_2
        have HC417_2 := z1o.mk hl417_2
        clear hi417_2 hl417_2
        replace p417 := eq_true p417
        replace q417 := eq_true q417
        refine start_ (n := 8) (S := fun w' => w'.cell? (ad417.add ((x5_1).toNat * 3)) = some (.string ((rd_T84 l0 x5_1).f0)) ∧ w'.cell? ⟨(ad417.add ((x5_1).toNat * 3)).block, (ad417.add ((x5_1).toNat * 3)).off + 1, none⟩ = some (.slice A417_1 ((rd_T84 l0 x5_1).f1).length c417_1) ∧ w'.cell? ⟨(ad417.add ((x5_1).toNat * 3)).block, (ad417.add ((x5_1).toNat * 3)).off + 2, none⟩ = some (.slice A417_2 ((rd_T84 l0 x5_1).f2).length c417_2)) (ds := []) #[false, false, false, false, false, false, false, false] (by kernel_rfl) rfl rfl ⟨((HB.out.cell (ua w _ hw417_0)).trans hw417_0), ((HB.out.cell (ua w _ hw417_1)).trans hw417_1), ((HB.out.cell (ua w _ hw417_2)).trans hw417_2)⟩ (fun hHeld => ?_); refine with_tabW z14.tab4 z14.bits4 (fun HT_ HW_ => ?_)
        generalize wr.drew = w17 at HB HR417_1 HR417_2 hx417_0 hx417_1 hx417_2 hHeld ⊢
        refine pure_ (i := 0) (N := some 12) (v := ?_) (a' := ?_) #[true, false, false, false, false, false, false, false] rfl rfl (any_of HT_.out (by kernel_rfl)) (fun _ _ _ h => h) (Or.inl ⟨by rfl, ?_⟩) ?_ ?_
        rotate_left
        ·intro w'
         go_simp
         with_reducible rfl
        rotate_left
        ·simp only [Act.put, ub, uc, ud, zn, zo]
         rfl
        refine pure_ (i := 1) (N := some 13) (v := ?_) (a' := ?_) #[true, true, false, false, false, false, false, false] rfl rfl (any_of HT_.out (by kernel_rfl)) (fun _ _ _ h => h) (Or.inl ⟨by rfl, ?_⟩) ?_ ?_
        rotate_left
        ·intro w'
         go_simp
         with_reducible rfl
        rotate_left
        ·simp only [Act.put, ub, uc, ud, zn, zo]
         rfl
        refine pure_ (i := 2) (N := some 14) (v := ?_) (a' := ?_) #[true, true, true, false, false, false, false, false] rfl rfl (any_of HT_.out (by kernel_rfl)) (fun _ _ _ h => h) (Or.inl ⟨by rfl, ?_⟩) ?_ ?_
        rotate_left
        ·intro w'
         go_simp
         with_reducible rfl
        rotate_left
        ·simp only [Act.put, ub, uc, ud, zn, zo]
         rfl
        refine pure_ (i := 3) (N := some 15) (v := ?_) (a' := ?_) #[true, true, true, true, false, false, false, false] rfl rfl (any_of HT_.out (by kernel_rfl)) (fun _ _ _ h => h) (Or.inl ⟨by rfl, ?_⟩) ?_ ?_
        rotate_left
        ·intro w'
         go_simp
         with_reducible rfl
        rotate_left
        ·simp only [Act.put, ub, uc, ud, zn, zo]
         rfl
        refine pure_ (i := 5) (N := some 17) (v := ?_) (a' := ?_) #[true, true, true, true, false, true, false, false] rfl rfl (any_of HT_.out (by kernel_rfl)) (fun _ _ _ h => h) (Or.inl ⟨by rfl, ?_⟩) ?_ ?_
        rotate_left
        ·intro w'
         go_simp
         with_reducible rfl
        rotate_left
        ·simp only [Act.put, ub, uc, ud, zn, zo]
         rfl
        refine take_ (i := 4) (N := some 16) (v := ?_) (a' := ?_) #[true, true, true, true, true, true, false, false] rfl rfl (take_ofW HT_.out HW_.out (by kernel_rfl)) (fun _ _ _ h => h) (Or.inl ⟨by rfl, ?_⟩) hHeld ?_ ?_
        rotate_left
        ·rintro w' ⟨s0, s1, s2⟩
         go_simp
         with_reducible rfl
        rotate_left
        ·simp only [Act.put, ub, uc, ud, zn, zo]
         rfl
        refine one_ (i := 6) (N := some 18) #[true, true, true, true, true, true, true, false] rfl rfl (one_of HT_.out (by kernel_rfl)) (by decide) (fun K hK => ?_)
        refine goes_ Try.func85 (by kernel_rfl) rfl #[.int .i64 x1_1] (by rfl) rfl rfl (by (try simp only [uh, ui, uj]); first | done | rfl | (simp only [uf, ug]; rfl)) ?_
        with_reducible refine (z19.calls k1 x1_1 t418 _ A5.out).mono ?_
        rintro e w18 ⟨rfl, hb⟩
        refine ⟨_, rfl, ?_⟩
        have n0_ := z1o.mk (za y0 hb)
        clear HB
        have HB := n0_
        clear n0_
        (try clear hb)
        (try clear hb2)
        (try clear hk)
        (try clear hi)
        refine hK.out _ _ ⟨((HB.out.cell (ua w _ hw417_0)).trans hw417_0), ((HB.out.cell (ua w _ hw417_1)).trans hw417_1), ((HB.out.cell (ua w _ hw417_2)).trans hw417_2)⟩ (fun hHeld => ?_)
        clear hK K
        refine norm_ (a' := ?_) ?_ ?_
        rotate_left
        ·show Act.put _ (some 18) _ = _
         simp only [Act.put, ub, uc, ud, zn, zo]
         rfl
        refine pure_ (i := 7) (N := some 19) (v := ?_) (a' := ?_) #[true, true, true, true, true, true, true, true] rfl rfl (any_of HT_.out (by kernel_rfl)) (fun _ _ _ h => h) (Or.inl ⟨by rfl, ?_⟩) ?_ ?_
        rotate_left
        ·intro w'
         go_simp
         with_reducible rfl
        rotate_left
        ·simp only [Act.put, ub, uc, ud, zn, zo]
         rfl
        refine done_ (done_of HT_.out (by kernel_rfl)) ?_
        have p419 : 0 ≤ (x5_1 : Int) := of_decide_eq_true (by first | (with_reducible assumption) | assumption)
        have q419 : x5_1 < (l0.length : Int) := of_decide_eq_true (by first | (with_reducible assumption) | assumption)
        obtain ⟨ad419, A419_1, c419_1, A419_2, c419_2, e419, hx419_0, hx419_1, hx419_2, hl419_1, hi419_1, hl419_2, hi419_2⟩ := at_T84 HR0.out x5_1 p419 q419
        have HW419_1 := z1o.mk hx419_1
        have HW419_2 := z1o.mk hx419_2
        obtain rfl : ad417 = ad419 := (by injection e419)
        replace hx419_0 := (HB.out.cell (ua w _ hx419_0)).trans hx419_0
        replace hx419_1 := (HB.out.cell (ua w _ hx419_1)).trans hx419_1
        replace hx419_2 := (HB.out.cell (ua w _ hx419_2)).trans hx419_2
        have HR419_1 := z1o.mk hi419_1
        have HC419_1 := z1o.mk hl419_1
        clear hi419_1 hl419_1
        have HR419_2 := z1o.mk hi419_2
        have HC419_2 := z1o.mk hl419_2
        clear hi419_2 hl419_2
        replace p419 := eq_true p419
        replace q419 := eq_true q419
        have ea_ := Option.some.inj (HW417_1.out.symm.trans HW419_1.out)
        injection ea_ with ea_ en_ ec_
        subst ea_
        subst ec_
        clear en_
        have ea_ := Option.some.inj (HW417_2.out.symm.trans HW419_2.out)
        injection ea_ with ea_ en_ ec_
        subst ea_
        subst ec_
        clear en_
        try go_wp2_with (first | ((with_reducible refine zp (f := 101) rfl ?_); refine goesL_ (some 28) rfl rfl Try.func101 (by kernel_rfl) rfl #[.slice A417_1 ((rd_T84 l0 x5_1).f1).length c417_1, .int .i64 (wrap64 (x1_1 + 1))] rfl (by (try simp only [uh, ui, uj]); first | done | rfl | (simp only [uf, ug]; rfl)) ?_; (with_reducible refine (z1d.calls k1 _ _ ((rd_T84 l0 x5_1).f1) (wrap64 (x1_1 + 1)) t420 _ ?side1 ?side2 A7.out).mono ?_); (case side1 => exact y28); (case side2 => exact HC419_1.out); rintro e w19 ⟨rfl, hb⟩; refine ⟨_, rfl, ?_⟩; have n0_ := z1o.mk (za y0 hb); clear HB; have HB := n0_; clear n0_; (try clear hb); (try clear hb2); (try clear hk); (try clear hi); have p421 : 0 ≤ (x5_1 : Int) := of_decide_eq_true (by first | (with_reducible assumption) | assumption); have q421 : x5_1 < (l0.length : Int) := of_decide_eq_true (by first | (with_reducible assumption) | assumption); obtain ⟨ad421, A421_1, c421_1, A421_2, c421_2, e421, hx421_0, hx421_1, hx421_2, hl421_1, hi421_1, hl421_2, hi421_2⟩ := at_T84 HR0.out x5_1 p421 q421; have HW421_1 := z1o.mk hx421_1; have HW421_2 := z1o.mk hx421_2; obtain rfl : ad417 = ad421 := (by injection e421); replace hx421_0 := (HB.out.cell (ua w _ hx421_0)).trans hx421_0; replace hx421_1 := (HB.out.cell (ua w _ hx421_1)).trans hx421_1; replace hx421_2 := (HB.out.cell (ua w _ hx421_2)).trans hx421_2; have HR421_1 := z1o.mk hi421_1; have HC421_1 := z1o.mk hl421_1; clear hi421_1 hl421_1; have HR421_2 := z1o.mk hi421_2; have HC421_2 := z1o.mk hl421_2; clear hi421_2 hl421_2; replace p421 := eq_true p421; replace q421 := eq_true q421; have ea_ := Option.some.inj (HW417_1.out.symm.trans HW421_1.out); injection ea_ with ea_ en_ ec_; subst ea_; subst ec_; clear en_; have ea_ := Option.some.inj (HW417_2.out.symm.trans HW421_2.out); injection ea_ with ea_ en_ ec_; subst ea_; subst ec_; clear en_) | ((with_reducible refine zp (f := 87) rfl ?_); refine goesL_ (some 37) rfl rfl Try.func87 (by kernel_rfl) rfl #[.slice A417_2 ((rd_T84 l0 x5_1).f2).length c417_2, .int .i64 t420] rfl (by (try simp only [uh, ui, uj]); first | done | rfl | (simp only [uf, ug]; rfl)) ?_; (with_reducible refine (laws_heldIntS.calls k1 _ _ ((rd_T84 l0 x5_1).f2) t420 t422 _ ?side1 ?side2 A12.out).mono ?_); (case side1 => exact y2q); (case side2 => exact HC421_2.out); rintro e w' ⟨rfl, ⟨nd, rfl⟩⟩; refine ⟨_, rfl, ?_⟩))
        go_roundg k1
        case measure => have := HK1.out; omega
        case rel => exact ⟨(t422), (wrap64 (x5_1 + 1)), (by first | rfl | (simp; done) | (simp [*]; done)), (by first | rfl | (simp; done) | (simp [*]; done)), H', ⟨by have := HK1.out; omega⟩, ⟨y0⟩⟩
     ·rw [if_neg c6] at H
      have c6b0 : (((rd_T84 l0 x5_1).f0).toList == t418.toList) = false := beq_eq_false_iff_ne.mpr c6
      have c6b1 : (((rd_T84 l0 x5_1).f0).toList != t418.toList) = true := bne_iff_ne.mpr c6
      obtain rfl := Option.some.inj H
      try go_wp2
      have n0_ := z1o.mk (z3 HB.out)
      clear HB
      have HB := n0_
      clear n0_
      have p417 : 0 ≤ (x5_1 : Int) := of_decide_eq_true (by first | (with_reducible assumption) | assumption)
      have q417 : x5_1 < (l0.length : Int) := of_decide_eq_true (by first | (with_reducible assumption) | assumption)
      obtain ⟨ad417, A417_1, c417_1, A417_2, c417_2, e417, hx417_0, hx417_1, hx417_2, hl417_1, hi417_1, hl417_2, hi417_2⟩ := at_T84 HR0.out x5_1 p417 q417
      have hw417_2 := hx417_2
      have hw417_1 := hx417_1
      have hw417_0 := hx417_0
      have HW417_1 := z1o.mk hx417_1
      have HW417_2 := z1o.mk hx417_2
      cases e417
      replace hx417_0 := (HB.out.cell (ua w _ hx417_0)).trans hx417_0
      replace hx417_1 := (HB.out.cell (ua w _ hx417_1)).trans hx417_1
      replace hx417_2 := (HB.out.cell (ua w _ hx417_2)).trans hx417_2
      have HR417_1 := z1o.mk hi417_1
      have HC417_1 := z1o.mk hl417_1
      clear hi417_1 hl417_1
      have HR417_2 := z1o.mk hi417_2
      have HC417_2 := z1o.mk hl417_2
      clear hi417_2 hl417_2
      replace p417 := eq_true p417
      replace q417 := eq_true q417
      refine start_ (n := 8) (S := fun w' => w'.cell? (ad417.add ((x5_1).toNat * 3)) = some (.string ((rd_T84 l0 x5_1).f0)) ∧ w'.cell? ⟨(ad417.add ((x5_1).toNat * 3)).block, (ad417.add ((x5_1).toNat * 3)).off + 1, none⟩ = some (.slice A417_1 ((rd_T84 l0 x5_1).f1).length c417_1) ∧ w'.cell? ⟨(ad417.add ((x5_1).toNat * 3)).block, (ad417.add ((x5_1).toNat * 3)).off + 2, none⟩ = some (.slice A417_2 ((rd_T84 l0 x5_1).f2).length c417_2)) (ds := []) #[false, false, false, false, false, false, false, false] (by kernel_rfl) rfl rfl ⟨((HB.out.cell (ua w _ hw417_0)).trans hw417_0), ((HB.out.cell (ua w _ hw417_1)).trans hw417_1), ((HB.out.cell (ua w _ hw417_2)).trans hw417_2)⟩ (fun hHeld => ?_); refine with_tabW z14.tab4 z14.bits4 (fun HT_ HW_ => ?_)
      generalize wr.drew = w20 at HB HR417_1 HR417_2 hx417_0 hx417_1 hx417_2 hHeld ⊢
      refine pure_ (i := 0) (N := some 12) (v := ?_) (a' := ?_) #[true, false, false, false, false, false, false, false] rfl rfl (any_of HT_.out (by kernel_rfl)) (fun _ _ _ h => h) (Or.inl ⟨by rfl, ?_⟩) ?_ ?_
      rotate_left
      ·intro w'
       go_simp
       with_reducible rfl
      rotate_left
      ·simp only [Act.put, ub, uc, ud, zn, zo]
       rfl
      refine pure_ (i := 1) (N := some 13) (v := ?_) (a' := ?_) #[true, true, false, false, false, false, false, false] rfl rfl (any_of HT_.out (by kernel_rfl)) (fun _ _ _ h => h) (Or.inl ⟨by rfl, ?_⟩) ?_ ?_
      rotate_left
      ·intro w'
       go_simp
       with_reducible rfl
      rotate_left
      ·simp only [Act.put, ub, uc, ud, zn, zo]
       rfl
      refine pure_ (i := 2) (N := some 14) (v := ?_) (a' := ?_) #[true, true, true, false, false, false, false, false] rfl rfl (any_of HT_.out (by kernel_rfl)) (fun _ _ _ h => h) (Or.inl ⟨by rfl, ?_⟩) ?_ ?_
      rotate_left
      ·intro w'
       go_simp
       with_reducible rfl
      rotate_left
      ·simp only [Act.put, ub, uc, ud, zn, zo]
       rfl
      refine pure_ (i := 3) (N := some 15) (v := ?_) (a' := ?_) #[true, true, true, true, false, false, false, false] rfl rfl (any_of HT_.out (by kernel_rfl)) (fun _ _ _ h => h) (Or.inl ⟨by rfl, ?_⟩) ?_ ?_
      rotate_left
      ·intro w'
       go_simp
       with_reducible rfl
      rotate_left
      ·simp only [Act.put, ub, uc, ud, zn, zo]
       rfl
      refine pure_ (i := 5) (N := some 17) (v := ?_) (a' := ?_) #[true, true, true, true, false, true, false, false] rfl rfl (any_of HT_.out (by kernel_rfl)) (fun _ _ _ h => h) (Or.inl ⟨by rfl, ?_⟩) ?_ ?_
      rotate_left
      ·intro w'
       go_simp
       with_reducible rfl
      rotate_left
      ·simp only [Act.put, ub, uc, ud, zn, zo]
       rfl
      refine take_ (i := 4) (N := some 16) (v := ?_) (a' := ?_) #[true, true, true, true, true, true, false, false] rfl rfl (take_ofW HT_.out HW_.out (by kernel_rfl)) (fun _ _ _ h => h) (Or.inl ⟨by rfl, ?_⟩) hHeld ?_ ?_
      rotate_left
      ·rintro w' ⟨s0, s1, s2⟩
       go_simp
       with_reducible rfl
      rotate_left
      ·simp only [Act.put, ub, uc, ud, zn, zo]
       rfl
      refine one_ (i := 6) (N := some 18) #[true, true, true, true, true, true, true, false] rfl rfl (one_of HT_.out (by kernel_rfl)) (by decide) (fun K hK => ?_)
      refine goes_ Try.func85 (by kernel_rfl) rfl #[.int .i64 x1_1] (by rfl) rfl rfl (by (try simp only [uh, ui, uj]); first | done | rfl | (simp only [uf, ug]; rfl)) ?_
      with_reducible refine (z19.calls k1 x1_1 t418 _ A5.out).mono ?_
      rintro e w21 ⟨rfl, hb⟩
      refine ⟨_, rfl, ?_⟩
      have n0_ := z1o.mk (za y0 hb)
      clear HB
      have HB := n0_
      clear n0_
      (try clear hb)
      (try clear hb2)
      (try clear hk)
      (try clear hi)
      refine hK.out _ _ ⟨((HB.out.cell (ua w _ hw417_0)).trans hw417_0), ((HB.out.cell (ua w _ hw417_1)).trans hw417_1), ((HB.out.cell (ua w _ hw417_2)).trans hw417_2)⟩ (fun hHeld => ?_)
      clear hK K
      refine norm_ (a' := ?_) ?_ ?_
      rotate_left
      ·show Act.put _ (some 18) _ = _
       simp only [Act.put, ub, uc, ud, zn, zo]
       rfl
      refine pure_ (i := 7) (N := some 19) (v := ?_) (a' := ?_) #[true, true, true, true, true, true, true, true] rfl rfl (any_of HT_.out (by kernel_rfl)) (fun _ _ _ h => h) (Or.inl ⟨by rfl, ?_⟩) ?_ ?_
      rotate_left
      ·intro w'
       go_simp
       with_reducible rfl
      rotate_left
      ·simp only [Act.put, ub, uc, ud, zn, zo]
       rfl
      refine done_ (done_of HT_.out (by kernel_rfl)) ?_
      try go_wp2
      go_ret
      exact ⟨by first | rfl | (simp [zm, zl] <;> rfl) | (simp [*, zm, zl] <;> rfl), y0⟩
    ·rw [if_neg c4] at H
     exact absurd H (by simp)
   ·rw [if_neg c3] at H
    have c3b0 : decide (x5_1 < (l0.length : Int)) = false := decide_eq_false c3
    clear c3
    obtain rfl := Option.some.inj H
    go_wp2
    go_ret
    exact ⟨by first | rfl | (simp [zm, zl] <;> rfl) | (simp [*, zm, zl] <;> rfl), y0⟩
def z1m.l0 : Nat → List Int → Int → Int → Option (Int × List Int)
 | 0, _, _, _ => none
 | k + 1, x0, x1, x5 => if x5 < (x0.length : Int) then (if 0 ≤ x5 then (z1m.l0 k (x0.set (x5 : Int).toNat x1) (wrap64 (x1 + 1)) (wrap64 (x5 + 1))) else (none)) else (some (x1, x0))
def z1m.f (k : Nat) (l0 : List Int) (a1 : Int) : Option (Int × List Int) := z1m.l0 k l0 a1 0
set_option maxHeartbeats 8000000 in
set_option maxRecDepth 100000 in
theorem z1m.calls (k : Nat) (P0_ : Nat → Prop) (u9000_ : Value) (l0 : List Int) (a1 : Int) (r1 : Int) (r2 : List Int) (w0 w : World) (hB : Below w0.heap.size w0 w) (ho0 : Kd.R (Kd.int .i64) 3 w w0.heap.size P0_ u9000_ l0) (h : z1m.f k l0 a1 = some (r1, r2)) :
  Calls Try.prog 86 #[u9000_, .int .i64 a1] w fun e w' => e = .returned (.int .i64 r1) ∧ Kd.R (Kd.int .i64) 3 w' w0.heap.size (fun k_ => (P0_ k_ ∨ w.heap.size ≤ k_)) u9000_ r2 ∧ Below w0.heap.size w0 w' ∧ Kept w w' (fun k_ => P0_ k_) := by
 have HO0 := z1o.mk (show Kd.R (Kd.int .i64) 3 w w0.heap.size (fun k_ => (P0_ k_ ∨ w.heap.size ≤ k_)) u9000_ l0 from Kd.R_mono ho0 (fun k_ hk => (.inl hk)))
 have HK := z1o.mk (Kept.refl w (fun k_ => P0_ k_))
 have HW0 := z1o.mk hB.size
 have HB := z1o.mk hB
 clear hB
 have H : (z1m.l0 k l0 a1 0) = some (r1, r2) := h
 clear h
 have H' := z1o.mk H
 clear H
 go_enter Try.func86, Try.ntmps86
 go_wp2
 go_loopg [1, 5] k (fun kq v1 v5 w' => ∃ (x0_1 : List Int) (x1_1 : Int) (x5_1 : Int), v1 = .int .i64 x1_1 ∧ v5 = .int .i64 x5_1 ∧ z1o (z1m.l0 kq x0_1 x1_1 x5_1 = some (r1, r2)) ∧ z1o (kq ≤ k) ∧ z1o (Kd.R (Kd.int .i64) 3 w' w0.heap.size (fun k_ => (P0_ k_ ∨ w.heap.size ≤ k_)) u9000_ x0_1) ∧ z1o (Kept w w' (fun k_ => P0_ k_)) ∧ z1o (Below w0.heap.size w0 w'))
 case atStart => exact ⟨(l0), (a1), (0), (by first | rfl | (simp; done) | (simp [*]; done)), (by first | rfl | (simp; done) | (simp [*]; done)), H', ⟨um _⟩, ⟨y1a⟩, ⟨y7⟩, ⟨y0⟩⟩
 case round =>
  clear H'
  try clear p2
  obtain ⟨x0_1, x1_1, x5_1, rfl, rfl, HA, HK1, HO_0, HK, HB⟩ := hrel
  cases gk with
  | zero => exact absurd HA.out (by simp [z1m.l0])
  | succ k1 =>
   have H := HA.out
   clear HA
   simp only [z1m.l0] at H
   by_cases c3 : x5_1 < (x0_1.length : Int)
   ·rw [if_pos c3] at H
    have c3b0 : decide (x5_1 < (x0_1.length : Int)) = true := decide_eq_true c3
    clear c3
    by_cases c4 : 0 ≤ x5_1
    ·rw [if_pos c4] at H
     have c4b0 : decide (0 ≤ x5_1) = true := decide_eq_true c4
     clear c4
     obtain ⟨y296, hy296⟩ : ∃ y_ : List Int, y_ = (x0_1.set (x5_1 : Int).toNat x1_1) := ⟨_, rfl⟩
     replace H : (z1m.l0 k1 y296 (wrap64 (x1_1 + 1)) (wrap64 (x5_1 + 1))) = some (r1, r2) := by first | (rw [hy296]; with_reducible exact H) | (have H2_ := (uk _ _).symm.trans H; rw [hy296]; with_reducible exact H2_) | (have H2_ := (uk _ _).symm.trans H; with_reducible exact H2_) | with_reducible exact H | (rw [hy296]; exact H) | exact H
     have Ny296 := z1o.mk hy296
     clear hy296
     have H' := z1o.mk H
     clear H
     obtain ⟨Ao6, co6, eo6⟩ := Kd.R_slice HO_0.out
     subst eo6
     have p5 : 0 ≤ (x5_1 : Int) := of_decide_eq_true (by first | (with_reducible assumption) | assumption)
     have q5 : (x5_1 : Int) < ((x0_1.length : Int) : Int) := of_decide_eq_true (by first | (with_reducible assumption) | assumption)
     obtain ⟨go5, co5, eo5, gb5, gl5, cl5, HG5⟩ := Kd.R_form HO_0.out (by omega)
     (first | cases eo5 | (injection eo5 with ea_ en_ ec_; (first | subst ea_ | (injection ea_ with ea_; subst ea_)); subst ec_; clear en_))
     have GB5 := z1o.mk gb5
     have GG5 := z1o.mk HG5
     clear gb5 gl5 HG5
     have HMgo5 := z1o.mk (show (P0_ go5 ∨ w.heap.size ≤ go5) from (HO_0.out.1 _ rfl))
     obtain ⟨hx5_0, hf5_0⟩ := Kd.R_celln 0 HO_0.out (x5_1 : Int) p5 q5
     replace p5 := eq_true p5
     replace q5 := eq_true q5
     have HP7 := Kd.R_putg HO_0.out (x5_1 : Int) x1_1
     go_wp2_with (first | ((with_reducible refine zt (t := 3) (p := 15) rfl ?_); refine zw (t := 3) (p := 15) (v := ?vo_w8) (w1 := (wr.setCell ⟨go5, (x5_1 : Int).toNat, none⟩ (.int .i64 x1_1))) ?hg ?ho ?hn ?hr ?_; (case ho => rfl); (case hg => rfl); (case hn => rfl); (case hr => first | (go_simp; done) | (go_simp; rfl)); intro w8 hw; have hg : wr.grownBy w8 (some go5) := (by rw [hw]; exact HP7.2); have hp_ : Kd.R (Kd.int .i64) 3 w8 w0.heap.size (fun k_ => (P0_ k_ ∨ w.heap.size ≤ k_)) (.slice (some ⟨go5, 0, none⟩) x0_1.length co6) y296 := (by rw [hw, Ny296.out]; exact HP7.1); clear HP7; have n0_ := z1o.mk (hp_); have n1_ := z1o.mk ((by rw [hw]; exact z4 (HB.out) GB5.out : Below w0.heap.size w0 w8)); have n2_ := z1o.mk (Kept.of_grown (S := (fun k_ => P0_ k_)) hg y7 (fun k_ e_ => (HO_0.out.1 k_ e_))); clear HO_0; clear HB; clear HK; have HO_0 := n0_; have HB := n1_; have HK := n2_; clear n0_ n1_ n2_; clear hg hw hp_))
     go_roundg k1
     case measure => have := HK1.out; omega
     case rel => exact ⟨(y296), (wrap64 (x1_1 + 1)), (wrap64 (x5_1 + 1)), (by first | rfl | (simp; done) | (simp [*]; done)), (by first | rfl | (simp; done) | (simp [*]; done)), H', ⟨by have := HK1.out; omega⟩, ⟨y1r⟩, ⟨y7⟩, ⟨y0⟩⟩
    ·rw [if_neg c4] at H
     exact absurd H (by simp)
   ·rw [if_neg c3] at H
    have c3b0 : decide (x5_1 < (x0_1.length : Int)) = false := decide_eq_false c3
    clear c3
    simp only [Option.some.injEq, Prod.mk.injEq] at H
    obtain ⟨rfl, rfl⟩ := H
    obtain ⟨Ao9, co9, eo9⟩ := Kd.R_slice HO_0.out
    subst eo9
    go_wp2
    go_ret
    exact ⟨by first | rfl | (simp [zm, zl] <;> rfl) | (simp [*, zm, zl] <;> rfl), y1r, y0, y7⟩
def z1l.l0 : Nat → List ByteArray → Int → Int → Option (Int × List ByteArray)
 | 0, _, _, _ => none
 | k + 1, x0, x1, x5 => if x5 < (x0.length : Int) then ((z19.f k x1).bind fun t297 => (if 0 ≤ x5 then (z1l.l0 k (x0.set (x5 : Int).toNat t297) (wrap64 (x1 + 1)) (wrap64 (x5 + 1))) else (none))) else (some (x1, x0))
def z1l.f (k : Nat) (l0 : List ByteArray) (a1 : Int) : Option (Int × List ByteArray) := z1l.l0 k l0 a1 0
set_option maxHeartbeats 8000000 in
set_option maxRecDepth 100000 in
theorem z1l.calls (k : Nat) (P0_ : Nat → Prop) (u9000_ : Value) (l0 : List ByteArray) (a1 : Int) (r1 : Int) (r2 : List ByteArray) (w0 w : World) (hB : Below w0.heap.size w0 w) (ho0 : Kd.R Kd.string 9 w w0.heap.size P0_ u9000_ l0) (h : z1l.f k l0 a1 = some (r1, r2)) :
  Calls Try.prog 95 #[u9000_, .int .i64 a1] w fun e w' => e = .returned (.int .i64 r1) ∧ Kd.R Kd.string 9 w' w0.heap.size (fun k_ => (P0_ k_ ∨ w.heap.size ≤ k_)) u9000_ r2 ∧ Below w0.heap.size w0 w' ∧ Kept w w' (fun k_ => P0_ k_) := by
 have HO0 := z1o.mk (show Kd.R Kd.string 9 w w0.heap.size (fun k_ => (P0_ k_ ∨ w.heap.size ≤ k_)) u9000_ l0 from Kd.R_mono ho0 (fun k_ hk => (.inl hk)))
 have HK := z1o.mk (Kept.refl w (fun k_ => P0_ k_))
 have HW0 := z1o.mk hB.size
 have HB := z1o.mk hB
 clear hB
 have H : (z1l.l0 k l0 a1 0) = some (r1, r2) := h
 clear h
 have H' := z1o.mk H
 clear H
 go_enter Try.func95, Try.ntmps95
 go_wp2
 go_loopg [1, 5] k (fun kq v1 v5 w' => ∃ (x0_1 : List ByteArray) (x1_1 : Int) (x5_1 : Int), v1 = .int .i64 x1_1 ∧ v5 = .int .i64 x5_1 ∧ z1o (z1l.l0 kq x0_1 x1_1 x5_1 = some (r1, r2)) ∧ z1o (kq ≤ k) ∧ z1o (Kd.R Kd.string 9 w' w0.heap.size (fun k_ => (P0_ k_ ∨ w.heap.size ≤ k_)) u9000_ x0_1) ∧ z1o (Kept w w' (fun k_ => P0_ k_)) ∧ z1o (Below w0.heap.size w0 w'))
 case atStart => exact ⟨(l0), (a1), (0), (by first | rfl | (simp; done) | (simp [*]; done)), (by first | rfl | (simp; done) | (simp [*]; done)), H', ⟨um _⟩, ⟨y1a⟩, ⟨y7⟩, ⟨y0⟩⟩
 case round =>
  clear H'
  try clear p2
  obtain ⟨x0_1, x1_1, x5_1, rfl, rfl, HA, HK1, HO_0, HK, HB⟩ := hrel
  cases gk with
  | zero => exact absurd HA.out (by simp [z1l.l0])
  | succ k1 =>
   have H := HA.out
   clear HA
   simp only [z1l.l0] at H
   by_cases c3 : x5_1 < (x0_1.length : Int)
   ·rw [if_pos c3] at H
    have c3b0 : decide (x5_1 < (x0_1.length : Int)) = true := decide_eq_true c3
    clear c3
    replace H := ue.mp H
    obtain ⟨t297, A40, H⟩ := H
    replace H : (if 0 ≤ x5_1 then (z1l.l0 k1 (x0_1.set (x5_1 : Int).toNat t297) (wrap64 (x1_1 + 1)) (wrap64 (x5_1 + 1))) else (none)) = some (r1, r2) := H
    have A4 := z1o.mk A40
    clear A40
    by_cases c5 : 0 ≤ x5_1
    ·rw [if_pos c5] at H
     have c5b0 : decide (0 ≤ x5_1) = true := decide_eq_true c5
     clear c5
     obtain ⟨y298, hy298⟩ : ∃ y_ : List ByteArray, y_ = (x0_1.set (x5_1 : Int).toNat t297) := ⟨_, rfl⟩
     replace H : (z1l.l0 k1 y298 (wrap64 (x1_1 + 1)) (wrap64 (x5_1 + 1))) = some (r1, r2) := by first | (rw [hy298]; with_reducible exact H) | (have H2_ := (uk _ _).symm.trans H; rw [hy298]; with_reducible exact H2_) | (have H2_ := (uk _ _).symm.trans H; with_reducible exact H2_) | with_reducible exact H | (rw [hy298]; exact H) | exact H
     have Ny298 := z1o.mk hy298
     clear hy298
     have H' := z1o.mk H
     clear H
     obtain ⟨Ao7, co7, eo7⟩ := Kd.R_slice HO_0.out
     subst eo7
     go_wp2_with (first | ((with_reducible refine zp (f := 85) rfl ?_); refine goesL_ (some 15) rfl rfl Try.func85 (by kernel_rfl) rfl #[.int .i64 x1_1] rfl (by (try simp only [uh, ui, uj]); first | done | rfl | (simp only [uf, ug]; rfl)) ?_; (with_reducible refine (z19.calls k1 x1_1 t297 _ A4.out).mono ?_); rintro e w8 ⟨rfl, hb⟩; refine ⟨_, rfl, ?_⟩; have n0_ := z1o.mk (Kd.R_below y1r hb); have n1_ := z1o.mk (Kept.below (S := (fun k_ => P0_ k_)) y7 hb); have n2_ := z1o.mk (za y0 hb); clear HO_0; clear HK; clear HB; have HO_0 := n0_; have HK := n1_; have HB := n2_; clear n0_ n1_ n2_; (try clear hb); (try clear hb2); (try clear hk); (try clear hi); have p6 : 0 ≤ (x5_1 : Int) := of_decide_eq_true (by first | (with_reducible assumption) | assumption); have q6 : (x5_1 : Int) < ((x0_1.length : Int) : Int) := of_decide_eq_true (by first | (with_reducible assumption) | assumption); obtain ⟨go6, co6, eo6, gb6, gl6, cl6, HG6⟩ := Kd.R_form HO_0.out (by omega); (first | cases eo6 | (injection eo6 with ea_ en_ ec_; (first | subst ea_ | (injection ea_ with ea_; subst ea_)); subst ec_; clear en_)); have GB6 := z1o.mk gb6; have GG6 := z1o.mk HG6; clear gb6 gl6 HG6; have HMgo6 := z1o.mk (show (P0_ go6 ∨ w.heap.size ≤ go6) from (HO_0.out.1 _ rfl)); obtain ⟨hx6_0, hf6_0⟩ := Kd.R_celln (⟨#[]⟩ : ByteArray) HO_0.out (x5_1 : Int) p6 q6; replace p6 := eq_true p6; replace q6 := eq_true q6; obtain ⟨hy9_, hz9_⟩ := Kd.R_celln (⟨#[]⟩ : ByteArray) HO_0.out (x5_1 : Int) (of_decide_eq_true (by first | (with_reducible assumption) | assumption)) (of_decide_eq_true (by first | (with_reducible assumption) | assumption)); have HP9 := Kd.R_putg HO_0.out (x5_1 : Int) t297) | ((with_reducible refine zt (t := 9) (p := 16) rfl ?_); refine zw (t := 9) (p := 16) (v := ?vo_w10) (w1 := (w8.setCell ⟨go6, (x5_1 : Int).toNat, none⟩ (.string t297))) ?hg ?ho ?hn ?hr ?_; (case ho => rfl); (case hg => rfl); (case hn => rfl); (case hr => first | (go_simp; done) | (go_simp; rfl)); intro w10 hw; have hg : w8.grownBy w10 (some go6) := (by rw [hw]; exact HP9.2); have hp_ : Kd.R Kd.string 9 w10 w0.heap.size (fun k_ => (P0_ k_ ∨ w.heap.size ≤ k_)) (.slice (some ⟨go6, 0, none⟩) x0_1.length co7) y298 := (by rw [hw, Ny298.out]; exact HP9.1); clear HP9; have n0_ := z1o.mk (hp_); have n1_ := z1o.mk ((by rw [hw]; exact z4 (HB.out) GB6.out : Below w0.heap.size w0 w10)); have n2_ := z1o.mk (Kept.of_grown (S := (fun k_ => P0_ k_)) hg y7 (fun k_ e_ => (HO_0.out.1 k_ e_))); clear HO_0; clear HB; clear HK; have HO_0 := n0_; have HB := n1_; have HK := n2_; clear n0_ n1_ n2_; clear hg hw hp_))
     go_roundg k1
     case measure => have := HK1.out; omega
     case rel => exact ⟨(y298), (wrap64 (x1_1 + 1)), (wrap64 (x5_1 + 1)), (by first | rfl | (simp; done) | (simp [*]; done)), (by first | rfl | (simp; done) | (simp [*]; done)), H', ⟨by have := HK1.out; omega⟩, ⟨y1r⟩, ⟨y7⟩, ⟨y0⟩⟩
    ·rw [if_neg c5] at H
     exact absurd H (by simp)
   ·rw [if_neg c3] at H
    have c3b0 : decide (x5_1 < (x0_1.length : Int)) = false := decide_eq_false c3
    clear c3
    simp only [Option.some.injEq, Prod.mk.injEq] at H
    obtain ⟨rfl, rfl⟩ := H
    obtain ⟨Ao11, co11, eo11⟩ := Kd.R_slice HO_0.out
    subst eo11
    go_wp2
    go_ret
    exact ⟨by first | rfl | (simp [zm, zl] <;> rfl) | (simp [*, zm, zl] <;> rfl), y1r, y0, y7⟩
end Go.Proofs.Ytndjodgcemgpfaa.Q
end
section
namespace Go.Proofs.Ytndjodgcemgpfaa.Q
open Go.RowKit Go.Proofs.YtndjodgcemgpfaaW.PrintWords Go.Proofs.YtndjodgcemgpfaaW.PrintLast Go.Proofs.YtndjodgcemgpfaaW.PrintMore
def z1n.l0 : Nat → List S84 → Int → Int → Option (Int × List S84)
 | 0, _, _, _ => none
 | k + 1, xs, m, i => if i < (xs.length : Int) then (if 0 ≤ i then ((z19.f k m).bind fun t => (z1l.f k (rd_T84 xs i).f1 (wrap64 (m + 1))).bind fun b => (z1m.f k (rd_T84 xs i).f2 b.1).bind fun c => z1n.l0 k (xs.set i.toNat (⟨t, b.2, c.2⟩ : S84)) c.1 (wrap64 (i + 1))) else none) else some (m, xs)
def z1n.f (k : Nat) (l0 : List S84) (a1 : Int) : Option (Int × List S84) := z1n.l0 k l0 a1 0
set_option maxHeartbeats 8000000 in
set_option maxRecDepth 100000 in
theorem z1n.calls (k : Nat) (P0_ : Nat → Prop) (u : Value) (l0 : List S84) (a1 : Int) (r1 : Int) (r2 : List S84) (w0 w : World) (hB : Below w0.heap.size w0 w) (ho0 : Kd.S k84 84 w w0.heap.size P0_ u l0) (h : z1n.f k l0 a1 = some (r1, r2)) :
  Calls Try.prog 56 #[u, .int .i64 a1] w fun e w' => e = .returned (.int .i64 r1) ∧ Kd.S k84 84 w' w0.heap.size P0_ u r2 ∧ Below w0.heap.size w0 w' ∧ Kept w w' P0_ := by
 have hu84 := Try.underlying84
 have HO0 := z1o.mk ho0
 clear ho0
 have HK := z1o.mk (Kept.refl w P0_)
 have HB := z1o.mk hB
 clear hB
 have H' := z1o.mk h
 clear h
 go_enter Try.func56, Try.ntmps56
 go_wp2
 go_loopg [1, 5] k (fun kq v1 v5 w' => ∃ (xs : List S84) (m i : Int), v1 = .int .i64 m ∧ v5 = .int .i64 i ∧ z1o (z1n.l0 kq xs m i = some (r1, r2)) ∧ z1o (kq ≤ k) ∧ z1o (Kd.S k84 84 w' w0.heap.size P0_ u xs) ∧ z1o (Kept w w' P0_) ∧ z1o (Below w0.heap.size w0 w'))
 case atStart => exact ⟨l0, a1, 0, rfl, rfl, H', ⟨um _⟩, HO0, HK, HB⟩
 case round =>
  clear H' HO0 HK HB
  obtain ⟨xs, m, i, rfl, rfl, HA, HK1, HO, HK, HB⟩ := hrel
  cases gk with
  | zero => exact absurd HA.out (by simp [z1n.l0])
  | succ k1 =>
   have H := HA.out
   clear HA
   simp only [z1n.l0] at H
   by_cases c3 : i < (xs.length : Int)
   ·rw [if_pos c3] at H
    by_cases c5 : 0 ≤ i
    ·rw [if_pos c5] at H
     replace H := ue.mp H
     obtain ⟨t, At, H⟩ := H
     replace H := ue.mp H
     obtain ⟨⟨b1, b2⟩, Ab, H⟩ := H
     replace H := ue.mp H
     obtain ⟨⟨d1, d2⟩, Ad, H⟩ := H
     have At' := z1o.mk At
     have Ab' := z1o.mk Ab
     have Ad' := z1o.mk Ad
     have HH := z1o.mk H
     clear At Ab Ad H
     obtain ⟨g, cap, eu, gb, gl, cl, HG⟩ := Kd.S_form HO.out (by omega)
     subst eu
     have GB := z1o.mk gb
     clear gb gl HG
     have OKG := z1o.mk ((Kd.S_R HO.out).1 g rfl)
     have c3b : decide (i < (xs.length : Int)) = true := decide_eq_true c3
     have C3 := z1o.mk c3
     have C5 := z1o.mk c5
     clear c3 c5
     have p5 : (0 ≤ i) = True := eq_true C5.out
     have q5 : (i < (xs.length : Int)) = True := eq_true C3.out
     
     go_wp2_with fail
     go_at_call 85
     refine (z19.calls k1 m t _ At'.out).mono ?_
     rintro e w1 ⟨rfl, hb⟩
     have HO1 := z1o.mk (Kd.S_below HO.out hb)
     have HK2 := z1o.mk (Kept.below HK.out hb)
     have HB1 := z1o.mk (za HB.out hb)
     clear HO HK HB hb
     obtain ⟨oki, ce, hcl, hM, hcc, hfr, hoki, hH⟩ := Kd.S_elem HO1.out z84 i C5.out C3.out
     obtain ⟨v1, v2, rfl, g1, g2⟩ := k84_openM hM
     clear hM hcl
     have hf0 : w1.frozen? ⟨g, i.toNat * 3, none⟩ = false := hfr 0
     have hx0 : w1.cell? ⟨g, i.toNat * 3, none⟩ = some (.string (rd_T84 xs i).f0) := hcc 0 _ rfl
     obtain ⟨A1, c1, e1⟩ := Kd.R_slice g1
     subst e1
     obtain ⟨A2, c2, e2⟩ := Kd.R_slice g2
     subst e2
     have hx1 : w1.cell? ⟨g, i.toNat * 3 + 1, none⟩ = some (.slice A1 (rd_T84 xs i).f1.length c1) := hcc 1 _ rfl
     clear hfr hcc
     have HH1 := z1o.mk (Kd.H_seg hH C5.out C3.out (seg := [.string t]) (j := 0) (show 1 ≤ 3 from by decide) (by intro q hq; rw [List.mem_singleton] at hq; subst hq; rfl))
     have NG := z1o.mk (fun k hk => (hoki k hk).2)
     have NP := z1o.mk (fun k hk => (hoki k hk).1)
     have G1 := z1o.mk g1
     have G2 := z1o.mk g2
     clear hH hoki g1 g2
     
     go_wp2_with fail
     go_at_call 95
     have HG2 : w1.grownBy (w1.setCell ⟨g, i.toNat * 3, none⟩ (.string t)) (some g) := HH1.out.2
     have HHa : Kd.H k84 84 (w1.setCell ⟨g, i.toNat * 3, none⟩ (.string t)) w0.heap.size P0_ (.slice (some ⟨g, 0, none⟩) xs.length cap) xs i oki [.string t, .slice A1 (rd_T84 xs i).f1.length c1, .slice A2 (rd_T84 xs i).f2.length c2] := HH1.out.1
     have HB2 : Below w0.heap.size w0 (w1.setCell ⟨g, i.toNat * 3, none⟩ (.string t)) := z4 HB1.out GB.out
     have HK3 : Kept w (w1.setCell ⟨g, i.toNat * 3, none⟩ (.string t)) P0_ := Kept.setCell HK2.out (.inl OKG.out) _
     have G1a : Kd.R Kd.string 9 (w1.setCell ⟨g, i.toNat * 3, none⟩ (.string t)) w0.heap.size oki (.slice A1 (rd_T84 xs i).f1.length c1) (rd_T84 xs i).f1 := Kd.R_far G1.out (fun k hk => NG.out k hk) _
     have G2a : Kd.R (Kd.int .i64) 3 (w1.setCell ⟨g, i.toNat * 3, none⟩ (.string t)) w0.heap.size oki (.slice A2 (rd_T84 xs i).f2.length c2) (rd_T84 xs i).f2 := Kd.R_far G2.out (fun k hk => NG.out k hk) _
     refine (z1l.calls k1 (fun k_ => some k_ = (Value.slice A1 (rd_T84 xs i).f1.length c1).ownBlock) _ (rd_T84 xs i).f1 (wrap64 (m + 1)) b1 b2 w0 _ HB2 (Kd.R_tight rfl G1a) Ab'.out).mono ?_
     rintro e w3 ⟨rfl, hy, hb, hkp⟩
     have HB3 := z1o.mk hb
     have HK4 := z1o.mk (Kept.then_ HK3 hkp (fun k hs => .inl (NP.out k (G1a.1 k hs.symm))))
     have HH3 := z1o.mk (Kd.H_step HHa (fun k hk hn hlt => hkp.2 k hlt (fun e_ => hn (G1a.1 k e_.symm))))
     have G1b := z1o.mk (Kd.R_reok rfl hy (fun k e_ => G1a.1 k e_))
     have G2b := z1o.mk (Kd.R_mono (Kd.R_kept (Kd.R_apart' G2a (Kd.R_typed G1a) (by decide)) hkp (fun k hk hs => hk.2 hs)) (fun k hk => hk.1))
     clear hb hkp hy HHa HH1 HB2 HK3 G1a G2a G1 G2 HG2 HK2 HB1 hx0 hx1 hf0
     obtain ⟨rows_, _, _, _, _, hcc, _⟩ := Kd.H_raw HH3.out C5.out C3.out
     have hx2 : w3.cell? ⟨g, i.toNat * 3 + 2, none⟩ = some (.slice A2 (rd_T84 xs i).f2.length c2) := hcc 2 _ rfl
     clear hcc
     
     go_wp2_with fail
     go_at_call 86
     refine (z1m.calls k1 (fun k_ => some k_ = (Value.slice A2 (rd_T84 xs i).f2.length c2).ownBlock) _ (rd_T84 xs i).f2 b1 d1 d2 w0 _ HB3.out (Kd.R_tight rfl G2b.out) Ad'.out).mono ?_
     rintro e w4 ⟨rfl, hy, hb, hkp⟩
     have HB4 := z1o.mk hb
     have HK5 := z1o.mk (Kept.then_ HK4.out hkp (fun k hs => .inl (NP.out k (G2b.out.1 k hs.symm))))
     have HH4 := Kd.H_step HH3.out (fun k hk hn hlt => hkp.2 k hlt (fun e_ => hn (G2b.out.1 k e_.symm)))
     have G2c := Kd.R_reok rfl hy (fun k e_ => G2b.out.1 k e_)
     have G1c := Kd.R_mono (Kd.R_kept (Kd.R_apart' G1b.out (Kd.R_typed G2b.out) (by decide)) hkp (fun k hk hs => hk.2 hs)) (fun k hk => hk.1)
     have HS := z1o.mk (Kd.H_back HH4 (x' := (⟨t, b2, d2⟩ : S84)) (k84_mkM w4 w0.heap.size oki (⟨t, b2, d2⟩ : S84) G1c G2c) (fun _ hk => hk))
     clear hb hkp hy HH4 G2c G1c HB3 HK4 HH3 G1b G2b hx2
     go_wp2_with fail
     go_roundg k1
     case measure => have := HK1.out; omega
     case rel => exact ⟨_, _, _, rfl, rfl, HH, ⟨by have := HK1.out; omega⟩, HS, HK5, HB4⟩
    ·rw [if_neg c5] at H
     exact absurd H (by simp)
   ·rw [if_neg c3] at H
    have c3b0 : decide (i < (xs.length : Int)) = false := decide_eq_false c3
    clear c3
    simp only [Option.some.injEq, Prod.mk.injEq] at H
    obtain ⟨rfl, rfl⟩ := H
    obtain ⟨Ao, co, eo⟩ := Kd.S_slice HO.out
    subst eo
    go_wp2
    go_ret
    exact ⟨rfl, HO.out, HB.out, HK.out⟩
theorem eqByteS_l0 (xs : List Int) (hl : xs.length ≤ 4611686018427387903) : ∀ (rest pre : List Int), xs = pre ++ rest → Ev (fun k => laws_eqByteS.l0 k xs xs (pre.length : Int)) true
 | [], pre, hx => by
  subst hx
  exact Ev.step (fun k => laws_eqByteS.l0.eq_2 _ _ _ k) (Ev.ite_neg end_lt (Ev.now _))
 | x :: rest, pre, hx => by
  have hlt : pre.length < 4611686018427387903 := by rw [hx] at hl; simp at hl; omega
  have hm : (pre.length : Int) < (xs.length : Int) := by rw [hx]; exact mid_lt
  refine Ev.step (fun k => laws_eqByteS.l0.eq_2 _ _ _ k) (Ev.ite_pos hm (Ev.ite_pos (by omega) (Ev.ite_pos hm (Ev.ite_pos rfl ?_))))
  rw [wrap_next (x := x) (by omega)]
  exact eqByteS_l0 xs hl rest (pre ++ [x]) (by rw [hx]; simp)
theorem eqByteS_ev (xs : List Int) (hl : xs.length ≤ 4611686018427387903) : Ev (fun k => laws_eqByteS.f k xs xs) true := by
 unfold laws_eqByteS.f
 exact Ev.ite_pos rfl (eqByteS_l0 xs hl xs [] rfl)
theorem eqIntS_l0 (xs : List Int) (hl : xs.length ≤ 4611686018427387903) : ∀ (rest pre : List Int), xs = pre ++ rest → Ev (fun k => laws_eqIntS.l0 k xs xs (pre.length : Int)) true
 | [], pre, hx => by
  subst hx
  exact Ev.step (fun k => laws_eqIntS.l0.eq_2 _ _ _ k) (Ev.ite_neg end_lt (Ev.now _))
 | x :: rest, pre, hx => by
  have hlt : pre.length < 4611686018427387903 := by rw [hx] at hl; simp at hl; omega
  have hm : (pre.length : Int) < (xs.length : Int) := by rw [hx]; exact mid_lt
  refine Ev.step (fun k => laws_eqIntS.l0.eq_2 _ _ _ k) (Ev.ite_pos hm (Ev.ite_pos (by omega) (Ev.ite_pos hm (Ev.ite_pos rfl ?_))))
  rw [wrap_next (x := x) (by omega)]
  exact eqIntS_l0 xs hl rest (pre ++ [x]) (by rw [hx]; simp)
theorem eqIntS_ev (xs : List Int) (hl : xs.length ≤ 4611686018427387903) : Ev (fun k => laws_eqIntS.f k xs xs) true := by
 unfold laws_eqIntS.f
 exact Ev.ite_pos rfl (eqIntS_l0 xs hl xs [] rfl)
theorem eqStringS_l0 (xs : List ByteArray) (hl : xs.length ≤ 4611686018427387903) : ∀ (rest pre : List ByteArray), xs = pre ++ rest → Ev (fun k => laws_eqStringS.l0 k xs xs (pre.length : Int)) true
 | [], pre, hx => by
  subst hx
  exact Ev.step (fun k => laws_eqStringS.l0.eq_2 _ _ _ k) (Ev.ite_neg end_lt (Ev.now _))
 | x :: rest, pre, hx => by
  have hlt : pre.length < 4611686018427387903 := by rw [hx] at hl; simp at hl; omega
  have hm : (pre.length : Int) < (xs.length : Int) := by rw [hx]; exact mid_lt
  refine Ev.step (fun k => laws_eqStringS.l0.eq_2 _ _ _ k) (Ev.ite_pos hm (Ev.ite_pos (by omega) (Ev.ite_pos hm (Ev.ite_pos rfl ?_))))
  rw [wrap_next (x := x) (by omega)]
  exact eqStringS_l0 xs hl rest (pre ++ [x]) (by rw [hx]; simp)
theorem eqStringS_ev (xs : List ByteArray) (hl : xs.length ≤ 4611686018427387903) : Ev (fun k => laws_eqStringS.f k xs xs) true := by
 unfold laws_eqStringS.f
 exact Ev.ite_pos rfl (eqStringS_l0 xs hl xs [] rfl)
def LenV84 (x : S84) : Prop := x.f1.length ≤ 1048576 ∧ x.f2.length ≤ 1048576
theorem eqValue_ev (x : S84) (h : LenV84 x) : Ev (fun k => laws_eqValue.f k x.f0 x.f1 x.f2 x.f0 x.f1 x.f2) true := by
 unfold laws_eqValue.f
 refine Ev.ite_pos rfl (Ev.bind (eqStringS_ev x.f1 (by have := h.1; omega)) (Ev.ite_pos rfl (Ev.bind (eqIntS_ev x.f2 (by have := h.2; omega)) (Ev.ite_pos rfl (Ev.now _)))))
theorem eqValueS_l0 (xs : List S84) (hl : xs.length ≤ 4611686018427387903) (hv : ∀ x ∈ xs, LenV84 x) : ∀ (rest pre : List S84), xs = pre ++ rest → Ev (fun k => z1b.l0 k xs xs (pre.length : Int)) true
 | [], pre, hx => by
  subst hx
  exact Ev.step (fun k => z1b.l0.eq_2 _ _ _ k) (Ev.ite_neg end_lt (Ev.now _))
 | x :: rest, pre, hx => by
  have hlt : pre.length < 4611686018427387903 := by rw [hx] at hl; simp at hl; omega
  have hm : (pre.length : Int) < (xs.length : Int) := by rw [hx]; exact mid_lt
  have hrd : rd_T84 xs (pre.length : Int) = x := by rw [hx]; exact mid_getD _
  refine Ev.step (fun k => z1b.l0.eq_2 _ _ _ k) (Ev.ite_pos hm (Ev.ite_pos (by omega) (Ev.ite_pos hm ?_)))
  rw [hrd, wrap_next (x := x) (by omega)]
  exact Ev.bind (eqValue_ev x (hv x (by rw [hx]; simp))) (Ev.ite_pos rfl (eqValueS_l0 xs hl hv rest (pre ++ [x]) (by rw [hx]; simp)))
theorem eqValueS_ev (xs : List S84) (hl : xs.length ≤ 4611686018427387903) (hv : ∀ x ∈ xs, LenV84 x) : Ev (fun k => z1b.f k xs xs) true := by
 unfold z1b.f
 exact Ev.ite_pos rfl (eqValueS_l0 xs hl hv xs [] rfl)
theorem eqDoc_ev (id : ByteArray) (xs : List S84) (hl : xs.length ≤ 4611686018427387903) (hv : ∀ x ∈ xs, LenV84 x) : Ev (fun k => laws_eqDoc.f k id xs id xs) true := by
 unfold laws_eqDoc.f
 exact Ev.ite_pos rfl (Ev.bind (eqValueS_ev xs hl hv) (Ev.ite_pos rfl (Ev.now _)))
theorem markText_l0 : ∀ (n : Nat) (m : Int) (t : ByteArray), 0 ≤ m → m < 10 ^ n → m ≤ 9223372036854775807 → t.size + n ≤ 1000 → ∃ r, Ev (fun k => z19.l0 k m t) r
 | 0, m, t, h0, h1, hb, h2 => by
  have : ¬ m > 0 := by simp at h1; omega
  exact ⟨_, Ev.step (fun k => z19.l0.eq_2 _ _ k) (Ev.ite_neg this (Ev.ite_pos (by omega) (Ev.now _)))⟩
 | n + 1, m, t, h0, h1, hb, h2 => by
  by_cases hm : m > 0
  ·have hsz : ∀ z : List Int, z.length = 1 → (strOfNums z).size = 1 := fun z hz => by simp [strOfNums, ByteArray.size, hz]
   have hdiv : Int.tdiv m 10 = m / 10 := by rw [Int.tdiv_eq_ediv_of_nonneg h0]
   have hw : wrap64 (Int.tdiv m 10) = m / 10 := by rw [hdiv]; exact z1s (by omega) (by omega)
   have hlt : m / 10 < 10 ^ n := by
    rw [Int.pow_succ] at h1
    omega
   obtain ⟨r, hr⟩ := markText_l0 n (m / 10) (strOfNums [(wrap64 (48 + (Int.tmod m 10))) % 256] ++ t) (by omega) hlt (by omega) (by rw [ByteArray.size_append, hsz _ rfl]; omega)
   refine ⟨r, Ev.step (fun k => z19.l0.eq_2 _ _ k) (Ev.ite_pos hm (Ev.some_bind (Ev.ite_pos (by rw [hsz _ rfl]; omega) ?_)))⟩
   rw [hw]
   exact hr
  ·exact ⟨_, Ev.step (fun k => z19.l0.eq_2 _ _ k) (Ev.ite_neg hm (Ev.ite_pos (by omega) (Ev.now _)))⟩
theorem markText_some (m : Int) (hb : m ≤ 9223372036854775807) : ∃ t, Ev (fun k => z19.f k m) t := by
 unfold z19.f
 by_cases h : m ≤ 0
 ·exact ⟨_, Ev.ite_pos h (Ev.now _)⟩
 ·obtain ⟨t, ht⟩ := markText_l0 20 m ⟨#[]⟩ (by omega) (by omega) hb (by decide)
  exact ⟨t, Ev.ite_neg h ht⟩
open Classical in

noncomputable def mkText (m : Int) : ByteArray := if h : ∃ t, Ev (fun k => z19.f k m) t then Classical.choose h else ⟨#[]⟩
theorem markText_ev (m : Int) (hb : m ≤ 9223372036854775807) : Ev (fun k => z19.f k m) (mkText m) := by
 have h := markText_some m hb
 unfold mkText
 rw [dif_pos h]
 exact Classical.choose_spec h
noncomputable def mkS : Int → Nat → List ByteArray
 | _, 0 => []
 | m, n + 1 => mkText m :: mkS (m + 1) n
def mkI : Int → Nat → List Int
 | _, 0 => []
 | m, n + 1 => m :: mkI (m + 1) n
def mkB : Int → Nat → List Int
 | _, 0 => []
 | m, n + 1 => m % 256 :: mkB (m + 1) n
theorem markStringS_l0 : ∀ (rest pre : List ByteArray) (m : Int), 0 ≤ m → m + rest.length ≤ 4611686018427387903 → rest.length + pre.length ≤ 4611686018427387903 →
  Ev (fun k => z1l.l0 k (pre ++ rest) m (pre.length : Int)) (m + rest.length, pre ++ mkS m rest.length)
 | [], pre, m, h0, h1, h2 => by
  exact Ev.step (fun k => z1l.l0.eq_2 _ _ _ k) (Ev.ite_neg end_lt (Ev.eq (Ev.now _) (by simp [mkS])))
 | x :: rest, pre, m, h0, h1, h2 => by
  simp only [List.length_cons] at h1 h2
  refine Ev.step (fun k => z1l.l0.eq_2 _ _ _ k) (Ev.ite_pos mid_lt (Ev.bind (markText_ev m (by omega)) (Ev.ite_pos (by omega) ?_)))
  rw [mid_set, wrap_next (x := mkText m) (by omega), z1s (by omega) (by omega), snoc_cons]
  refine Ev.eq (markStringS_l0 rest (pre ++ [mkText m]) (m + 1) (by omega) (by omega) (by simp only [ul, List.length_singleton]; omega)) ?_
  simp [mkS]
  omega
theorem markStringS_ev (xs : List ByteArray) (m : Int) (h0 : 0 ≤ m) (h1 : m + xs.length ≤ 4611686018427387903) : Ev (fun k => z1l.f k xs m) (m + xs.length, mkS m xs.length) := by
 have := markStringS_l0 xs [] m h0 h1 (by simp; omega)
 simpa [z1l.f] using this
theorem markIntS_l0 : ∀ (rest pre : List Int) (m : Int), 0 ≤ m → m + rest.length ≤ 4611686018427387903 → rest.length + pre.length ≤ 4611686018427387903 →
  Ev (fun k => z1m.l0 k (pre ++ rest) m (pre.length : Int)) (m + rest.length, pre ++ mkI m rest.length)
 | [], pre, m, h0, h1, h2 => by
  exact Ev.step (fun k => z1m.l0.eq_2 _ _ _ k) (Ev.ite_neg end_lt (Ev.eq (Ev.now _) (by simp [mkI])))
 | x :: rest, pre, m, h0, h1, h2 => by
  simp only [List.length_cons] at h1 h2
  refine Ev.step (fun k => z1m.l0.eq_2 _ _ _ k) (Ev.ite_pos mid_lt (Ev.ite_pos (by omega) ?_))
  rw [mid_set, wrap_next (x := m) (by omega), z1s (by omega) (by omega), snoc_cons]
  refine Ev.eq (markIntS_l0 rest (pre ++ [m]) (m + 1) (by omega) (by omega) (by simp only [ul, List.length_singleton]; omega)) ?_
  simp [mkI]
  omega
theorem markIntS_ev (xs : List Int) (m : Int) (h0 : 0 ≤ m) (h1 : m + xs.length ≤ 4611686018427387903) : Ev (fun k => z1m.f k xs m) (m + xs.length, mkI m xs.length) := by
 have := markIntS_l0 xs [] m h0 h1 (by simp; omega)
 simpa [z1m.f] using this
theorem markByteS_l0 : ∀ (rest pre : List Int) (m : Int), 0 ≤ m → m + rest.length ≤ 4611686018427387903 → rest.length + pre.length ≤ 4611686018427387903 →
  Ev (fun k => laws_markByteS.l0 k (pre ++ rest) m (pre.length : Int)) (m + rest.length, pre ++ mkB m rest.length)
 | [], pre, m, h0, h1, h2 => by
  exact Ev.step (fun k => laws_markByteS.l0.eq_2 _ _ _ k) (Ev.ite_neg end_lt (Ev.eq (Ev.now _) (by simp [mkB])))
 | x :: rest, pre, m, h0, h1, h2 => by
  simp only [List.length_cons] at h1 h2
  refine Ev.step (fun k => laws_markByteS.l0.eq_2 _ _ _ k) (Ev.ite_pos mid_lt (Ev.ite_pos (by omega) ?_))
  rw [mid_set, wrap_next (x := m % 256) (by omega), z1s (by omega) (by omega), snoc_cons]
  refine Ev.eq (markByteS_l0 rest (pre ++ [m % 256]) (m + 1) (by omega) (by omega) (by simp only [ul, List.length_singleton]; omega)) ?_
  simp [mkB]
  omega
theorem markByteS_ev (xs : List Int) (m : Int) (h0 : 0 ≤ m) (h1 : m + xs.length ≤ 4611686018427387903) : Ev (fun k => laws_markByteS.f k xs m) (m + xs.length, mkB m xs.length) := by
 have := markByteS_l0 xs [] m h0 h1 (by simp; omega)
 simpa [laws_markByteS.f] using this
theorem heldIntS_l0 (xs : List Int) : ∀ (n : Nat) (pre : List Int) (m : Int), xs = pre ++ mkI m n → 0 ≤ m → m + n ≤ 4611686018427387903 → n + pre.length ≤ 4611686018427387903 →
  Ev (fun k => laws_heldIntS.l0 k xs m (pre.length : Int)) (m + n)
 | 0, pre, m, hx, h0, h1, h2 => by
  subst hx
  exact Ev.step (fun k => laws_heldIntS.l0.eq_2 _ _ _ k) (Ev.ite_neg end_lt (Ev.eq (Ev.now _) (by simp)))
 | n + 1, pre, m, hx, h0, h1, h2 => by
  have hx' : xs = pre ++ m :: mkI (m + 1) n := hx
  have hrd : rd xs (pre.length : Int) = m := by rw [hx']; exact mid_getD _
  refine Ev.step (fun k => laws_heldIntS.l0.eq_2 _ _ _ k) (Ev.ite_pos (by rw [hx']; exact mid_lt) (Ev.ite_pos (by omega) (Ev.ite_pos hrd ?_)))
  rw [wrap_next (x := m) (by omega), z1s (by omega) (by omega)]
  exact Ev.eq (heldIntS_l0 xs n (pre ++ [m]) (m + 1) (by rw [hx']; simp) (by omega) (by omega) (by simp only [ul, List.length_singleton]; omega)) (by omega)
theorem heldIntS_ev (n : Nat) (m : Int) (h0 : 0 ≤ m) (h1 : m + n ≤ 4611686018427387903) : Ev (fun k => laws_heldIntS.f k (mkI m n) m) (m + n) :=
 heldIntS_l0 _ n [] m rfl h0 h1 (by simp; omega)
theorem heldStringS_l0 (xs : List ByteArray) : ∀ (n : Nat) (pre : List ByteArray) (m : Int), xs = pre ++ mkS m n → 0 ≤ m → m + n ≤ 4611686018427387903 → n + pre.length ≤ 4611686018427387903 →
  Ev (fun k => z1d.l0 k xs m (pre.length : Int)) (m + n)
 | 0, pre, m, hx, h0, h1, h2 => by
  subst hx
  exact Ev.step (fun k => z1d.l0.eq_2 _ _ _ k) (Ev.ite_neg end_lt (Ev.eq (Ev.now _) (by simp)))
 | n + 1, pre, m, hx, h0, h1, h2 => by
  have hx' : xs = pre ++ mkText m :: mkS (m + 1) n := hx
  have hrd : rdOf ByteArray.empty xs (pre.length : Int) = mkText m := by rw [hx']; exact mid_getD _
  refine Ev.step (fun k => z1d.l0.eq_2 _ _ _ k) (Ev.ite_pos (by rw [hx']; exact mid_lt) (Ev.ite_pos (by omega) (Ev.bind (markText_ev m (by omega)) (Ev.ite_pos (by rw [hrd]) ?_))))
  rw [wrap_next (x := mkText m) (by omega), z1s (by omega) (by omega)]
  exact Ev.eq (heldStringS_l0 xs n (pre ++ [mkText m]) (m + 1) (by rw [hx']; simp) (by omega) (by omega) (by simp only [ul, List.length_singleton]; omega)) (by omega)
theorem heldStringS_ev (n : Nat) (m : Int) (h0 : 0 ≤ m) (h1 : m + n ≤ 4611686018427387903) : Ev (fun k => z1d.f k (mkS m n) m) (m + n) :=
 heldStringS_l0 _ n [] m rfl h0 h1 (by simp; omega)
def cntV (x : S84) : Nat := 1 + x.f1.length + x.f2.length
noncomputable def mkV1 (m : Int) (x : S84) : S84 := ⟨mkText m, mkS (m + 1) x.f1.length, mkI (m + 1 + x.f1.length) x.f2.length⟩
noncomputable def mkV : Int → List S84 → List S84
 | _, [] => []
 | m, x :: r => mkV1 m x :: mkV (m + cntV x) r
def cntVS (xs : List S84) : Nat := (xs.map cntV).sum
theorem cntVS_cons (x : S84) (xs : List S84) : cntVS (x :: xs) = cntV x + cntVS xs := by simp [cntVS]
theorem markValueS_l0 : ∀ (rest pre : List S84) (m : Int), 0 ≤ m → m + cntVS rest ≤ 4611686018427387903 → rest.length + pre.length ≤ 4611686018427387903 →
  Ev (fun k => z1n.l0 k (pre ++ rest) m (pre.length : Int)) (m + cntVS rest, pre ++ mkV m rest)
 | [], pre, m, h0, h1, h2 => by
  exact Ev.step (fun k => z1n.l0.eq_2 _ _ _ k) (Ev.ite_neg end_lt (Ev.eq (Ev.now _) (by simp [mkV, cntVS])))
 | x :: rest, pre, m, h0, h1, h2 => by
  rw [cntVS_cons] at h1
  have hc : cntV x = 1 + x.f1.length + x.f2.length := rfl
  simp only [List.length_cons] at h2
  have hrd : rd_T84 (pre ++ x :: rest) (pre.length : Int) = x := mid_getD _
  refine Ev.step (fun k => z1n.l0.eq_2 _ _ _ k) (Ev.ite_pos mid_lt (Ev.ite_pos (by omega) (Ev.bind (markText_ev m (by omega)) ?_)))
  rw [hrd, z1s (x := m + 1) (by omega) (by omega)]
  refine Ev.bind (markStringS_ev x.f1 (m + 1) (by omega) (by omega)) (Ev.bind (markIntS_ev x.f2 (m + 1 + x.f1.length) (by omega) (by omega)) ?_)
  rw [mid_set, wrap_next (x := mkV1 m x) (by omega), snoc_cons]
  refine Ev.eq (markValueS_l0 rest (pre ++ [mkV1 m x]) (m + 1 + x.f1.length + x.f2.length) (by omega) (by omega) (by simp; omega)) ?_
  rw [cntVS_cons, mkV]
  have e : m + 1 + (x.f1.length : Int) + x.f2.length = m + (cntV x : Nat) := by rw [hc]; omega
  rw [e]
  simp
  omega
theorem markValueS_ev (xs : List S84) (m : Int) (h0 : 0 ≤ m) (h1 : m + cntVS xs ≤ 4611686018427387903) (h2 : xs.length ≤ 4611686018427387903) : Ev (fun k => z1n.f k xs m) (m + cntVS xs, mkV m xs) := by
 have := markValueS_l0 xs [] m h0 h1 (by simpa using h2)
 simpa [z1n.f] using this
theorem heldValueS_l0 (xs : List S84) : ∀ (rest pre : List S84) (m : Int), xs = pre ++ mkV m rest → 0 ≤ m → m + cntVS rest ≤ 4611686018427387903 → rest.length + pre.length ≤ 4611686018427387903 →
  Ev (fun k => z14.l0 k xs m (pre.length : Int)) (m + cntVS rest)
 | [], pre, m, hx, h0, h1, h2 => by
  subst hx
  exact Ev.step (fun k => z14.l0.eq_2 _ _ _ k) (Ev.ite_neg end_lt (Ev.eq (Ev.now _) (by simp [cntVS])))
 | x :: rest, pre, m, hx, h0, h1, h2 => by
  rw [cntVS_cons] at h1
  have hc : cntV x = 1 + x.f1.length + x.f2.length := rfl
  simp only [List.length_cons] at h2
  have hx' : xs = pre ++ mkV1 m x :: mkV (m + cntV x) rest := hx
  have hrd : rd_T84 xs (pre.length : Int) = mkV1 m x := by rw [hx']; exact mid_getD _
  refine Ev.step (fun k => z14.l0.eq_2 _ _ _ k) (Ev.ite_pos (by rw [hx']; exact mid_lt) (Ev.ite_pos (by omega) (Ev.bind (markText_ev m (by omega)) ?_)))
  rw [hrd, z1s (x := m + 1) (by omega) (by omega), wrap_next (x := mkV1 m x) (by omega)]
  refine Ev.ite_pos rfl (Ev.bind (heldStringS_ev x.f1.length (m + 1) (by omega) (by omega)) (Ev.ite_neg (by omega) (Ev.bind (heldIntS_ev x.f2.length (m + 1 + x.f1.length) (by omega) (by omega)) (Ev.ite_neg (by omega) ?_))))
  have e : m + 1 + (x.f1.length : Int) + x.f2.length = m + (cntV x : Nat) := by rw [hc]; omega
  rw [e]
  refine Ev.eq (heldValueS_l0 xs rest (pre ++ [mkV1 m x]) (m + cntV x) (by rw [hx']; simp) (by omega) (by omega) (by simp; omega)) ?_
  rw [cntVS_cons]
  omega
theorem heldValueS_ev (xs : List S84) (m : Int) (h0 : 0 ≤ m) (h1 : m + cntVS xs ≤ 4611686018427387903) (h2 : xs.length ≤ 4611686018427387903) : Ev (fun k => z14.f k (mkV m xs) m) (m + cntVS xs) :=
 heldValueS_l0 _ xs [] m rfl h0 h1 (by simpa using h2)
end Go.Proofs.Ytndjodgcemgpfaa.Q
end
section
namespace Go.Proofs.Ytndjodgcemgpfaa.Q
open Go.RowKit Go.Proofs.YtndjodgcemgpfaaW.PrintWords Go.Proofs.YtndjodgcemgpfaaW.PrintLast Go.Proofs.YtndjodgcemgpfaaW.PrintMore
attribute [local go_sem] max2_int min2_int max_two min_two max_three min_three max_four min_four
mutual
def z10.j0 : Nat → Bool → ByteArray → List (S84) → Option (Bool)
 | 0, _, _, _ => none
 | k + 1, x16, x110000, x110001 => if x16 = true then (some false) else (z10.l0 k 0 x110000 x110001)
def z10.l0 : Nat → Int → ByteArray → List (S84) → Option (Bool)
 | 0, _, _, _ => none
 | k + 1, x3, x110000, x110001 => if x3 < (x110001.length : Int) then (if 0 ≤ x3 then (if (((rd_T84 x110001 x3).f0).size : Int) > 65536 then (z10.j2 k x3 true x110000 x110001 ((rd_T84 x110001 x3).f0) ((rd_T84 x110001 x3).f1) ((rd_T84 x110001 x3).f2)) else (if (((rd_T84 x110001 x3).f1).length : Int) > 4096 then (z10.j2 k x3 true x110000 x110001 ((rd_T84 x110001 x3).f0) ((rd_T84 x110001 x3).f1) ((rd_T84 x110001 x3).f2)) else (z10.j2 k x3 (decide ((((rd_T84 x110001 x3).f2).length : Int) > 4096)) x110000 x110001 ((rd_T84 x110001 x3).f0) ((rd_T84 x110001 x3).f1) ((rd_T84 x110001 x3).f2)))) else (none)) else (some true)
def z10.j2 : Nat → Int → Bool → ByteArray → List (S84) → ByteArray → List ByteArray → List Int → Option (Bool)
 | 0, _, _, _, _, _, _, _ => none
 | k + 1, x3, x44, x110000, x110001, x112000, x112001, x112002 => if x44 = true then (some false) else (z10.l1 k x3 0 x110000 x110001 x112000 x112001 x112002)
def z10.l1 : Nat → Int → Int → ByteArray → List (S84) → ByteArray → List ByteArray → List Int → Option (Bool)
 | 0, _, _, _, _, _, _, _ => none
 | k + 1, x3, x5, x110000, x110001, x112000, x112001, x112002 => if x5 < (x112001.length : Int) then (if 0 ≤ x5 then (if ((rdOf ByteArray.empty x112001 x5).size : Int) > 65536 then (some false) else (z10.l1 k x3 (wrap64 (x5 + 1)) x110000 x110001 x112000 x112001 x112002)) else (none)) else (z10.l2 k x3 0 x110000 x110001 x112000 x112001 x112002)
def z10.l2 : Nat → Int → Int → ByteArray → List (S84) → ByteArray → List ByteArray → List Int → Option (Bool)
 | 0, _, _, _, _, _, _, _ => none
 | k + 1, x3, x6, x110000, x110001, x112000, x112001, x112002 => if x6 < (x112002.length : Int) then (if 0 ≤ x6 then (if (rd x112002 x6) < (-1000000000000) then (some false) else (if (rd x112002 x6) > 1000000000000 then (some false) else (z10.l2 k x3 (wrap64 (x6 + 1)) x110000 x110001 x112000 x112001 x112002))) else (none)) else (z10.l0 k (wrap64 (x3 + 1)) x110000 x110001)
end
def z10.f (k : Nat) (a0_0 : ByteArray) (l0_1 : List (S84)) : Option (Bool) := if (a0_0.size : Int) > 65536 then (z10.j0 k true a0_0 l0_1) else (z10.j0 k (decide ((l0_1.length : Int) > 4096)) a0_0 l0_1)
set_option maxHeartbeats 8000000 in
set_option maxRecDepth 100000 in
theorem z10.calls (k : Nat) (a0_0 : ByteArray) (A0_1 : Option Addr) (c0_1 : Nat) (l0_1 : List (S84)) (r : Bool) (w : World) (hr0_1 : Kd.C k84 w A0_1 l0_1.length l0_1) (hc0_1 : l0_1.length ≤ c0_1) (h : z10.f k a0_0 l0_1 = some r) :
  Calls Try.prog 49 #[.agg #[.string a0_0, .slice A0_1 l0_1.length c0_1]] w fun e w' => e = .returned (.bool r) ∧ Below w.heap.size w w' := by
 have hu31 := Try.underlying31
 have hu84 := Try.underlying84
 have HR0_1 := z1o.mk hr0_1
 have HC0_1 := z1o.mk hc0_1
 clear hr0_1 hc0_1
 have HB := z1o.mk (Below.refl w.heap.size w)
 have H : (if (a0_0.size : Int) > 65536 then (z10.j0 k true a0_0 l0_1) else (z10.j0 k (decide ((l0_1.length : Int) > 4096)) a0_0 l0_1)) = some r := h
 clear h
 have HC2 := z1o.mk H
 clear H
 go_enter Try.func49, Try.ntmps49
 go_upto_region 1 with (first | ((with_reducible refine zq (N := 1) rfl ?_); (try (refine zu (by rfl) ?_; dsimp only)); refine zv ?hg (N := 1) ?hd (cs := #[.string a0_0, .slice A0_1 l0_1.length c0_1]) (t := 31) ?hr ?_; (case hd => rfl); (case hg => rfl); (case hr => first | (go_simp; done) | (go_simp; rfl)); intro gb109 hg w3 hbox hb; have n0_ := z1o.mk (za y0 hb); have n1_ := z1o.mk (hbox); have n2_ := z1o.mk ((by rw [hg]; exact (zc y0) : w.heap.size ≤ gb109)); have n3_ := z1o.mk ((by rw [hg]; exact (zc y0) : w.heap.size ≤ gb109)); clear HB; have HB := n0_; have BK109 := n1_; have GW109 := n2_; have GE109 := n3_; clear n0_ n1_ n2_ n3_; clear hb hbox hg))
 (try simp only [Act.put, ub, uc, ud])
 go_cut [16] (fun v16 wc => ∃ (kq : Nat) (x16_1 : Bool), v16 = .bool x16_1 ∧ z1o (z10.j0 kq x16_1 a0_0 l0_1 = some r) ∧ z1o (kq ≤ k) ∧ z1o (wc.heap[gb109]? = some (.cells #[.string a0_0, (.slice A0_1 l0_1.length c0_1)] 31 (0, 0))) ∧ z1o (Below w.heap.size w wc))
 case first =>
  have H := HC2.out
  clear HC2
  by_cases c4 : (a0_0.size : Int) > 65536
  ·rw [if_pos c4] at H
   have c4b0 : decide (65536 < (a0_0.size : Int)) = true := decide_eq_true c4
   have c4b1 : decide (65536 < a0_0.size) = true := decide_eq_true (by omega)
   clear c4
   (first | rw [c4b0] | (simp only [zn, zo]; rw [c4b0]) | skip)
   have H' := z1o.mk H
   clear H
   obtain ⟨hcz5_0, hcz5_1⟩ := cbk2 BK109.out
   obtain ⟨hfz5_0, hfz5_1⟩ := cbf2 BK109.out
   go_wp2
   go_meet
   case rel => exact ⟨_, (true), (by first | rfl | (simp; done) | (simp [*]; done)), H', ⟨by first | omega | exact um _⟩, ⟨y1e⟩, ⟨y1h⟩⟩
  ·rw [if_neg c4] at H
   have c4b0 : decide (65536 < (a0_0.size : Int)) = false := decide_eq_false c4
   have c4b1 : decide (65536 < a0_0.size) = false := decide_eq_false (by omega)
   clear c4
   (first | rw [c4b0] | (simp only [zn, zo]; rw [c4b0]) | skip)
   have H' := z1o.mk H
   clear H
   obtain ⟨hcz6_0, hcz6_1⟩ := cbk2 BK109.out
   obtain ⟨hfz6_0, hfz6_1⟩ := cbf2 BK109.out
   go_wp2
   go_meet
   case rel => exact ⟨_, (decide ((l0_1.length : Int) > 4096)), (by first | rfl | (simp; done) | (simp [*]; done)), H', ⟨by first | omega | exact um _⟩, ⟨y1e⟩, ⟨y1h⟩⟩
 case rest =>
  clear HC2
  try clear p2
  try clear c4
  try clear c4b0
  try clear c4b1
  try clear hcz5_0
  try clear hcz5_1
  try clear hcz6_0
  try clear hcz6_1
  try clear hfz5_0
  try clear hfz5_1
  try clear hfz6_0
  try clear hfz6_1
  obtain ⟨kq, x16_1, rfl, HA, HJ1, BK109, HB⟩ := hcut
  cases kq with
  | zero => exact absurd HA.out (by simp [z10.j0])
  | succ kj1 =>
   have H := HA.out
   clear HA
   simp only [z10.j0] at H
   by_cases c7 : x16_1 = true
   ·subst c7
    have H1 : (some false) = some r := by rw [if_pos rfl] at H; exact H
    clear H
    have H := H1
    clear H1
    obtain rfl := Option.some.inj H
    go_wp2
    go_ret
    exact ⟨by first | rfl | (simp [zm, zl] <;> rfl) | (simp [*, zm, zl] <;> rfl), y1h⟩
   ·replace c7 := Bool.eq_false_iff.mpr c7
    subst c7
    have H1 : (z10.l0 kj1 0 a0_0 l0_1) = some r := by rw [if_neg (show ¬ (false = true) by decide)] at H; exact H
    clear H
    have H := H1
    clear H1
    have H' := z1o.mk H
    clear H
    go_wp2
    go_loopg [3] kj1 (fun kq v3 w' => ∃ (x3_2 : Int), v3 = .int .i64 x3_2 ∧ z1o (z10.l0 kq x3_2 a0_0 l0_1 = some r) ∧ z1o (kq ≤ kj1) ∧ z1o (w'.heap[gb109]? = some (.cells #[.string a0_0, (.slice A0_1 l0_1.length c0_1)] 31 (0, 0))) ∧ z1o (Below w.heap.size w w'))
    case atStart => exact ⟨(0), (by first | rfl | (simp; done) | (simp [*]; done)), H', ⟨um _⟩, ⟨y1e⟩, ⟨y1h⟩⟩
    case round =>
     clear H'
     try clear p2
     try clear c4
     try clear c4b0
     try clear c4b1
     try clear c7
     try clear hcz5_0
     try clear hcz5_1
     try clear hcz6_0
     try clear hcz6_1
     try clear hfz5_0
     try clear hfz5_1
     try clear hfz6_0
     try clear hfz6_1
     try clear p2
     obtain ⟨x3_2, rfl, HA, HK2, BK109, HB⟩ := hrel
     cases gk with
     | zero => exact absurd HA.out (by simp [z10.l0])
     | succ k2 =>
      have H := HA.out
      clear HA
      simp only [z10.l0] at H
      by_cases c8 : x3_2 < (l0_1.length : Int)
      ·rw [if_pos c8] at H
       have c8b0 : decide (x3_2 < (l0_1.length : Int)) = true := decide_eq_true c8
       clear c8
       by_cases c9 : 0 ≤ x3_2
       ·rw [if_pos c9] at H
        have c9b0 : decide (0 ≤ x3_2) = true := decide_eq_true c9
        clear c9
        have HC10 := z1o.mk H
        clear H
        obtain ⟨hcz11_0, hcz11_1⟩ := cbk2 BK109.out
        obtain ⟨hfz11_0, hfz11_1⟩ := cbf2 BK109.out
        have p110 : 0 ≤ (x3_2 : Int) := of_decide_eq_true (by first | (with_reducible assumption) | assumption)
        have q110 : x3_2 < (l0_1.length : Int) := of_decide_eq_true (by first | (with_reducible assumption) | assumption)
        obtain ⟨ad110, A110_1, c110_1, A110_2, c110_2, e110, hx110_0, hx110_1, hx110_2, hl110_1, hi110_1, hl110_2, hi110_2⟩ := at_T84 HR0_1.out x3_2 p110 q110
        have HW110_1 := z1o.mk hx110_1
        have HW110_2 := z1o.mk hx110_2
        cases e110
        replace hx110_0 := (HB.out.cell (ua w _ hx110_0)).trans hx110_0
        replace hx110_1 := (HB.out.cell (ua w _ hx110_1)).trans hx110_1
        replace hx110_2 := (HB.out.cell (ua w _ hx110_2)).trans hx110_2
        have HR110_1 := z1o.mk hi110_1
        have HC110_1 := z1o.mk hl110_1
        clear hi110_1 hl110_1
        have HR110_2 := z1o.mk hi110_2
        have HC110_2 := z1o.mk hl110_2
        clear hi110_2 hl110_2
        replace p110 := eq_true p110
        replace q110 := eq_true q110
        go_upto_region 7 with (first | ((with_reducible refine zq (N := 4) rfl ?_); (try (refine zu (by rfl) ?_; dsimp only)); refine zv ?hg (N := 4) ?hd (cs := #[.string (⟨#[]⟩ : ByteArray), .slice none 0 0, .slice none 0 0]) (t := 84) ?hr ?_; (case hd => rfl); (case hg => rfl); (case hr => first | (go_simp; done) | (go_simp; rfl)); intro gb111 hg w12 hbox hb; have n0_ := z1o.mk (zb (g := gb109) (o := .cells #[.string a0_0, .slice (some ad110) l0_1.length c0_1] 31 (0, 0)) y1e hb); have n1_ := z1o.mk (za y1h hb); have n2_ := z1o.mk (hbox); have n3_ := z1o.mk ((by rw [hg]; exact (zc y1h) : w.heap.size ≤ gb111)); have n4_ := z1o.mk ((by rw [hg]; exact (zc y1h) : w.heap.size ≤ gb111)); have n5_ := z1o.mk ((by rw [hg]; exact Nat.ne_of_lt (zg (g := gb109) (o := .cells #[.string a0_0, .slice (some ad110) l0_1.length c0_1] 31 (0, 0)) y1e) : gb109 ≠ gb111)); have n6_ := z1o.mk ((by rw [hg]; exact Nat.ne_of_gt (zg (g := gb109) (o := .cells #[.string a0_0, .slice (some ad110) l0_1.length c0_1] 31 (0, 0)) y1e) : gb111 ≠ gb109)); clear BK109; clear HB; have BK109 := n0_; have HB := n1_; have BK111 := n2_; have GW111 := n3_; have GE111 := n4_; have NB109_111 := n5_; have NB111_109 := n6_; clear n0_ n1_ n2_ n3_ n4_ n5_ n6_; clear hb hbox hg; have hnb13 := NB111_109.out; have hnc13 := NB109_111.out; obtain ⟨hcz14_0, hcz14_1, hcz14_2⟩ := cbk3 BK111.out; obtain ⟨hfz14_0, hfz14_1, hfz14_2⟩ := cbf3 BK111.out))
        (try simp only [Act.put, ub, uc, ud])
        go_cut [44] (fun v44 wc => ∃ (kq : Nat) (x44_9 : Bool), v44 = .bool x44_9 ∧ z1o (z10.j2 kq x3_2 x44_9 a0_0 l0_1 ((rd_T84 l0_1 x3_2).f0) ((rd_T84 l0_1 x3_2).f1) ((rd_T84 l0_1 x3_2).f2) = some r) ∧ z1o (kq ≤ k2) ∧ z1o (wc.heap[gb109]? = some (.cells #[.string a0_0, (.slice (some ad110) l0_1.length c0_1)] 31 (0, 0))) ∧ z1o (wc.heap[gb111]? = some (.cells #[.string ((rd_T84 l0_1 x3_2).f0), (.slice A110_1 ((rd_T84 l0_1 x3_2).f1).length c110_1), (.slice A110_2 ((rd_T84 l0_1 x3_2).f2).length c110_2)] 84 (0, 0))) ∧ z1o (Below w.heap.size w wc))
        case first =>
         have H := HC10.out
         clear HC10
         by_cases c15 : (((rd_T84 l0_1 x3_2).f0).size : Int) > 65536
         ·rw [if_pos c15] at H
          have c15b0 : decide (65536 < (((rd_T84 l0_1 x3_2).f0).size : Int)) = true := decide_eq_true c15
          have c15b1 : decide (65536 < ((rd_T84 l0_1 x3_2).f0).size) = true := decide_eq_true (by omega)
          clear c15
          (first | rw [c15b0] | (simp only [zn, zo]; rw [c15b0]) | skip)
          have H' := z1o.mk H
          clear H
          have hnb16 := NB111_109.out
          have hnc16 := NB109_111.out
          obtain ⟨hcz17_0, hcz17_1, hcz17_2⟩ := cbk3 BK111.out
          obtain ⟨hfz17_0, hfz17_1, hfz17_2⟩ := cbf3 BK111.out
          go_wp2
          go_meet
          case rel => exact ⟨_, (true), (by first | rfl | (simp; done) | (simp [*]; done)), H', ⟨by have := HJ1.out; have := HK2.out; first | omega | exact um _⟩, ⟨by (with_reducible repeat (first | refine z8 ?_ _ | refine z9 ?_ | refine z7 ?_ _)); refine ze ?_ NB109_111.out _; (with_reducible repeat (first | refine z8 ?_ _ | refine z9 ?_ | refine z7 ?_ _)); refine ze ?_ NB109_111.out _; (with_reducible repeat (first | refine z8 ?_ _ | refine z9 ?_ | refine z7 ?_ _)); refine ze ?_ NB109_111.out _; (with_reducible repeat (first | refine z8 ?_ _ | refine z9 ?_ | refine z7 ?_ _)); exact BK109.out⟩, ⟨by (with_reducible repeat (first | refine z8 ?_ _ | refine z9 ?_ | refine z7 ?_ _)); refine zd (cs := #[.string ((rd_T84 l0_1 x3_2).f0), .slice A110_1 ((rd_T84 l0_1 x3_2).f1).length c110_1, .slice none 0 0]) ?_ 2 _ rfl; (with_reducible repeat (first | refine z8 ?_ _ | refine z9 ?_ | refine z7 ?_ _)); refine zd (cs := #[.string ((rd_T84 l0_1 x3_2).f0), .slice none 0 0, .slice none 0 0]) ?_ 1 _ rfl; (with_reducible repeat (first | refine z8 ?_ _ | refine z9 ?_ | refine z7 ?_ _)); refine zd (cs := #[.string (⟨#[]⟩ : ByteArray), .slice none 0 0, .slice none 0 0]) ?_ 0 _ rfl; (with_reducible repeat (first | refine z8 ?_ _ | refine z9 ?_ | refine z7 ?_ _)); exact BK111.out⟩, ⟨yo⟩⟩
         ·rw [if_neg c15] at H
          have c15b0 : decide (65536 < (((rd_T84 l0_1 x3_2).f0).size : Int)) = false := decide_eq_false c15
          have c15b1 : decide (65536 < ((rd_T84 l0_1 x3_2).f0).size) = false := decide_eq_false (by omega)
          clear c15
          (first | rw [c15b0] | (simp only [zn, zo]; rw [c15b0]) | skip)
          by_cases c18 : (((rd_T84 l0_1 x3_2).f1).length : Int) > 4096
          ·rw [if_pos c18] at H
           have c18b0 : decide (4096 < (((rd_T84 l0_1 x3_2).f1).length : Int)) = true := decide_eq_true c18
           have c18b1 : decide (4096 < ((rd_T84 l0_1 x3_2).f1).length) = true := decide_eq_true (by omega)
           clear c18
           have H' := z1o.mk H
           clear H
           have hnb19 := NB111_109.out
           have hnc19 := NB109_111.out
           obtain ⟨hcz20_0, hcz20_1, hcz20_2⟩ := cbk3 BK111.out
           obtain ⟨hfz20_0, hfz20_1, hfz20_2⟩ := cbf3 BK111.out
           go_wp2
           go_meet
           case rel => exact ⟨_, (true), (by first | rfl | (simp; done) | (simp [*]; done)), H', ⟨by have := HJ1.out; have := HK2.out; first | omega | exact um _⟩, ⟨by (with_reducible repeat (first | refine z8 ?_ _ | refine z9 ?_ | refine z7 ?_ _)); refine ze ?_ NB109_111.out _; (with_reducible repeat (first | refine z8 ?_ _ | refine z9 ?_ | refine z7 ?_ _)); refine ze ?_ NB109_111.out _; (with_reducible repeat (first | refine z8 ?_ _ | refine z9 ?_ | refine z7 ?_ _)); refine ze ?_ NB109_111.out _; (with_reducible repeat (first | refine z8 ?_ _ | refine z9 ?_ | refine z7 ?_ _)); exact BK109.out⟩, ⟨by (with_reducible repeat (first | refine z8 ?_ _ | refine z9 ?_ | refine z7 ?_ _)); refine zd (cs := #[.string ((rd_T84 l0_1 x3_2).f0), .slice A110_1 ((rd_T84 l0_1 x3_2).f1).length c110_1, .slice none 0 0]) ?_ 2 _ rfl; (with_reducible repeat (first | refine z8 ?_ _ | refine z9 ?_ | refine z7 ?_ _)); refine zd (cs := #[.string ((rd_T84 l0_1 x3_2).f0), .slice none 0 0, .slice none 0 0]) ?_ 1 _ rfl; (with_reducible repeat (first | refine z8 ?_ _ | refine z9 ?_ | refine z7 ?_ _)); refine zd (cs := #[.string (⟨#[]⟩ : ByteArray), .slice none 0 0, .slice none 0 0]) ?_ 0 _ rfl; (with_reducible repeat (first | refine z8 ?_ _ | refine z9 ?_ | refine z7 ?_ _)); exact BK111.out⟩, ⟨yo⟩⟩
          ·rw [if_neg c18] at H
           have c18b0 : decide (4096 < (((rd_T84 l0_1 x3_2).f1).length : Int)) = false := decide_eq_false c18
           have c18b1 : decide (4096 < ((rd_T84 l0_1 x3_2).f1).length) = false := decide_eq_false (by omega)
           clear c18
           have H' := z1o.mk H
           clear H
           have hnb21 := NB111_109.out
           have hnc21 := NB109_111.out
           obtain ⟨hcz22_0, hcz22_1, hcz22_2⟩ := cbk3 BK111.out
           obtain ⟨hfz22_0, hfz22_1, hfz22_2⟩ := cbf3 BK111.out
           go_wp2
           go_meet
           case rel => exact ⟨_, (decide ((((rd_T84 l0_1 x3_2).f2).length : Int) > 4096)), (by first | rfl | (simp; done) | (simp [*]; done)), H', ⟨by have := HJ1.out; have := HK2.out; first | omega | exact um _⟩, ⟨by (with_reducible repeat (first | refine z8 ?_ _ | refine z9 ?_ | refine z7 ?_ _)); refine ze ?_ NB109_111.out _; (with_reducible repeat (first | refine z8 ?_ _ | refine z9 ?_ | refine z7 ?_ _)); refine ze ?_ NB109_111.out _; (with_reducible repeat (first | refine z8 ?_ _ | refine z9 ?_ | refine z7 ?_ _)); refine ze ?_ NB109_111.out _; (with_reducible repeat (first | refine z8 ?_ _ | refine z9 ?_ | refine z7 ?_ _)); exact BK109.out⟩, ⟨by (with_reducible repeat (first | refine z8 ?_ _ | refine z9 ?_ | refine z7 ?_ _)); refine zd (cs := #[.string ((rd_T84 l0_1 x3_2).f0), .slice A110_1 ((rd_T84 l0_1 x3_2).f1).length c110_1, .slice none 0 0]) ?_ 2 _ rfl; (with_reducible repeat (first | refine z8 ?_ _ | refine z9 ?_ | refine z7 ?_ _)); refine zd (cs := #[.string ((rd_T84 l0_1 x3_2).f0), .slice none 0 0, .slice none 0 0]) ?_ 1 _ rfl; (with_reducible repeat (first | refine z8 ?_ _ | refine z9 ?_ | refine z7 ?_ _)); refine zd (cs := #[.string (⟨#[]⟩ : ByteArray), .slice none 0 0, .slice none 0 0]) ?_ 0 _ rfl; (with_reducible repeat (first | refine z8 ?_ _ | refine z9 ?_ | refine z7 ?_ _)); exact BK111.out⟩, ⟨yo⟩⟩
        case rest =>
         clear HC10
         try clear c1
         try clear p1
         try clear q1
         try clear hx1
         try clear c2
         try clear p2
         try clear c4
         try clear c4b0
         try clear c4b1
         try clear c7
         try clear c8
         try clear c8b0
         try clear c9
         try clear c9b0
         try clear c11
         try clear p11
         try clear q11
         try clear hx11
         try clear c13
         try clear c15
         try clear c15b0
         try clear c15b1
         try clear c16
         try clear c18
         try clear c18b0
         try clear c18b1
         try clear c19
         try clear c21
         try clear hcz11_0
         try clear hcz11_1
         try clear hcz14_0
         try clear hcz14_1
         try clear hcz14_2
         try clear hcz17_0
         try clear hcz17_1
         try clear hcz17_2
         try clear hcz20_0
         try clear hcz20_1
         try clear hcz20_2
         try clear hcz22_0
         try clear hcz22_1
         try clear hcz22_2
         try clear hcz5_0
         try clear hcz5_1
         try clear hcz6_0
         try clear hcz6_1
         try clear hfz11_0
         try clear hfz11_1
         try clear hfz14_0
         try clear hfz14_1
         try clear hfz14_2
         try clear hfz17_0
         try clear hfz17_1
         try clear hfz17_2
         try clear hfz20_0
         try clear hfz20_1
         try clear hfz20_2
         try clear hfz22_0
         try clear hfz22_1
         try clear hfz22_2
         try clear hfz5_0
         try clear hfz5_1
         try clear hfz6_0
         try clear hfz6_1
         try clear hx110_0
         try clear hx110_1
         try clear hx110_2
         try clear p110
         try clear p2
         try clear q110
         obtain ⟨kq, x44_9, rfl, HA, HJ9, BK109, BK111, HB⟩ := hcut
         cases kq with
         | zero => exact absurd HA.out (by simp [z10.j2])
         | succ kj9 =>
          have H := HA.out
          clear HA
          simp only [z10.j2] at H
          by_cases c23 : x44_9 = true
          ·subst c23
           have H1 : (some false) = some r := by rw [if_pos rfl] at H; exact H
           clear H
           have H := H1
           clear H1
           obtain rfl := Option.some.inj H
           go_wp2
           go_ret
           exact ⟨by first | rfl | (simp [zm, zl] <;> rfl) | (simp [*, zm, zl] <;> rfl), yo⟩
          ·replace c23 := Bool.eq_false_iff.mpr c23
           subst c23
           have H1 : (z10.l1 kj9 x3_2 0 a0_0 l0_1 ((rd_T84 l0_1 x3_2).f0) ((rd_T84 l0_1 x3_2).f1) ((rd_T84 l0_1 x3_2).f2)) = some r := by rw [if_neg (show ¬ (false = true) by decide)] at H; exact H
           clear H
           have H := H1
           clear H1
           have H' := z1o.mk H
           clear H
           go_wp2
           go_loopg [5] kj9 (fun kq v5 w' => ∃ (x5_4 : Int), v5 = .int .i64 x5_4 ∧ z1o (z10.l1 kq x3_2 x5_4 a0_0 l0_1 ((rd_T84 l0_1 x3_2).f0) ((rd_T84 l0_1 x3_2).f1) ((rd_T84 l0_1 x3_2).f2) = some r) ∧ z1o (kq ≤ kj9) ∧ z1o (w'.heap[gb109]? = some (.cells #[.string a0_0, (.slice (some ad110) l0_1.length c0_1)] 31 (0, 0))) ∧ z1o (w'.heap[gb111]? = some (.cells #[.string ((rd_T84 l0_1 x3_2).f0), (.slice A110_1 ((rd_T84 l0_1 x3_2).f1).length c110_1), (.slice A110_2 ((rd_T84 l0_1 x3_2).f2).length c110_2)] 84 (0, 0))) ∧ z1o (Below w.heap.size w w'))
           case atStart => exact ⟨(0), (by first | rfl | (simp; done) | (simp [*]; done)), H', ⟨um _⟩, ⟨y1e⟩, ⟨y29⟩, ⟨yo⟩⟩
           case round =>
            clear H'
            try clear c1
            try clear p1
            try clear q1
            try clear hx1
            try clear c2
            try clear p2
            try clear c4
            try clear c4b0
            try clear c4b1
            try clear c7
            try clear c8
            try clear c8b0
            try clear c9
            try clear c9b0
            try clear c11
            try clear p11
            try clear q11
            try clear hx11
            try clear c13
            try clear c15
            try clear c15b0
            try clear c15b1
            try clear c16
            try clear c18
            try clear c18b0
            try clear c18b1
            try clear c19
            try clear c21
            try clear c23
            try clear hcz11_0
            try clear hcz11_1
            try clear hcz14_0
            try clear hcz14_1
            try clear hcz14_2
            try clear hcz17_0
            try clear hcz17_1
            try clear hcz17_2
            try clear hcz20_0
            try clear hcz20_1
            try clear hcz20_2
            try clear hcz22_0
            try clear hcz22_1
            try clear hcz22_2
            try clear hcz5_0
            try clear hcz5_1
            try clear hcz6_0
            try clear hcz6_1
            try clear hfz11_0
            try clear hfz11_1
            try clear hfz14_0
            try clear hfz14_1
            try clear hfz14_2
            try clear hfz17_0
            try clear hfz17_1
            try clear hfz17_2
            try clear hfz20_0
            try clear hfz20_1
            try clear hfz20_2
            try clear hfz22_0
            try clear hfz22_1
            try clear hfz22_2
            try clear hfz5_0
            try clear hfz5_1
            try clear hfz6_0
            try clear hfz6_1
            try clear hx110_0
            try clear hx110_1
            try clear hx110_2
            try clear p1
            try clear p11
            try clear p110
            try clear p2
            try clear q1
            try clear q11
            try clear q110
            obtain ⟨x5_4, rfl, HA, HK4, BK109, BK111, HB⟩ := hrel
            cases gk with
            | zero => exact absurd HA.out (by simp [z10.l1])
            | succ k4 =>
             have H := HA.out
             clear HA
             simp only [z10.l1] at H
             by_cases c24 : x5_4 < (((rd_T84 l0_1 x3_2).f1).length : Int)
             ·rw [if_pos c24] at H
              have c24b0 : decide (x5_4 < (((rd_T84 l0_1 x3_2).f1).length : Int)) = true := decide_eq_true c24
              clear c24
              by_cases c25 : 0 ≤ x5_4
              ·rw [if_pos c25] at H
               have c25b0 : decide (0 ≤ x5_4) = true := decide_eq_true c25
               clear c25
               by_cases c26 : ((rdOf ByteArray.empty ((rd_T84 l0_1 x3_2).f1) x5_4).size : Int) > 65536
               ·rw [if_pos c26] at H
                have c26b0 : decide (65536 < ((rdOf ByteArray.empty ((rd_T84 l0_1 x3_2).f1) x5_4).size : Int)) = true := decide_eq_true c26
                have c26b1 : decide (65536 < (rdOf ByteArray.empty ((rd_T84 l0_1 x3_2).f1) x5_4).size) = true := decide_eq_true (by omega)
                clear c26
                obtain rfl := Option.some.inj H
                have hnb27 := NB111_109.out
                have hnc27 := NB109_111.out
                obtain ⟨hcz28_0, hcz28_1, hcz28_2⟩ := cbk3 BK111.out
                obtain ⟨hfz28_0, hfz28_1, hfz28_2⟩ := cbf3 BK111.out
                have p112 : 0 ≤ (x5_4 : Int) := of_decide_eq_true (by first | (with_reducible assumption) | assumption)
                have q112 : x5_4 < (((rd_T84 l0_1 x3_2).f1).length : Int) := of_decide_eq_true (by first | (with_reducible assumption) | assumption)
                obtain ⟨ad112, e112, hx112_0⟩ := Kd.at_string HR110_1.out x5_4 p112 q112
                cases e112
                replace hx112_0 := (HB.out.cell (ua w _ hx112_0)).trans hx112_0
                replace p112 := eq_true p112
                replace q112 := eq_true q112
                go_wp2
                go_ret
                exact ⟨by first | rfl | (simp [zm, zl] <;> rfl) | (simp [*, zm, zl] <;> rfl), yo⟩
               ·rw [if_neg c26] at H
                have c26b0 : decide (65536 < ((rdOf ByteArray.empty ((rd_T84 l0_1 x3_2).f1) x5_4).size : Int)) = false := decide_eq_false c26
                have c26b1 : decide (65536 < (rdOf ByteArray.empty ((rd_T84 l0_1 x3_2).f1) x5_4).size) = false := decide_eq_false (by omega)
                clear c26
                have H' := z1o.mk H
                clear H
                have hnb29 := NB111_109.out
                have hnc29 := NB109_111.out
                obtain ⟨hcz30_0, hcz30_1, hcz30_2⟩ := cbk3 BK111.out
                obtain ⟨hfz30_0, hfz30_1, hfz30_2⟩ := cbf3 BK111.out
                have p112 : 0 ≤ (x5_4 : Int) := of_decide_eq_true (by first | (with_reducible assumption) | assumption)
                have q112 : x5_4 < (((rd_T84 l0_1 x3_2).f1).length : Int) := of_decide_eq_true (by first | (with_reducible assumption) | assumption)
                obtain ⟨ad112, e112, hx112_0⟩ := Kd.at_string HR110_1.out x5_4 p112 q112
                cases e112
                replace hx112_0 := (HB.out.cell (ua w _ hx112_0)).trans hx112_0
                replace p112 := eq_true p112
                replace q112 := eq_true q112
                go_wp2
                go_roundg k4
                case measure => have := HJ1.out; have := HK2.out; have := HJ9.out; have := HK4.out; omega
                case rel => exact ⟨(wrap64 (x5_4 + 1)), (by first | rfl | (simp; done) | (simp [*]; done)), H', ⟨by have := HJ1.out; have := HK2.out; have := HJ9.out; have := HK4.out; omega⟩, ⟨y1e⟩, ⟨y29⟩, ⟨yo⟩⟩
              ·rw [if_neg c25] at H
               exact absurd H (by simp)
             ·rw [if_neg c24] at H
              have c24b0 : decide (x5_4 < (((rd_T84 l0_1 x3_2).f1).length : Int)) = false := decide_eq_false c24
              clear c24
              have H' := z1o.mk H
              clear H
              have hnb31 := NB111_109.out
              have hnc31 := NB109_111.out
              obtain ⟨hcz32_0, hcz32_1, hcz32_2⟩ := cbk3 BK111.out
              obtain ⟨hfz32_0, hfz32_1, hfz32_2⟩ := cbf3 BK111.out
              go_wp2
              go_loopg [6] k4 (fun kq v6 w' => ∃ (x6_5 : Int), v6 = .int .i64 x6_5 ∧ z1o (z10.l2 kq x3_2 x6_5 a0_0 l0_1 ((rd_T84 l0_1 x3_2).f0) ((rd_T84 l0_1 x3_2).f1) ((rd_T84 l0_1 x3_2).f2) = some r) ∧ z1o (kq ≤ k4) ∧ z1o (w'.heap[gb109]? = some (.cells #[.string a0_0, (.slice (some ad110) l0_1.length c0_1)] 31 (0, 0))) ∧ z1o (w'.heap[gb111]? = some (.cells #[.string ((rd_T84 l0_1 x3_2).f0), (.slice A110_1 ((rd_T84 l0_1 x3_2).f1).length c110_1), (.slice A110_2 ((rd_T84 l0_1 x3_2).f2).length c110_2)] 84 (0, 0))) ∧ z1o (Below w.heap.size w w'))
              case atStart => exact ⟨(0), (by first | rfl | (simp; done) | (simp [*]; done)), H', ⟨um _⟩, ⟨y1e⟩, ⟨y29⟩, ⟨yo⟩⟩
              case round =>
               clear H'
               try clear c1
               try clear p1
               try clear q1
               try clear hx1
               try clear c2
               try clear p2
               try clear c3
               try clear c4
               try clear c4b0
               try clear c4b1
               try clear p6
               try clear c7
               try clear c8
               try clear c8b0
               try clear c9
               try clear c9b0
               try clear c11
               try clear p11
               try clear q11
               try clear hx11
               try clear c13
               try clear c15
               try clear c15b0
               try clear c15b1
               try clear c16
               try clear c18
               try clear c18b0
               try clear c18b1
               try clear c19
               try clear c21
               try clear c23
               try clear c24
               try clear c24b0
               try clear c25
               try clear c25b0
               try clear c26
               try clear c26b0
               try clear c26b1
               try clear c27
               try clear c29
               try clear c31
               try clear hcz11_0
               try clear hcz11_1
               try clear hcz14_0
               try clear hcz14_1
               try clear hcz14_2
               try clear hcz17_0
               try clear hcz17_1
               try clear hcz17_2
               try clear hcz20_0
               try clear hcz20_1
               try clear hcz20_2
               try clear hcz22_0
               try clear hcz22_1
               try clear hcz22_2
               try clear hcz28_0
               try clear hcz28_1
               try clear hcz28_2
               try clear hcz30_0
               try clear hcz30_1
               try clear hcz30_2
               try clear hcz32_0
               try clear hcz32_1
               try clear hcz32_2
               try clear hcz5_0
               try clear hcz5_1
               try clear hcz6_0
               try clear hcz6_1
               try clear hfz11_0
               try clear hfz11_1
               try clear hfz14_0
               try clear hfz14_1
               try clear hfz14_2
               try clear hfz17_0
               try clear hfz17_1
               try clear hfz17_2
               try clear hfz20_0
               try clear hfz20_1
               try clear hfz20_2
               try clear hfz22_0
               try clear hfz22_1
               try clear hfz22_2
               try clear hfz28_0
               try clear hfz28_1
               try clear hfz28_2
               try clear hfz30_0
               try clear hfz30_1
               try clear hfz30_2
               try clear hfz32_0
               try clear hfz32_1
               try clear hfz32_2
               try clear hfz5_0
               try clear hfz5_1
               try clear hfz6_0
               try clear hfz6_1
               try clear hx110_0
               try clear hx110_1
               try clear hx110_2
               try clear hx112_0
               try clear p1
               try clear p11
               try clear p110
               try clear p112
               try clear p2
               try clear q1
               try clear q11
               try clear q110
               try clear q112
               obtain ⟨x6_5, rfl, HA, HK5, BK109, BK111, HB⟩ := hrel
               cases gk with
               | zero => exact absurd HA.out (by simp [z10.l2])
               | succ k5 =>
                have H := HA.out
                clear HA
                simp only [z10.l2] at H
                by_cases c33 : x6_5 < (((rd_T84 l0_1 x3_2).f2).length : Int)
                ·rw [if_pos c33] at H
                 have c33b0 : decide (x6_5 < (((rd_T84 l0_1 x3_2).f2).length : Int)) = true := decide_eq_true c33
                 clear c33
                 by_cases c34 : 0 ≤ x6_5
                 ·rw [if_pos c34] at H
                  have c34b0 : decide (0 ≤ x6_5) = true := decide_eq_true c34
                  clear c34
                  by_cases c35 : (rd ((rd_T84 l0_1 x3_2).f2) x6_5) < (-1000000000000)
                  ·rw [if_pos c35] at H
                   have c35b0 : decide ((rd ((rd_T84 l0_1 x3_2).f2) x6_5) < (-1000000000000)) = true := decide_eq_true c35
                   clear c35
                   obtain rfl := Option.some.inj H
                   have hnb36 := NB111_109.out
                   have hnc36 := NB109_111.out
                   obtain ⟨hcz37_0, hcz37_1, hcz37_2⟩ := cbk3 BK111.out
                   obtain ⟨hfz37_0, hfz37_1, hfz37_2⟩ := cbf3 BK111.out
                   have p113 : 0 ≤ (x6_5 : Int) := of_decide_eq_true (by first | (with_reducible assumption) | assumption)
                   have q113 : x6_5 < (((rd_T84 l0_1 x3_2).f2).length : Int) := of_decide_eq_true (by first | (with_reducible assumption) | assumption)
                   obtain ⟨ad113, e113, hx113_0⟩ := Kd.at_int HR110_2.out x6_5 p113 q113
                   cases e113
                   replace hx113_0 := (HB.out.cell (ua w _ hx113_0)).trans hx113_0
                   replace p113 := eq_true p113
                   replace q113 := eq_true q113
                   go_wp2
                   go_ret
                   exact ⟨by first | rfl | (simp [zm, zl] <;> rfl) | (simp [*, zm, zl] <;> rfl), yo⟩
                  ·rw [if_neg c35] at H
                   have c35b0 : decide ((rd ((rd_T84 l0_1 x3_2).f2) x6_5) < (-1000000000000)) = false := decide_eq_false c35
                   clear c35
                   by_cases c38 : (rd ((rd_T84 l0_1 x3_2).f2) x6_5) > 1000000000000
                   ·rw [if_pos c38] at H
                    have c38b0 : decide (1000000000000 < (rd ((rd_T84 l0_1 x3_2).f2) x6_5)) = true := decide_eq_true c38
                    clear c38
                    obtain rfl := Option.some.inj H
                    have hnb39 := NB111_109.out
                    have hnc39 := NB109_111.out
                    obtain ⟨hcz40_0, hcz40_1, hcz40_2⟩ := cbk3 BK111.out
                    obtain ⟨hfz40_0, hfz40_1, hfz40_2⟩ := cbf3 BK111.out
                    have p113 : 0 ≤ (x6_5 : Int) := of_decide_eq_true (by first | (with_reducible assumption) | assumption)
                    have q113 : x6_5 < (((rd_T84 l0_1 x3_2).f2).length : Int) := of_decide_eq_true (by first | (with_reducible assumption) | assumption)
                    obtain ⟨ad113, e113, hx113_0⟩ := Kd.at_int HR110_2.out x6_5 p113 q113
                    cases e113
                    replace hx113_0 := (HB.out.cell (ua w _ hx113_0)).trans hx113_0
                    replace p113 := eq_true p113
                    replace q113 := eq_true q113
                    have p114 : 0 ≤ (x6_5 : Int) := of_decide_eq_true (by first | (with_reducible assumption) | assumption)
                    have q114 : x6_5 < (((rd_T84 l0_1 x3_2).f2).length : Int) := of_decide_eq_true (by first | (with_reducible assumption) | assumption)
                    obtain ⟨ad114, e114, hx114_0⟩ := Kd.at_int HR110_2.out x6_5 p114 q114
                    obtain rfl : ad113 = ad114 := (by injection e114)
                    replace hx114_0 := (HB.out.cell (ua w _ hx114_0)).trans hx114_0
                    replace p114 := eq_true p114
                    replace q114 := eq_true q114
                    go_wp2
                    go_ret
                    exact ⟨by first | rfl | (simp [zm, zl] <;> rfl) | (simp [*, zm, zl] <;> rfl), yo⟩
                   ·rw [if_neg c38] at H
                    have c38b0 : decide (1000000000000 < (rd ((rd_T84 l0_1 x3_2).f2) x6_5)) = false := decide_eq_false c38
                    clear c38
                    have H' := z1o.mk H
                    clear H
                    have hnb41 := NB111_109.out
                    have hnc41 := NB109_111.out
                    obtain ⟨hcz42_0, hcz42_1, hcz42_2⟩ := cbk3 BK111.out
                    obtain ⟨hfz42_0, hfz42_1, hfz42_2⟩ := cbf3 BK111.out
                    have p113 : 0 ≤ (x6_5 : Int) := of_decide_eq_true (by first | (with_reducible assumption) | assumption)
                    have q113 : x6_5 < (((rd_T84 l0_1 x3_2).f2).length : Int) := of_decide_eq_true (by first | (with_reducible assumption) | assumption)
                    obtain ⟨ad113, e113, hx113_0⟩ := Kd.at_int HR110_2.out x6_5 p113 q113
                    cases e113
                    replace hx113_0 := (HB.out.cell (ua w _ hx113_0)).trans hx113_0
                    replace p113 := eq_true p113
                    replace q113 := eq_true q113
                    have p114 : 0 ≤ (x6_5 : Int) := of_decide_eq_true (by first | (with_reducible assumption) | assumption)
                    have q114 : x6_5 < (((rd_T84 l0_1 x3_2).f2).length : Int) := of_decide_eq_true (by first | (with_reducible assumption) | assumption)
                    obtain ⟨ad114, e114, hx114_0⟩ := Kd.at_int HR110_2.out x6_5 p114 q114
                    obtain rfl : ad113 = ad114 := (by injection e114)
                    replace hx114_0 := (HB.out.cell (ua w _ hx114_0)).trans hx114_0
                    replace p114 := eq_true p114
                    replace q114 := eq_true q114
                    go_wp2
                    go_roundg k5
                    case measure => have := HJ1.out; have := HK2.out; have := HJ9.out; have := HK4.out; have := HK5.out; omega
                    case rel => exact ⟨(wrap64 (x6_5 + 1)), (by first | rfl | (simp; done) | (simp [*]; done)), H', ⟨by have := HJ1.out; have := HK2.out; have := HJ9.out; have := HK4.out; have := HK5.out; omega⟩, ⟨y1e⟩, ⟨y29⟩, ⟨yo⟩⟩
                 ·rw [if_neg c34] at H
                  exact absurd H (by simp)
                ·rw [if_neg c33] at H
                 have c33b0 : decide (x6_5 < (((rd_T84 l0_1 x3_2).f2).length : Int)) = false := decide_eq_false c33
                 clear c33
                 have H' := z1o.mk H
                 clear H
                 have hnb43 := NB111_109.out
                 have hnc43 := NB109_111.out
                 obtain ⟨hcz44_0, hcz44_1, hcz44_2⟩ := cbk3 BK111.out
                 obtain ⟨hfz44_0, hfz44_1, hfz44_2⟩ := cbf3 BK111.out
                 go_wp2
                 go_roundg k5
                 case measure => have := HJ1.out; have := HK2.out; have := HJ9.out; have := HK4.out; have := HK5.out; omega
                 case rel => exact ⟨(wrap64 (x3_2 + 1)), (by first | rfl | (simp; done) | (simp [*]; done)), H', ⟨by have := HJ1.out; have := HK2.out; have := HJ9.out; have := HK4.out; have := HK5.out; omega⟩, ⟨y1e⟩, ⟨yo⟩⟩
       ·rw [if_neg c9] at H
        exact absurd H (by simp)
      ·rw [if_neg c8] at H
       have c8b0 : decide (x3_2 < (l0_1.length : Int)) = false := decide_eq_false c8
       clear c8
       obtain rfl := Option.some.inj H
       obtain ⟨hcz45_0, hcz45_1⟩ := cbk2 BK109.out
       obtain ⟨hfz45_0, hfz45_1⟩ := cbf2 BK109.out
       go_wp2
       go_ret
       exact ⟨by first | rfl | (simp [zm, zl] <;> rfl) | (simp [*, zm, zl] <;> rfl), y1h⟩
def z16.f : Nat → Int → Option (List Int)
 | 0, _ => none
 | k + 1, a0 => if a0 < 128 then (some (([(a0) % 256] : List Int))) else ((some (([(wrap64 (128 + (Int.tmod a0 128))) % 256] : List Int) : List Int)).bind fun y118 => ((z16.f k (wrap64 (Int.tdiv a0 128))).bind fun t121 => (if y118.length + t121.length < 140737488355328 then (some (y118 ++ t121)) else (none))))
set_option maxHeartbeats 8000000 in
set_option maxRecDepth 100000 in
theorem z16.calls (k : Nat) : ∀ (a0 : Int) (r : List Int) (w : World) (h : z16.f k a0 = some r),
  Calls Try.prog 91 #[.int .i64 a0] w fun e w' => ∃ v0_ : Value, e = .returned (v0_) ∧ Kd.R (Kd.int .u8) 5 w' w.heap.size (fun _ => True) v0_ r ∧ Below w.heap.size w w' := by
 induction k using Nat.strongRecOn with
 | _ k ih =>
 intro a0 r w h
 cases k with
 | zero => exact absurd h (by simp [z16.f])
 | succ k =>
 simp only [z16.f] at h
 have HB := z1o.mk (Below.refl w.heap.size w)
 have H : (if a0 < 128 then (some (([(a0) % 256] : List Int))) else ((some (([(wrap64 (128 + (Int.tmod a0 128))) % 256] : List Int) : List Int)).bind fun y118 => ((z16.f k (wrap64 (Int.tdiv a0 128))).bind fun t121 => (if y118.length + t121.length < 140737488355328 then (some (y118 ++ t121)) else (none))))) = some r := h
 clear h
 by_cases c2 : a0 < 128
 ·rw [if_pos c2] at H
  have c2b0 : decide (a0 < 128) = true := decide_eq_true c2
  clear c2
  obtain ⟨y115, hy115⟩ : ∃ y_ : List Int, y_ = (([(a0) % 256] : List Int)) := ⟨_, rfl⟩
  replace H : (some y115) = some r := by first | (rw [hy115]; with_reducible exact H) | (have H2_ := (uk _ _).symm.trans H; rw [hy115]; with_reducible exact H2_) | (have H2_ := (uk _ _).symm.trans H; with_reducible exact H2_) | with_reducible exact H | (rw [hy115]; exact H) | exact H
  have Ny115 := z1o.mk hy115
  clear hy115
  obtain rfl := Option.some.inj H
  go_enter Try.func91, Try.ntmps91
  go_wp2_with (first | ((with_reducible refine zq (N := 7) rfl ?_); refine Kd.R_lit (Kd.int .u8) _ 5 ?hg (N := 7) ?hd (xs := ([(a0) % 256] : List Int)) (inner := [.int .u8 ((a0) % 256)]) (ok := fun _ => True) (okp := fun _ => True) ?hr ?hp (fun _ hk => hk) trivial (Below.refl _ _) (um _) (by simp) ?_; (case hd => rfl); (case hg => rfl); (case hr => first | (go_simp; done) | (go_simp; rfl)); (case hp => exact (Reps.one (show Kd.M (Kd.int .u8) _ _ _ ((a0) % 256) [.int .u8 ((a0) % 256)] from rfl) (Reps.none _ _))); intro v116 w3 ho4 hb hg_ hnew_; clear hg_ hnew_; (first | rw [← Ny115.out] at ho4 | (simp only [Int.reduceToNat] at ho4; rw [← Ny115.out] at ho4)); have n0_ := z1o.mk (Kd.R_lower ho4 (zc y0)); have n1_ := z1o.mk (za y0 hb); clear HB; have HO117 := n0_; have HB := n1_; clear n0_ n1_; clear hb ho4))
  go_ret
  exact ⟨_, by first | rfl | (simp [zm, zl] <;> rfl) | (simp [*, zm, zl] <;> rfl), by (with_reducible repeat (first | apply Kd.R_alloc | apply Kd.R_drewN | apply Kd.R_drew)); exact HO117.out, y0⟩
 ·rw [if_neg c2] at H
  have c2b0 : decide (a0 < 128) = false := decide_eq_false c2
  clear c2
  obtain ⟨y118, hy118⟩ : ∃ y_ : List Int, y_ = (([(wrap64 (128 + (Int.tmod a0 128))) % 256] : List Int)) := ⟨_, rfl⟩
  replace H : ((z16.f k (wrap64 (Int.tdiv a0 128))).bind fun t121 => (if y118.length + t121.length < 140737488355328 then (some (y118 ++ t121)) else (none))) = some r := by first | (rw [hy118]; with_reducible exact H) | (have H2_ := (uk _ _).symm.trans H; rw [hy118]; with_reducible exact H2_) | (have H2_ := (uk _ _).symm.trans H; with_reducible exact H2_) | with_reducible exact H | (rw [hy118]; exact H) | exact H
  have Ny118 := z1o.mk hy118
  clear hy118
  replace H := ue.mp H
  obtain ⟨t121, A50, H⟩ := H
  replace H : (if y118.length + t121.length < 140737488355328 then (some (y118 ++ t121)) else (none)) = some r := H
  have A5 := z1o.mk A50
  clear A50
  by_cases c6 : y118.length + t121.length < 140737488355328
  ·rw [if_pos c6] at H
   have LMc6 := z1o.mk c6
   clear c6
   obtain ⟨y124, hy124⟩ : ∃ y_ : List Int, y_ = (y118 ++ t121) := ⟨_, rfl⟩
   replace H : (some y124) = some r := by first | (rw [hy124]; with_reducible exact H) | (have H2_ := (uk _ _).symm.trans H; rw [hy124]; with_reducible exact H2_) | (have H2_ := (uk _ _).symm.trans H; with_reducible exact H2_) | with_reducible exact H | (rw [hy124]; exact H) | exact H
   have Ny124 := z1o.mk hy124
   clear hy124
   obtain rfl := Option.some.inj H
   go_enter Try.func91, Try.ntmps91
   go_wp2_with (first | ((with_reducible refine zq (N := 12) rfl ?_); refine Kd.R_lit (Kd.int .u8) _ 5 ?hg (N := 12) ?hd (xs := ([(wrap64 (128 + (Int.tmod a0 128))) % 256] : List Int)) (inner := [.int .u8 ((wrap64 (128 + (Int.tmod a0 128))) % 256)]) (ok := fun _ => True) (okp := fun _ => True) ?hr ?hp (fun _ hk => hk) trivial (Below.refl _ _) (um _) (by simp) ?_; (case hd => rfl); (case hg => rfl); (case hr => first | (go_simp; done) | (go_simp; rfl)); (case hp => exact (Reps.one (show Kd.M (Kd.int .u8) _ _ _ ((wrap64 (128 + (Int.tmod a0 128))) % 256) [.int .u8 ((wrap64 (128 + (Int.tmod a0 128))) % 256)] from rfl) (Reps.none _ _))); intro v119 w7 ho8 hb hg_ hnew_; clear hg_ hnew_; (first | rw [← Ny118.out] at ho8 | (simp only [Int.reduceToNat] at ho8; rw [← Ny118.out] at ho8)); have n0_ := z1o.mk (Kd.R_lower ho8 (zc y0)); have n1_ := z1o.mk (za y0 hb); clear HB; have HO120 := n0_; have HB := n1_; clear n0_ n1_; clear hb ho8) | ((with_reducible refine zp (f := 91) rfl ?_); refine goesL_ (some 15) rfl rfl Try.func91 (by kernel_rfl) rfl #[.int .i64 (wrap64 (Int.tdiv a0 128))] rfl (by (try simp only [uh, ui, uj]); first | done | rfl | (simp only [uf, ug]; rfl)) ?_; (with_reducible refine (ih k (by omega) (wrap64 (Int.tdiv a0 128)) t121 _ A5.out).mono ?_); rintro e w9 ⟨v122, rfl, ho0, hb⟩; refine ⟨_, rfl, ?_⟩; have n0_ := z1o.mk (Kd.R_elder' (by (with_reducible repeat (first | apply Kd.R_alloc | apply Kd.R_drewN | apply Kd.R_drew)); exact HO120.out) (Kd.R_base ho0) hb); have n1_ := z1o.mk (Kd.R_lower (Kd.R_new' ho0 (Kd.R_lt (by (with_reducible repeat (first | apply Kd.R_alloc | apply Kd.R_drewN | apply Kd.R_drew)); exact HO120.out))) (zc y0)); have n2_ := z1o.mk (za y0 hb); clear HO120; clear HB; have HO120 := n0_; have HO123 := n1_; have HB := n2_; clear n0_ n1_ n2_; (try clear hb); (try clear hb2); (try clear hk); (try clear hi); (try clear ho0); obtain ⟨Ao11, co11, eo11⟩ := Kd.R_slice HO123.out; subst eo11) | ((with_reducible refine zr (b := .append) (xs := #[.tmp 12, .tmp 15]) rfl ?_); at_builtin; refine Kd.R_append_rows (Kd.int .u8) (w0 := w) w.heap.size rfl (.tmp 12) (.tmp 15) 26 5 (.int .u8 0) 1 rfl Try.underlying26 info5 rfl (by decide) (by omega) v119 y118 t121 _ _ _ (fun k_ => some k_ ≠ (.slice Ao11 t121.length co11 : Value).ownBlock) (fun _ => False) rfl rfl ?aO ?aR (fun _ _ h => h) (fun _ h => h.elim) ?aF ?aB ?aS ?aL ?_; (case aR => repeat (first | exact (Kd.R_reads' HO123.out).2.2 | (with_reducible refine Kd.C_alloc ?_ _) | (with_reducible refine Kd.C_drewN ?_ _) | (with_reducible refine Kd.C_drew ?_))); (case aB => exact y0); (case aF => exact (fun k_ hk => Kd.fresh' (Kd.R_lt (by (with_reducible repeat (first | apply Kd.R_alloc | apply Kd.R_drewN | apply Kd.R_drew)); exact HO123.out)) k_ hk)); (case aO => exact (by (with_reducible repeat (first | apply Kd.R_alloc | apply Kd.R_drewN | apply Kd.R_drew)); exact Kd.R_mono HO120.out (fun _ hk => hk.2))); (case aS => exact (zc y0)); (case aL => have := LMc6.out; omega); intro v125 w10 ho hb hg hat; rw [← Ny124.out] at ho; have n0_ := z1o.mk (Kd.R_after (ok := (fun _ => True)) (by (with_reducible repeat (first | apply Kd.R_alloc | apply Kd.R_drewN | apply Kd.R_drew)); exact HO123.out) hg hat); have n1_ := z1o.mk (hb); have n2_ := z1o.mk (ho); clear HO123; clear HB; clear HO120; have HO123 := n0_; have HB := n1_; have HO126 := n2_; clear n0_ n1_ n2_; clear ho hb hg hat))
   go_ret
   exact ⟨_, by first | rfl | (simp [zm, zl] <;> rfl) | (simp [*, zm, zl] <;> rfl), by (with_reducible repeat (first | apply Kd.R_alloc | apply Kd.R_drewN | apply Kd.R_drew)); exact Kd.R_mono HO126.out (fun _ hk => trivial), y0⟩
  ·rw [if_neg c6] at H
   exact absurd H (by simp)
end Go.Proofs.Ytndjodgcemgpfaa.Q
end
