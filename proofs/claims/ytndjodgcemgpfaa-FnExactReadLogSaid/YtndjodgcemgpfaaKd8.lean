/- A part of the proof: the texts Qxf58, Qh20, Qprd, Qprd2, Qprd3, Qplog, Qplog2, Qxf114, Qh72, packed. -/
import Derived.Test.YtndjodgcemgpfaaKd7

open Go.World renaming block_lt_of_cell? → ua
open List renaming setIfInBounds_toArray → ub, set_cons_zero → uc, set_cons_succ → ud, length_drop → uf, length_take → ug, map_toArray → uh, map_cons → ui, map_nil → uj, length_append → ul
open Option renaming bind_eq_some_iff → ue, bind_some → uk
open Nat renaming le_refl → um
set_option linter.unusedVariables false
set_option linter.unusedSimpArgs false
section
namespace Go.Proofs.Ytndjodgcemgpfaa.Q
open Go.RowKit Go.Proofs.YtndjodgcemgpfaaW.PrintWords Go.Proofs.YtndjodgcemgpfaaW.PrintLast Go.Proofs.YtndjodgcemgpfaaW.PrintMore
attribute [local go_sem] max2_int min2_int max_two min_two max_three min_three max_four min_four
mutual
def zy.l0 : Nat → Int → Int → List Int → Int → Bool → ByteArray → List (S84) → Option (ByteArray × (List (S84)) × Int × Bool)
 | 0, _, _, _, _, _, _, _ => none
 | k + 1, x10, x11, x1000, x1001, x1002, x383000, x383001 => if x11 < x10 then ((z18.f k x1000 x1001 x1002).bind fun bt386 => ((z17.f k x1000 bt386.2.1 bt386.2.2 4096).bind fun bt390 => (zy.l1 k x10 x11 bt390.1 0 x1000 bt390.2.1 bt390.2.2 x383000 x383001 bt386.1 ([] : List ByteArray)))) else (some (x383000, x383001, x1001, x1002))
def zy.l1 : Nat → Int → Int → Int → Int → List Int → Int → Bool → ByteArray → List (S84) → ByteArray → List ByteArray → Option (ByteArray × (List (S84)) × Int × Bool)
 | 0, _, _, _, _, _, _, _, _, _, _, _ => none
 | k + 1, x10, x11, x17, x18, x1000, x1001, x1002, x383000, x383001, x390000, x390001 => if x18 < x17 then ((z18.f k x1000 x1001 x1002).bind fun bt393 => (if x390001.length < 8796093022208 then (if bt393.2.2 = true then (some (x383000, x383001, bt393.2.1, bt393.2.2)) else (zy.l1 k x10 x11 x17 (wrap64 (x18 + 1)) x1000 bt393.2.1 bt393.2.2 x383000 x383001 x390000 (x390001 ++ [bt393.1]))) else (none))) else ((z17.f k x1000 x1001 x1002 4096).bind fun bt399 => (zy.l2 k x10 x11 bt399.1 0 x1000 bt399.2.1 bt399.2.2 x383000 x383001 x390000 x390001 ([] : List Int)))
def zy.l2 : Nat → Int → Int → Int → Int → List Int → Int → Bool → ByteArray → List (S84) → ByteArray → List ByteArray → List Int → Option (ByteArray × (List (S84)) × Int × Bool)
 | 0, _, _, _, _, _, _, _, _, _, _, _, _ => none
 | k + 1, x10, x11, x34, x35, x1000, x1001, x1002, x383000, x383001, x390000, x390001, x390002 => if x35 < x34 then ((z17.f k x1000 x1001 x1002 2000000000000).bind fun bt405 => (if (Int.tmod bt405.1 2) = 1 then (if x390002.length < 17592186044416 then (if bt405.2.2 = true then (some (x383000, x383001, bt405.2.1, bt405.2.2)) else (zy.l2 k x10 x11 x34 (wrap64 (x35 + 1)) x1000 bt405.2.1 bt405.2.2 x383000 x383001 x390000 x390001 (x390002 ++ [wrap64 (Int.tdiv (wrap64 (-(wrap64 (bt405.1 + 1)))) 2)]))) else (none)) else (if x390002.length < 17592186044416 then (if bt405.2.2 = true then (some (x383000, x383001, bt405.2.1, bt405.2.2)) else (zy.l2 k x10 x11 x34 (wrap64 (x35 + 1)) x1000 bt405.2.1 bt405.2.2 x383000 x383001 x390000 x390001 (x390002 ++ [wrap64 (Int.tdiv bt405.1 2)]))) else (none)))) else (if x383001.length < 2199023255552 then ((some (x383001 ++ [(⟨x390000, x390001, x390002⟩ : S84)] : List (S84))).bind fun y402 => (if x1002 = true then (some (x383000, y402, x1001, x1002)) else (zy.l0 k x10 (wrap64 (x11 + 1)) x1000 x1001 x1002 x383000 y402))) else (none))
end
def zy.f (k : Nat) (s0_0 : List Int) (s0_1 : Int) (s0_2 : Bool) : Option (ByteArray × (List (S84)) × Int × Bool) := (z18.f k s0_0 s0_1 s0_2).bind fun bt379 => ((z17.f k s0_0 bt379.2.1 bt379.2.2 4096).bind fun bt383 => (zy.l0 k bt383.1 0 s0_0 bt383.2.1 bt383.2.2 bt379.1 ([] : List (S84))))
def zy.T7 : Bool × List (List Nat × List Nat) := (true, [([], []), ([0], [0]), ([], []), ([2], [2]), ([3], [3]), ([1, 4, 3], [1, 4]), ([0, 1, 2, 3, 4, 5], []), ([6, 5, 5, 0, 1, 2, 3, 4, 5], [5, 6])])
def zy.B7 : List Nat := [0, 1, 0, 4, 12, 31, 63, 127]
theorem zy.tab7 : rtab .any (opsOf Try.f58 7) = zy.T7 := by kernel_rfl
theorem zy.bits7 : waitsOk zy.T7.2 zy.B7 = true := by kernel_rfl
set_option maxHeartbeats 8000000 in
set_option maxRecDepth 100000 in
theorem zy.calls (k : Nat) (g : Nat) (s0_0 : List Int) (s0_1 : Int) (s0_2 : Bool) (r1 : ByteArray) (r2 : List (S84)) (r3 : Int) (r4 : Bool) (w0 w : World) (hI : z1p w0 w g s0_0 s0_1 s0_2) (hB : Below w0.heap.size w0 w) (h : zy.f k s0_0 s0_1 s0_2 = some (r1, r2, r3, r4)) :
  Calls Try.prog 58 #[.pointer (some ⟨g, 0, none⟩)] w fun e w' => ∃ v1_ : Value, e = .returned (.agg #[.string r1, v1_]) ∧ Kd.S k84 84 w' w.heap.size (fun _ => True) v1_ r2 ∧ z1p w0 w' g s0_0 r3 r4 ∧ Below w0.heap.size w0 w' ∧ z1r w w' g none := by
 have hu31 := Try.underlying31
 have hu84 := Try.underlying84
 have HI0 := z1o.mk hI
 have HK := z1o.mk (z1r.refl w g none)
 have HL := z1o.mk hB.size
 clear hI
 have HW0 := z1o.mk hB.size
 have HB := z1o.mk hB
 clear hB
 have H : ((z18.f k s0_0 s0_1 s0_2).bind fun bt379 => ((z17.f k s0_0 bt379.2.1 bt379.2.2 4096).bind fun bt383 => (zy.l0 k bt383.1 0 s0_0 bt383.2.1 bt383.2.2 bt379.1 ([] : List (S84))))) = some (r1, r2, r3, r4) := h
 clear h
 replace H := ue.mp H
 obtain ⟨⟨t379, t380, t381⟩, A20, H⟩ := H
 replace H : ((z17.f k s0_0 t380 t381 4096).bind fun bt383 => (zy.l0 k bt383.1 0 s0_0 bt383.2.1 bt383.2.2 t379 ([] : List (S84)))) = some (r1, r2, r3, r4) := H
 have A2 := z1o.mk A20
 clear A20
 replace H := ue.mp H
 obtain ⟨⟨t383, t384, t385⟩, A30, H⟩ := H
 replace H : (zy.l0 k t383 0 s0_0 t384 t385 t379 ([] : List (S84))) = some (r1, r2, r3, r4) := H
 have A3 := z1o.mk A30
 clear A30
 have H' := z1o.mk H
 clear H
 go_enter Try.func58, Try.ntmps58
 go_wp2_with (first | ((with_reducible refine zq (N := 2) rfl ?_); refine zv ?hg (N := 2) ?hd (cs := #[.string (⟨#[]⟩ : ByteArray), .slice none 0 0]) (t := 31) ?hr ?_; (case hd => rfl); (case hg => rfl); (case hr => first | (go_simp; done) | (go_simp; rfl)); intro gb378 hg w4 hbox hb; have n0_ := z1o.mk (z1p.below y2e hb); have n1_ := z1o.mk (z1r.trans y9 (z1r.of_below hb g none) (.inl rfl)); have n2_ := z1o.mk (za (by repeat (first | (with_reducible first | exact HB.out | apply z2 | apply z1 | apply z3 | refine z4 ?_ (z1p.ge HI0.out)) | exact HB.out)) hb); have n3_ := z1o.mk (hbox); have n4_ := z1o.mk ((by rw [hg]; exact (keep_size (w := w) (g := g) (row := none) y9) : w.heap.size ≤ gb378)); have n5_ := z1o.mk ((Nat.le_trans HW0.out (by rw [hg]; exact (keep_size (w := w) (g := g) (row := none) y9) : w.heap.size ≤ gb378) : w0.heap.size ≤ gb378)); have n6_ := z1o.mk ((by rw [hg]; exact Nat.ne_of_lt (z1p.lt (show z1p w0 _ g s0_0 s0_1 s0_2 from y2e)) : g ≠ gb378)); have n7_ := z1o.mk ((by rw [hg]; exact Nat.ne_of_gt (z1p.lt (show z1p w0 _ g s0_0 s0_1 s0_2 from y2e)) : gb378 ≠ g)); clear HI0; clear HK; clear HB; have HI0 := n0_; have HK := n1_; have HB := n2_; have BK378 := n3_; have GW378 := n4_; have GE378 := n5_; have NB0_378 := n6_; have NB378_0 := n7_; clear n0_ n1_ n2_ n3_ n4_ n5_ n6_ n7_; clear hb hbox hg) | ((with_reducible refine zp (f := 99) rfl ?_); refine goesL_ (some 7) rfl rfl Try.func99 (by kernel_rfl) rfl #[.pointer (some ⟨g, 0, none⟩)] rfl (by (try simp only [uh, ui, uj]); first | done | rfl | (simp only [uf, ug]; rfl)) ?_; (with_reducible refine (z18.calls k g s0_0 s0_1 s0_2 t379 t380 t381 w0 _ ?side1 ?side2 A2.out).mono ?_); (case side1 => exact y1z); (case side2 => exact y2i); rintro e w5 ⟨rfl, hi, hb, hk⟩; refine ⟨_, rfl, ?_⟩; have n0_ := z1o.mk (z1r.blk hk (g' := gb378) (o := .cells #[.string (⟨#[]⟩ : ByteArray), .slice none 0 0] 31 (0, 0)) ye NB378_0.out (by simp)); have n1_ := z1o.mk (z1r.trans y24 hk (.inl rfl)); have n2_ := z1o.mk (hb); have n3_ := z1o.mk (hi); clear BK378; clear HK; clear HB; clear HI0; have BK378 := n0_; have HK := n1_; have HB := n2_; have HI0 := n3_; clear n0_ n1_ n2_ n3_; (try clear hb); (try clear hb2); (try clear hk); (try clear hi)) | ((with_reducible refine zq (N := 3) rfl ?_); refine zv ?hg (N := 3) ?hd (cs := #[.string (⟨#[]⟩ : ByteArray), .slice none 0 0]) (t := 31) ?hr ?_; (case hd => rfl); (case hg => rfl); (case hr => first | (go_simp; done) | (go_simp; rfl)); intro gb382 hg w6 hbox hb; have n0_ := z1o.mk (z1p.below y1z hb); have n1_ := z1o.mk (zb (g := gb378) (o := .cells #[.string (⟨#[]⟩ : ByteArray), .slice none 0 0] 31 (0, 0)) ye hb); have n2_ := z1o.mk (z1r.trans y24 (z1r.of_below hb g none) (.inl rfl)); have n3_ := z1o.mk (za y2i hb); have n4_ := z1o.mk (hbox); have n5_ := z1o.mk ((by rw [hg]; exact (keep_size (w := w) (g := g) (row := none) y24) : w.heap.size ≤ gb382)); have n6_ := z1o.mk ((Nat.le_trans HW0.out (by rw [hg]; exact (keep_size (w := w) (g := g) (row := none) y24) : w.heap.size ≤ gb382) : w0.heap.size ≤ gb382)); have n7_ := z1o.mk ((by rw [hg]; exact Nat.ne_of_lt (zg (g := gb378) (o := .cells #[.string (⟨#[]⟩ : ByteArray), .slice none 0 0] 31 (0, 0)) ye) : gb378 ≠ gb382)); have n8_ := z1o.mk ((by rw [hg]; exact Nat.ne_of_gt (zg (g := gb378) (o := .cells #[.string (⟨#[]⟩ : ByteArray), .slice none 0 0] 31 (0, 0)) ye) : gb382 ≠ gb378)); have n9_ := z1o.mk ((by rw [hg]; exact Nat.ne_of_lt (z1p.lt (show z1p w0 _ g s0_0 t380 t381 from y1z)) : g ≠ gb382)); have n10_ := z1o.mk ((by rw [hg]; exact Nat.ne_of_gt (z1p.lt (show z1p w0 _ g s0_0 t380 t381 from y1z)) : gb382 ≠ g)); clear HI0; clear BK378; clear HK; clear HB; have HI0 := n0_; have BK378 := n1_; have HK := n2_; have HB := n3_; have BK382 := n4_; have GW382 := n5_; have GE382 := n6_; have NB378_382 := n7_; have NB382_378 := n8_; have NB0_382 := n9_; have NB382_0 := n10_; clear n0_ n1_ n2_ n3_ n4_ n5_ n6_ n7_ n8_ n9_ n10_; clear hb hbox hg; have hnb7 := NB382_378.out; have hnc7 := NB378_382.out; have hnb8 := NB382_0.out; have hnc8 := NB0_382.out; obtain ⟨hcz9_0, hcz9_1⟩ := cbk2 BK382.out; obtain ⟨hfz9_0, hfz9_1⟩ := cbf2 BK382.out) | ((with_reducible refine zp (f := 100) rfl ?_); refine goesL_ (some 10) rfl rfl Try.func100 (by kernel_rfl) rfl #[.pointer (some ⟨g, 0, none⟩), .int .i64 4096] rfl (by (try simp only [uh, ui, uj]); first | done | rfl | (simp only [uf, ug]; rfl)) ?_; (with_reducible refine (z17.calls k g s0_0 t380 t381 4096 t383 t384 t385 w0 _ ?side1 ?side2 A3.out).mono ?_); (case side1 => exact y10); (case side2 => exact y1o); rintro e w10 ⟨rfl, hi, hb, hk⟩; refine ⟨_, rfl, ?_⟩; have n0_ := z1o.mk (z1r.blk hk (g' := gb378) (o := .cells #[.string (⟨#[]⟩ : ByteArray), .slice none 0 0] 31 (0, 0)) (by (with_reducible repeat (first | refine z8 ?_ _ | refine z9 ?_ | refine z7 ?_ _)); refine ze ?_ NB378_382.out _; (with_reducible repeat (first | refine z8 ?_ _ | refine z9 ?_ | refine z7 ?_ _)); refine ze ?_ NB378_382.out _; (with_reducible repeat (first | refine z8 ?_ _ | refine z9 ?_ | refine z7 ?_ _)); exact BK378.out) NB378_0.out (by simp)); have n1_ := z1o.mk (z1r.blk hk (g' := gb382) (o := .cells #[.string t379, .slice none 0 0] 31 (0, 0)) (by (with_reducible repeat (first | refine z8 ?_ _ | refine z9 ?_ | refine z7 ?_ _)); refine zd (cs := #[.string t379, .slice none 0 0]) ?_ 1 _ rfl; (with_reducible repeat (first | refine z8 ?_ _ | refine z9 ?_ | refine z7 ?_ _)); refine zd (cs := #[.string (⟨#[]⟩ : ByteArray), .slice none 0 0]) ?_ 0 _ rfl; (with_reducible repeat (first | refine z8 ?_ _ | refine z9 ?_ | refine z7 ?_ _)); exact BK382.out) NB382_0.out (by simp)); have n2_ := z1o.mk (z1r.trans y18 hk (.inl rfl)); have n3_ := z1o.mk (hb); have n4_ := z1o.mk (hi); clear BK378; clear BK382; clear HK; clear HB; clear HI0; have BK378 := n0_; have BK382 := n1_; have HK := n2_; have HB := n3_; have HI0 := n4_; clear n0_ n1_ n2_ n3_ n4_; (try clear hb); (try clear hb2); (try clear hk); (try clear hi)))
 go_loopg [11] k (fun kq v11 w' => ∃ (x11_1 : Int) (x1001_1 : Int) (x1002_1 : Bool) (x379000_1 : ByteArray) (x383001_1 : List (S84)) (u383001 : Value), v11 = .int .i64 x11_1 ∧ z1o (zy.l0 kq t383 x11_1 s0_0 x1001_1 x1002_1 t379 x383001_1 = some (r1, r2, r3, r4)) ∧ z1o (kq ≤ k) ∧ z1o (Kd.S k84 84 w' w.heap.size (fun _ => True) u383001 x383001_1) ∧ z1o (w'.heap[gb378]? = some (.cells #[.string x379000_1, (.slice none 0 0)] 31 (0, 0))) ∧ z1o (w'.heap[gb382]? = some (.cells #[.string t379, u383001] 31 (0, 0))) ∧ z1o (z1p w0 w' g s0_0 x1001_1 x1002_1) ∧ z1o (z1r w w' g none) ∧ z1o (Below w0.heap.size w0 w'))
 case atStart => exact ⟨(0), (t384), (t385), ((⟨#[]⟩ : ByteArray)), (([] : List (S84))), (.slice none 0 0), (by first | rfl | (simp; done) | (simp [*]; done)), H', ⟨um _⟩, ⟨by first | exact Kd.S_nil _ _ _ _ _ | exact Kd.N_nil _ _ _ _ _ | exact Kd.V_nil _ _ _ _ _ | exact Kd.Q_nil _ _ _ _ _ | exact Kd.R_nil _ _ _ _ _⟩, ⟨ye⟩, ⟨yh⟩, ⟨y10⟩, ⟨y18⟩, ⟨y1o⟩⟩
 case round =>
  clear H'
  try clear c1
  try clear p2
  try clear c5
  try clear c7
  try clear c8
  try clear c9
  try clear c10
  try clear hcz9_0
  try clear hcz9_1
  try clear hfz9_0
  try clear hfz9_1
  obtain ⟨x11_1, x1001_1, x1002_1, x379000_1, x383001_1, u383001, rfl, HA, HK1, HO_383001, BK378, BK382, HI0, HK, HB⟩ := hrel
  cases gk with
  | zero => exact absurd HA.out (by simp [zy.l0])
  | succ k1 =>
   have H := HA.out
   clear HA
   simp only [zy.l0] at H
   by_cases c11 : x11_1 < t383
   ·rw [if_pos c11] at H
    have c11b0 : decide (x11_1 < t383) = true := decide_eq_true c11
    clear c11
    replace H := ue.mp H
    obtain ⟨⟨t386, t387, t388⟩, A120, H⟩ := H
    replace H : ((z17.f k1 s0_0 t387 t388 4096).bind fun bt390 => (zy.l1 k1 t383 x11_1 bt390.1 0 s0_0 bt390.2.1 bt390.2.2 t379 x383001_1 t386 ([] : List ByteArray))) = some (r1, r2, r3, r4) := H
    have A12 := z1o.mk A120
    clear A120
    replace H := ue.mp H
    obtain ⟨⟨t390, t391, t392⟩, A130, H⟩ := H
    replace H : (zy.l1 k1 t383 x11_1 t390 0 s0_0 t391 t392 t379 x383001_1 t386 ([] : List ByteArray)) = some (r1, r2, r3, r4) := H
    have A13 := z1o.mk A130
    clear A130
    have H' := z1o.mk H
    clear H
    go_wp2_with (first | ((with_reducible refine zp (f := 99) rfl ?_); refine goesL_ (some 14) rfl rfl Try.func99 (by kernel_rfl) rfl #[.pointer (some ⟨g, 0, none⟩)] rfl (by (try simp only [uh, ui, uj]); first | done | rfl | (simp only [uf, ug]; rfl)) ?_; (with_reducible refine (z18.calls k1 g s0_0 x1001_1 x1002_1 t386 t387 t388 w0 _ ?side1 ?side2 A12.out).mono ?_); (case side1 => exact y10); (case side2 => exact y1o); rintro e w14 ⟨rfl, hi, hb, hk⟩; refine ⟨_, rfl, ?_⟩; have n0_ := z1o.mk (Kd.S_mono (Kd.S_keep (z1p.apartS (show z1p w0 _ g s0_0 x1001_1 x1002_1 from y10) y1q (by decide)) hk (fun _ h => h.2)) (fun _ h => h.1)); have n1_ := z1o.mk (z1r.blk hk (g' := gb378) (o := .cells #[.string x379000_1, .slice none 0 0] 31 (0, 0)) ye NB378_0.out (by simp)); have n2_ := z1o.mk (z1r.blk hk (g' := gb382) (o := .cells #[.string t379, u383001] 31 (0, 0)) yh NB382_0.out (by simp)); have n3_ := z1o.mk (z1r.trans y18 hk (.inl rfl)); have n4_ := z1o.mk (hb); have n5_ := z1o.mk (hi); clear HO_383001; clear BK378; clear BK382; clear HK; clear HB; clear HI0; have HO_383001 := n0_; have BK378 := n1_; have BK382 := n2_; have HK := n3_; have HB := n4_; have HI0 := n5_; clear n0_ n1_ n2_ n3_ n4_ n5_; (try clear hb); (try clear hb2); (try clear hk); (try clear hi)) | ((with_reducible refine zq (N := 4) rfl ?_); refine zv ?hg (N := 4) ?hd (cs := #[.string (⟨#[]⟩ : ByteArray), .slice none 0 0, .slice none 0 0]) (t := 84) ?hr ?_; (case hd => rfl); (case hg => rfl); (case hr => first | (go_simp; done) | (go_simp; rfl)); intro gb389 hg w15 hbox hb; have n0_ := z1o.mk (Kd.S_below (Kd.S_elderB y1q gb389 (Nat.le_of_eq hg.symm)) hb); have n1_ := z1o.mk (zb (g := gb378) (o := .cells #[.string x379000_1, .slice none 0 0] 31 (0, 0)) ye hb); have n2_ := z1o.mk (zb (g := gb382) (o := .cells #[.string t379, u383001] 31 (0, 0)) yh hb); have n3_ := z1o.mk (z1p.below y10 hb); have n4_ := z1o.mk (z1r.trans y18 (z1r.of_below hb g none) (.inl rfl)); have n5_ := z1o.mk (za y1o hb); have n6_ := z1o.mk (hbox); have n7_ := z1o.mk ((by rw [hg]; exact (keep_size (w := w) (g := g) (row := none) y18) : w.heap.size ≤ gb389)); have n8_ := z1o.mk ((Nat.le_trans HW0.out (by rw [hg]; exact (keep_size (w := w) (g := g) (row := none) y18) : w.heap.size ≤ gb389) : w0.heap.size ≤ gb389)); have n9_ := z1o.mk ((by rw [hg]; exact Nat.ne_of_lt (zg (g := gb378) (o := .cells #[.string x379000_1, .slice none 0 0] 31 (0, 0)) ye) : gb378 ≠ gb389)); have n10_ := z1o.mk ((by rw [hg]; exact Nat.ne_of_gt (zg (g := gb378) (o := .cells #[.string x379000_1, .slice none 0 0] 31 (0, 0)) ye) : gb389 ≠ gb378)); have n11_ := z1o.mk ((by rw [hg]; exact Nat.ne_of_lt (zg (g := gb382) (o := .cells #[.string t379, u383001] 31 (0, 0)) yh) : gb382 ≠ gb389)); have n12_ := z1o.mk ((by rw [hg]; exact Nat.ne_of_gt (zg (g := gb382) (o := .cells #[.string t379, u383001] 31 (0, 0)) yh) : gb389 ≠ gb382)); have n13_ := z1o.mk ((by rw [hg]; exact Nat.ne_of_lt (z1p.lt (show z1p w0 _ g s0_0 t387 t388 from y10)) : g ≠ gb389)); have n14_ := z1o.mk ((by rw [hg]; exact Nat.ne_of_gt (z1p.lt (show z1p w0 _ g s0_0 t387 t388 from y10)) : gb389 ≠ g)); clear HO_383001; clear BK378; clear BK382; clear HI0; clear HK; clear HB; have HO_383001 := n0_; have BK378 := n1_; have BK382 := n2_; have HI0 := n3_; have HK := n4_; have HB := n5_; have BK389 := n6_; have GW389 := n7_; have GE389 := n8_; have NB378_389 := n9_; have NB389_378 := n10_; have NB382_389 := n11_; have NB389_382 := n12_; have NB0_389 := n13_; have NB389_0 := n14_; clear n0_ n1_ n2_ n3_ n4_ n5_ n6_ n7_ n8_ n9_ n10_ n11_ n12_ n13_ n14_; clear hb hbox hg; have hnb16 := NB389_378.out; have hnc16 := NB378_389.out; have hnb17 := NB389_382.out; have hnc17 := NB382_389.out; have hnb18 := NB389_0.out; have hnc18 := NB0_389.out; obtain ⟨hcz19_0, hcz19_1, hcz19_2⟩ := cbk3 BK389.out; obtain ⟨hfz19_0, hfz19_1, hfz19_2⟩ := cbf3 BK389.out) | ((with_reducible refine zp (f := 100) rfl ?_); refine goesL_ (some 17) rfl rfl Try.func100 (by kernel_rfl) rfl #[.pointer (some ⟨g, 0, none⟩), .int .i64 4096] rfl (by (try simp only [uh, ui, uj]); first | done | rfl | (simp only [uf, ug]; rfl)) ?_; (with_reducible refine (z17.calls k1 g s0_0 t387 t388 4096 t390 t391 t392 w0 _ ?side1 ?side2 A13.out).mono ?_); (case side1 => exact y1); (case side2 => exact y5); rintro e w20 ⟨rfl, hi, hb, hk⟩; refine ⟨_, rfl, ?_⟩; have n0_ := z1o.mk (Kd.S_mono (Kd.S_keep (z1p.apartS (show z1p w0 _ g s0_0 t387 t388 from y1) (by (with_reducible repeat (first | apply Kd.S_alloc | apply Kd.S_drewN | apply Kd.S_drew)); exact (Kd.S_mono (Kd.S_far (p := ⟨gb389, 2, none⟩) (Kd.S_far (p := ⟨gb389, 1, none⟩) (Kd.S_far (p := ⟨gb389, 0, none⟩) (Kd.S_mono HO_383001.out (fun k_ hk => (⟨hk, hk.2⟩ : _ ∧ k_ ≠ gb389))) (fun _ hk => hk.2) (.string t386)) (fun _ hk => hk.2) (.slice none 0 0)) (fun _ hk => hk.2) (.slice none 0 0)) (fun _ h_ => h_.1))) (by decide)) hk (fun _ h => h.2)) (fun _ h => h.1)); have n1_ := z1o.mk (z1r.blk hk (g' := gb378) (o := .cells #[.string x379000_1, .slice none 0 0] 31 (0, 0)) (by (with_reducible repeat (first | refine z8 ?_ _ | refine z9 ?_ | refine z7 ?_ _)); refine ze ?_ NB378_389.out _; (with_reducible repeat (first | refine z8 ?_ _ | refine z9 ?_ | refine z7 ?_ _)); refine ze ?_ NB378_389.out _; (with_reducible repeat (first | refine z8 ?_ _ | refine z9 ?_ | refine z7 ?_ _)); refine ze ?_ NB378_389.out _; (with_reducible repeat (first | refine z8 ?_ _ | refine z9 ?_ | refine z7 ?_ _)); exact BK378.out) NB378_0.out (by simp)); have n2_ := z1o.mk (z1r.blk hk (g' := gb382) (o := .cells #[.string t379, u383001] 31 (0, 0)) (by (with_reducible repeat (first | refine z8 ?_ _ | refine z9 ?_ | refine z7 ?_ _)); refine ze ?_ NB382_389.out _; (with_reducible repeat (first | refine z8 ?_ _ | refine z9 ?_ | refine z7 ?_ _)); refine ze ?_ NB382_389.out _; (with_reducible repeat (first | refine z8 ?_ _ | refine z9 ?_ | refine z7 ?_ _)); refine ze ?_ NB382_389.out _; (with_reducible repeat (first | refine z8 ?_ _ | refine z9 ?_ | refine z7 ?_ _)); exact BK382.out) NB382_0.out (by simp)); have n3_ := z1o.mk (z1r.blk hk (g' := gb389) (o := .cells #[.string t386, .slice none 0 0, .slice none 0 0] 84 (0, 0)) (by (with_reducible repeat (first | refine z8 ?_ _ | refine z9 ?_ | refine z7 ?_ _)); refine zd (cs := #[.string t386, .slice none 0 0, .slice none 0 0]) ?_ 2 _ rfl; (with_reducible repeat (first | refine z8 ?_ _ | refine z9 ?_ | refine z7 ?_ _)); refine zd (cs := #[.string t386, .slice none 0 0, .slice none 0 0]) ?_ 1 _ rfl; (with_reducible repeat (first | refine z8 ?_ _ | refine z9 ?_ | refine z7 ?_ _)); refine zd (cs := #[.string (⟨#[]⟩ : ByteArray), .slice none 0 0, .slice none 0 0]) ?_ 0 _ rfl; (with_reducible repeat (first | refine z8 ?_ _ | refine z9 ?_ | refine z7 ?_ _)); exact BK389.out) NB389_0.out (by simp)); have n4_ := z1o.mk (z1r.trans y2 hk (.inl rfl)); have n5_ := z1o.mk (hb); have n6_ := z1o.mk (hi); clear HO_383001; clear BK378; clear BK382; clear BK389; clear HK; clear HB; clear HI0; have HO_383001 := n0_; have BK378 := n1_; have BK382 := n2_; have BK389 := n3_; have HK := n4_; have HB := n5_; have HI0 := n6_; clear n0_ n1_ n2_ n3_ n4_ n5_ n6_; (try clear hb); (try clear hb2); (try clear hk); (try clear hi)))
    go_loopg [18] k1 (fun kq v18 w' => ∃ (x18_2 : Int) (x1001_2 : Int) (x1002_2 : Bool) (x379000_2 : ByteArray) (x390001_2 : List ByteArray) (u390001 : Value), v18 = .int .i64 x18_2 ∧ z1o (zy.l1 kq t383 x11_1 t390 x18_2 s0_0 x1001_2 x1002_2 t379 x383001_1 t386 x390001_2 = some (r1, r2, r3, r4)) ∧ z1o (kq ≤ k1) ∧ z1o (Kd.S k84 84 w' w.heap.size (fun k_ => some k_ ≠ (u390001 : Value).ownBlock ∧ k_ ≠ gb389) u383001 x383001_1) ∧ z1o (Kd.R Kd.string 9 w' w.heap.size (fun _ => True) u390001 x390001_2) ∧ z1o (w'.heap[gb378]? = some (.cells #[.string x379000_2, (.slice none 0 0)] 31 (0, 0))) ∧ z1o (w'.heap[gb382]? = some (.cells #[.string t379, u383001] 31 (0, 0))) ∧ z1o (w'.heap[gb389]? = some (.cells #[.string t386, u390001, (.slice none 0 0)] 84 (0, 0))) ∧ z1o (z1p w0 w' g s0_0 x1001_2 x1002_2) ∧ z1o (z1r w w' g none) ∧ z1o (Below w0.heap.size w0 w'))
    case atStart => exact ⟨(0), (t391), (t392), (x379000_1), (([] : List ByteArray)), (.slice none 0 0), (by first | rfl | (simp; done) | (simp [*]; done)), H', ⟨um _⟩, ⟨by (with_reducible repeat (first | apply Kd.S_alloc | apply Kd.S_drewN | apply Kd.S_drew)); exact Kd.S_mono HO_383001.out (fun _ hk => ⟨(by simp [Value.ownBlock]), hk.2⟩)⟩, ⟨by first | exact Kd.R_nil _ _ _ _ _ | exact Kd.N_nil _ _ _ _ _ | exact Kd.V_nil _ _ _ _ _ | exact Kd.Q_nil _ _ _ _ _ | exact Kd.S_nil _ _ _ _ _⟩, ⟨ye⟩, ⟨yh⟩, ⟨yq⟩, ⟨y1⟩, ⟨y2⟩, ⟨y5⟩⟩
    case round =>
     clear H'
     try clear c1
     try clear p2
     try clear c5
     try clear c7
     try clear c8
     try clear c9
     try clear c10
     try clear c11
     try clear c11b0
     try clear c16
     try clear c17
     try clear c18
     try clear hcz19_0
     try clear hcz19_1
     try clear hcz19_2
     try clear hcz9_0
     try clear hcz9_1
     try clear hfz19_0
     try clear hfz19_1
     try clear hfz19_2
     try clear hfz9_0
     try clear hfz9_1
     try clear p2
     obtain ⟨x18_2, x1001_2, x1002_2, x379000_2, x390001_2, u390001, rfl, HA, HK2, HO_383001, HO_390001, BK378, BK382, BK389, HI0, HK, HB⟩ := hrel
     cases gk with
     | zero => exact absurd HA.out (by simp [zy.l1])
     | succ k2 =>
      have H := HA.out
      clear HA
      simp only [zy.l1] at H
      by_cases c21 : x18_2 < t390
      ·rw [if_pos c21] at H
       have c21b0 : decide (x18_2 < t390) = true := decide_eq_true c21
       clear c21
       replace H := ue.mp H
       obtain ⟨⟨t393, t394, t395⟩, A220, H⟩ := H
       replace H : (if x390001_2.length < 8796093022208 then (if t395 = true then (some (t379, x383001_1, t394, t395)) else (zy.l1 k2 t383 x11_1 t390 (wrap64 (x18_2 + 1)) s0_0 t394 t395 t379 x383001_1 t386 (x390001_2 ++ [t393]))) else (none)) = some (r1, r2, r3, r4) := H
       have A22 := z1o.mk A220
       clear A220
       by_cases c23 : x390001_2.length < 8796093022208
       ·rw [if_pos c23] at H
        have LMc23 := z1o.mk c23
        clear c23
        obtain ⟨y396, hy396⟩ : ∃ y_ : List ByteArray, y_ = (x390001_2 ++ [t393]) := ⟨_, rfl⟩
        replace H : (if t395 = true then (some (t379, x383001_1, t394, t395)) else (zy.l1 k2 t383 x11_1 t390 (wrap64 (x18_2 + 1)) s0_0 t394 t395 t379 x383001_1 t386 y396)) = some (r1, r2, r3, r4) := by first | (rw [hy396]; with_reducible exact H) | (have H2_ := (uk _ _).symm.trans H; rw [hy396]; with_reducible exact H2_) | (have H2_ := (uk _ _).symm.trans H; with_reducible exact H2_) | with_reducible exact H | (rw [hy396]; exact H) | exact H
        have Ny396 := z1o.mk hy396
        clear hy396
        by_cases c24 : t395 = true
        ·subst c24
         have H1 : (some (t379, x383001_1, t394, true)) = some (r1, r2, r3, r4) := by rw [if_pos rfl] at H; exact H
         clear H
         have H := H1
         clear H1
         simp only [Option.some.injEq, Prod.mk.injEq] at H
         obtain ⟨rfl, rfl, rfl, rfl⟩ := H
         try go_wp2
         have n0_ := z1o.mk (Kd.S_drew HO_383001.out)
         have n1_ := z1o.mk (Kd.R_drew HO_390001.out)
         have n2_ := z1o.mk (z9 BK378.out)
         have n3_ := z1o.mk (z9 BK382.out)
         have n4_ := z1o.mk (z9 BK389.out)
         have n5_ := z1o.mk (z1p.drew HI0.out)
         have n6_ := z1o.mk (zk HK.out)
         have n7_ := z1o.mk (z3 HB.out)
         clear HO_383001
         clear HO_390001
         clear BK378
         clear BK382
         clear BK389
         clear HI0
         clear HK
         clear HB
         have HO_383001 := n0_
         have HO_390001 := n1_
         have BK378 := n2_
         have BK382 := n3_
         have BK389 := n4_
         have HI0 := n5_
         have HK := n6_
         have HB := n7_
         clear n0_ n1_ n2_ n3_ n4_ n5_ n6_ n7_
         refine start_ (n := 8) (S := fun w' => w'.cell? ⟨gb389, 0, none⟩ = some (.string t386) ∧ w'.cell? ⟨gb389, 1, none⟩ = some (u390001) ∧ w'.cell? ⟨gb389, 2, none⟩ = some (.slice none 0 0)) (ds := [7]) #[false, false, false, false, false, false, false, false] (by kernel_rfl) rfl rfl ⟨(z6 BK389.out 0).trans rfl, (z6 BK389.out 1).trans rfl, (z6 BK389.out 2).trans rfl⟩ (fun hHeld => ?_); refine with_tabW zy.tab7 zy.bits7 (fun HT_ HW_ => ?_)
         generalize wr.drew = w25 at HO_383001 HO_390001 BK378 BK382 BK389 HI0 HK HB hHeld ⊢
         refine pure_ (i := 0) (N := some 20) (v := ?_) (a' := ?_) #[true, false, false, false, false, false, false, false] rfl rfl (any_of HT_.out (by kernel_rfl)) (fun _ _ _ h => h) (Or.inl ⟨by rfl, ?_⟩) ?_ ?_
         rotate_left
         ·intro w'
          go_simp
          with_reducible rfl
         rotate_left
         ·simp only [Act.put, ub, uc, ud, zn, zo]
          rfl
         refine pure_ (i := 2) (N := some 22) (v := ?_) (a' := ?_) #[true, false, true, false, false, false, false, false] rfl rfl (any_of HT_.out (by kernel_rfl)) (fun _ _ _ h => h) (Or.inl ⟨by rfl, ?_⟩) ?_ ?_
         rotate_left
         ·intro w'
          go_simp
          with_reducible rfl
         rotate_left
         ·simp only [Act.put, ub, uc, ud, zn, zo]
          rfl
         refine take_ (i := 1) (N := some 21) (v := ?_) (a' := ?_) #[true, true, true, false, false, false, false, false] rfl rfl (take_ofW HT_.out HW_.out (by kernel_rfl)) (fun _ _ _ h => h) (Or.inl ⟨by rfl, ?_⟩) hHeld ?_ ?_
         rotate_left
         ·rintro w' ⟨s0, s1, s2⟩
          go_simp
          with_reducible rfl
         rotate_left
         ·simp only [Act.put, ub, uc, ud, zn, zo]
          rfl
         refine one_ (i := 3) (N := some 23) #[true, true, true, true, false, false, false, false] rfl rfl (one_of HT_.out (by kernel_rfl)) (by decide) (fun K hK => ?_)
         refine goes_ Try.func99 (by kernel_rfl) rfl #[.pointer (some ⟨g, 0, none⟩)] (by rfl) rfl rfl (by (try simp only [uh, ui, uj]); first | done | rfl | (simp only [uf, ug]; rfl)) ?_
         with_reducible refine (z18.calls k2 g s0_0 x1001_2 x1002_2 t393 t394 true w0 _ ?side1 ?side2 A22.out).mono ?_
         (case side1 => exact y1)
         (case side2 => exact y5)
         rintro e w26 ⟨rfl, hi, hb, hk⟩
         refine ⟨_, rfl, ?_⟩
         have n0_ := z1o.mk (Kd.S_mono (Kd.S_keep (z1p.apartS (show z1p w0 _ g s0_0 x1001_2 x1002_2 from y1) y1q (by decide)) hk (fun _ h => h.2)) (fun _ h => h.1))
         have n1_ := z1o.mk (Kd.R_mono (Kd.R_keep (z1p.apart (show z1p w0 _ g s0_0 x1001_2 x1002_2 from y1) y16 (by decide)) hk (fun _ h => h.2)) (fun _ h => h.1))
         have n2_ := z1o.mk (z1r.blk hk (g' := gb378) (o := .cells #[.string x379000_2, .slice none 0 0] 31 (0, 0)) ye NB378_0.out (by simp))
         have n3_ := z1o.mk (z1r.blk hk (g' := gb382) (o := .cells #[.string t379, u383001] 31 (0, 0)) yh NB382_0.out (by simp))
         have n4_ := z1o.mk (z1r.blk hk (g' := gb389) (o := .cells #[.string t386, u390001, .slice none 0 0] 84 (0, 0)) yq NB389_0.out (by simp))
         have n5_ := z1o.mk (z1r.trans y2 hk (.inl rfl))
         have n6_ := z1o.mk (hb)
         have n7_ := z1o.mk (hi)
         clear HO_383001
         clear HO_390001
         clear BK378
         clear BK382
         clear BK389
         clear HK
         clear HB
         clear HI0
         have HO_383001 := n0_
         have HO_390001 := n1_
         have BK378 := n2_
         have BK382 := n3_
         have BK389 := n4_
         have HK := n5_
         have HB := n6_
         have HI0 := n7_
         clear n0_ n1_ n2_ n3_ n4_ n5_ n6_ n7_
         (try clear hb)
         (try clear hb2)
         (try clear hk)
         (try clear hi)
         refine hK.out _ _ ⟨(z6 BK389.out 0).trans rfl, (z6 BK389.out 1).trans rfl, (z6 BK389.out 2).trans rfl⟩ (fun hHeld => ?_)
         clear hK K
         refine norm_ (a' := ?_) ?_ ?_
         rotate_left
         ·show Act.put _ (some 23) _ = _
          simp only [Act.put, ub, uc, ud, zn, zo]
          rfl
         refine one_ (i := 4) (N := some 24) #[true, true, true, true, true, false, false, false] rfl rfl (one_of HT_.out (by kernel_rfl)) (by decide) (fun K hK => ?_)
         refine value_ (w1 := ?_) (v := ?_) (by rfl) rfl ?_ ?_
         rotate_left 2
         ·go_simp
          constructor
          ·rfl
          ·rfl
         refine hK.out _ _ ⟨(z6 (z7 BK389.out _) 0).trans rfl, (z6 (z7 BK389.out _) 1).trans rfl, (z6 (z7 BK389.out _) 2).trans rfl⟩ (fun hHeld => ?_)
         clear hK K
         refine norm_ (a' := ?_) ?_ ?_
         rotate_left
         ·show Act.put _ (some 24) _ = _
          simp only [Act.put, ub, uc, ud, zn, zo]
          rfl
         refine one_ (i := 5) (N := some 25) #[true, true, true, true, true, true, false, false] rfl rfl (one_of HT_.out (by kernel_rfl)) (by decide) (fun K hK => ?_)
         refine Kd.R_append_step Kd.string w.heap.size (by rfl) (.tmp 21) (.tmp 24) 82 9 (.string ⟨#[]⟩) 16 rfl Try.underlying82 info9 rfl (by decide) (by omega) u390001 x390001_2 t393 [.string t393] (fun _ => True) (fun _ => False) rfl rfl ?aP (fun _ hk => hk.elim) ?aF ?aO (Below.refl _ _) ?aS ?aL ?_
         (case aP => exact rfl)
         (case aF => exact (fun _ _ => trivial))
         (case aO => exact y16)
         (case aS => exact (keep_size (w := w) (g := g) (row := none) y2))
         (case aL => have := LMc23.out; omega)
         intro v397 w27 ho hb hg hat
         rw [← Ny396.out] at ho
         have n0_ := z1o.mk (Kd.S_after (ok := (fun k_ => k_ ≠ gb389)) (by (with_reducible repeat (first | apply Kd.S_alloc | apply Kd.S_drewN | apply Kd.S_drew)); exact Kd.S_mono HO_383001.out (fun _ hk => ⟨hk.2, hk.1⟩)) hg hat)
         have n1_ := z1o.mk (zf (g := gb378) (o := .cells #[.string x379000_2, .slice none 0 0] 31 (0, 0)) ye hg (Kd.R_ne HO_390001.out BK378.out (by decide)))
         have n2_ := z1o.mk (zf (g := gb382) (o := .cells #[.string t379, u383001] 31 (0, 0)) yh hg (Kd.R_ne HO_390001.out BK382.out (by decide)))
         have n3_ := z1o.mk (zf (g := gb389) (o := .cells #[.string t386, u390001, .slice none 0 0] 84 (0, 0)) yq hg (Kd.R_ne HO_390001.out BK389.out (by decide)))
         have n4_ := z1o.mk (z1p.grown y1 hg (z1p.own_ne HI0.out HO_390001.out (by decide)))
         have n5_ := z1o.mk (below_weaken y5 HL.out hb)
         have n6_ := z1o.mk (z1r.trans y2 (z1r.of_grown hg g) (Kd.R_base2 HO_390001.out))
         have n7_ := z1o.mk (ho)
         clear HO_383001
         clear BK378
         clear BK382
         clear BK389
         clear HI0
         clear HB
         clear HK
         clear HO_390001
         have HO_383001 := n0_
         have BK378 := n1_
         have BK382 := n2_
         have BK389 := n3_
         have HI0 := n4_
         have HB := n5_
         have HK := n6_
         have HO398 := n7_
         clear n0_ n1_ n2_ n3_ n4_ n5_ n6_ n7_
         clear ho hb hg hat
         obtain ⟨Ao28, co28, eo28⟩ := Kd.R_slice HO398.out
         (first | subst eo28 | (injection eo28 with f1_ f2_ f3_; have f4_ := f1_.symm; have f5_ := f3_.symm; clear f1_ f2_ f3_; subst f4_; subst f5_))
         refine hK.out _ _ ⟨(z6 BK389.out 0).trans rfl, (z6 BK389.out 1).trans rfl, (z6 BK389.out 2).trans rfl⟩ (fun hHeld => ?_)
         clear hK K
         refine norm_ (a' := ?_) ?_ ?_
         rotate_left
         ·show Act.put _ (some 25) _ = _
          simp only [Act.put, ub, uc, ud, zn, zo]
          rfl
         refine pure_ (i := 6) (N := some 26) (v := ?_) (a' := ?_) #[true, true, true, true, true, true, true, false] rfl rfl (any_of HT_.out (by kernel_rfl)) (fun _ _ _ h => h) (Or.inl ⟨by rfl, ?_⟩) ?_ ?_
         rotate_left
         ·intro w'
          go_simp
          with_reducible rfl
         rotate_left
         ·simp only [Act.put, ub, uc, ud, zn, zo]
          rfl
         refine last_ (i := 7) (N := none) #[true, true, true, true, true, true, true, true] rfl rfl (one_of HT_.out (by kernel_rfl)) (by decide) (fun K hK => ?_)
         have hs29 : w27.cell? ⟨gb389, 1, none⟩ = some (u390001) := (z6 BK389.out 1).trans rfl
         have hfs29 := z5 BK389.out 1
         have hns29_0 := NB378_389.out
         have hns29_1 := NB382_389.out
         have hms29_0 := NB389_378.out
         have hms29_1 := NB389_382.out
         refine skip_ (w1 := ?_) (by rfl) rfl ?_ ?_
         rotate_left
         ·go_simp
          rfl
         refine hK.out _ _ ?_
         clear hK K
         refine done_ (done_of HT_.out (by kernel_rfl)) ?_
         obtain ⟨ASz30_0, cSz30_0, HGz30, hgz30, HSz30_0, -⟩ := HI0.out
         have hcz30_0 := cellS96_0 HGz30
         have hcz30_1 := cellS96_1 HGz30
         have hcz30_2 := cellS96_2 HGz30
         have hfz30_1 := z5 HGz30 1
         have hfz30_2 := z5 HGz30 2
         clear HGz30 hgz30
         have hnb31 := NB382_378.out
         have hnc31 := NB378_382.out
         have hnb32 := NB382_389.out
         have hnc32 := NB389_382.out
         have hnb33 := NB382_0.out
         have hnc33 := NB0_382.out
         obtain ⟨hcz34_0, hcz34_1⟩ := cbk2 BK382.out
         obtain ⟨hfz34_0, hfz34_1⟩ := cbf2 BK382.out
         have hnb35 := NB378_389.out
         have hnc35 := NB389_378.out
         have hnb36 := NB378_0.out
         have hnc36 := NB0_378.out
         obtain ⟨hcz37_0, hcz37_1⟩ := cbk2 BK378.out
         obtain ⟨hfz37_0, hfz37_1⟩ := cbf2 BK378.out
         obtain ⟨Ao38, co38, eo38⟩ := Kd.S_slice HO_383001.out
         subst eo38
         try go_wp2
         refine bodyPost_ret (results_cell_row rfl _ _ gb378 31 #[.string t379, .slice Ao38 x383001_1.length co38] (0, 0) _ rfl (by (with_reducible repeat (first | refine z8 ?_ _ | refine z9 ?_ | refine z7 ?_ _)); refine zd (cs := #[.string t379, .slice none 0 0]) ?_ 1 _ rfl; (with_reducible repeat (first | refine z8 ?_ _ | refine z9 ?_ | refine z7 ?_ _)); refine zd (cs := #[.string x379000_2, .slice none 0 0]) ?_ 0 _ rfl; (with_reducible repeat (first | refine z8 ?_ _ | refine z9 ?_ | refine z7 ?_ _)); refine ze ?_ NB378_389.out _; (with_reducible repeat (first | refine z8 ?_ _ | refine z9 ?_ | refine z7 ?_ _)); exact BK378.out) Try.underlying31 rfl (by kernel_rfl)) rfl ?_
         exact ⟨_, by first | rfl | (simp [zm, zl] <;> rfl) | (simp [*, zm, zl] <;> rfl), by (with_reducible repeat (first | apply Kd.S_alloc | apply Kd.S_drewN | apply Kd.S_drew)); exact Kd.S_mono (Kd.S_far (p := ⟨gb378, 1, none⟩) (Kd.S_far (p := ⟨gb378, 0, none⟩) (Kd.S_far (p := ⟨gb389, 1, none⟩) (Kd.S_types (Kd.S_mono HO_383001.out (fun k_ hk => (⟨hk, hk.1⟩ : _ ∧ k_ ≠ gb389))) BK378.out (by decide)) (fun _ hk => hk.1.2) (.slice Ao28 y396.length co28)) (fun _ hk => hk.2) (.string t379)) (fun _ hk => hk.2) (.slice Ao38 x383001_1.length co38)) (fun _ hk => trivial), y1, y5, y2⟩
        ·replace c24 := Bool.eq_false_iff.mpr c24
         subst c24
         have H1 : (zy.l1 k2 t383 x11_1 t390 (wrap64 (x18_2 + 1)) s0_0 t394 false t379 x383001_1 t386 y396) = some (r1, r2, r3, r4) := by rw [if_neg (show ¬ (false = true) by decide)] at H; exact H
         clear H
         have H := H1
         clear H1
         have H' := z1o.mk H
         clear H
         try go_wp2
         have n0_ := z1o.mk (Kd.S_drew HO_383001.out)
         have n1_ := z1o.mk (Kd.R_drew HO_390001.out)
         have n2_ := z1o.mk (z9 BK378.out)
         have n3_ := z1o.mk (z9 BK382.out)
         have n4_ := z1o.mk (z9 BK389.out)
         have n5_ := z1o.mk (z1p.drew HI0.out)
         have n6_ := z1o.mk (zk HK.out)
         have n7_ := z1o.mk (z3 HB.out)
         clear HO_383001
         clear HO_390001
         clear BK378
         clear BK382
         clear BK389
         clear HI0
         clear HK
         clear HB
         have HO_383001 := n0_
         have HO_390001 := n1_
         have BK378 := n2_
         have BK382 := n3_
         have BK389 := n4_
         have HI0 := n5_
         have HK := n6_
         have HB := n7_
         clear n0_ n1_ n2_ n3_ n4_ n5_ n6_ n7_
         refine start_ (n := 8) (S := fun w' => w'.cell? ⟨gb389, 0, none⟩ = some (.string t386) ∧ w'.cell? ⟨gb389, 1, none⟩ = some (u390001) ∧ w'.cell? ⟨gb389, 2, none⟩ = some (.slice none 0 0)) (ds := [7]) #[false, false, false, false, false, false, false, false] (by kernel_rfl) rfl rfl ⟨(z6 BK389.out 0).trans rfl, (z6 BK389.out 1).trans rfl, (z6 BK389.out 2).trans rfl⟩ (fun hHeld => ?_); refine with_tabW zy.tab7 zy.bits7 (fun HT_ HW_ => ?_)
         generalize wr.drew = w39 at HO_383001 HO_390001 BK378 BK382 BK389 HI0 HK HB hHeld ⊢
         refine pure_ (i := 0) (N := some 20) (v := ?_) (a' := ?_) #[true, false, false, false, false, false, false, false] rfl rfl (any_of HT_.out (by kernel_rfl)) (fun _ _ _ h => h) (Or.inl ⟨by rfl, ?_⟩) ?_ ?_
         rotate_left
         ·intro w'
          go_simp
          with_reducible rfl
         rotate_left
         ·simp only [Act.put, ub, uc, ud, zn, zo]
          rfl
         refine pure_ (i := 2) (N := some 22) (v := ?_) (a' := ?_) #[true, false, true, false, false, false, false, false] rfl rfl (any_of HT_.out (by kernel_rfl)) (fun _ _ _ h => h) (Or.inl ⟨by rfl, ?_⟩) ?_ ?_
         rotate_left
         ·intro w'
          go_simp
          with_reducible rfl
         rotate_left
         ·simp only [Act.put, ub, uc, ud, zn, zo]
          rfl
         refine take_ (i := 1) (N := some 21) (v := ?_) (a' := ?_) #[true, true, true, false, false, false, false, false] rfl rfl (take_ofW HT_.out HW_.out (by kernel_rfl)) (fun _ _ _ h => h) (Or.inl ⟨by rfl, ?_⟩) hHeld ?_ ?_
         rotate_left
         ·rintro w' ⟨s0, s1, s2⟩
          go_simp
          with_reducible rfl
         rotate_left
         ·simp only [Act.put, ub, uc, ud, zn, zo]
          rfl
         refine one_ (i := 3) (N := some 23) #[true, true, true, true, false, false, false, false] rfl rfl (one_of HT_.out (by kernel_rfl)) (by decide) (fun K hK => ?_)
         refine goes_ Try.func99 (by kernel_rfl) rfl #[.pointer (some ⟨g, 0, none⟩)] (by rfl) rfl rfl (by (try simp only [uh, ui, uj]); first | done | rfl | (simp only [uf, ug]; rfl)) ?_
         with_reducible refine (z18.calls k2 g s0_0 x1001_2 x1002_2 t393 t394 false w0 _ ?side1 ?side2 A22.out).mono ?_
         (case side1 => exact y1)
         (case side2 => exact y5)
         rintro e w40 ⟨rfl, hi, hb, hk⟩
         refine ⟨_, rfl, ?_⟩
         have n0_ := z1o.mk (Kd.S_mono (Kd.S_keep (z1p.apartS (show z1p w0 _ g s0_0 x1001_2 x1002_2 from y1) y1q (by decide)) hk (fun _ h => h.2)) (fun _ h => h.1))
         have n1_ := z1o.mk (Kd.R_mono (Kd.R_keep (z1p.apart (show z1p w0 _ g s0_0 x1001_2 x1002_2 from y1) y16 (by decide)) hk (fun _ h => h.2)) (fun _ h => h.1))
         have n2_ := z1o.mk (z1r.blk hk (g' := gb378) (o := .cells #[.string x379000_2, .slice none 0 0] 31 (0, 0)) ye NB378_0.out (by simp))
         have n3_ := z1o.mk (z1r.blk hk (g' := gb382) (o := .cells #[.string t379, u383001] 31 (0, 0)) yh NB382_0.out (by simp))
         have n4_ := z1o.mk (z1r.blk hk (g' := gb389) (o := .cells #[.string t386, u390001, .slice none 0 0] 84 (0, 0)) yq NB389_0.out (by simp))
         have n5_ := z1o.mk (z1r.trans y2 hk (.inl rfl))
         have n6_ := z1o.mk (hb)
         have n7_ := z1o.mk (hi)
         clear HO_383001
         clear HO_390001
         clear BK378
         clear BK382
         clear BK389
         clear HK
         clear HB
         clear HI0
         have HO_383001 := n0_
         have HO_390001 := n1_
         have BK378 := n2_
         have BK382 := n3_
         have BK389 := n4_
         have HK := n5_
         have HB := n6_
         have HI0 := n7_
         clear n0_ n1_ n2_ n3_ n4_ n5_ n6_ n7_
         (try clear hb)
         (try clear hb2)
         (try clear hk)
         (try clear hi)
         refine hK.out _ _ ⟨(z6 BK389.out 0).trans rfl, (z6 BK389.out 1).trans rfl, (z6 BK389.out 2).trans rfl⟩ (fun hHeld => ?_)
         clear hK K
         refine norm_ (a' := ?_) ?_ ?_
         rotate_left
         ·show Act.put _ (some 23) _ = _
          simp only [Act.put, ub, uc, ud, zn, zo]
          rfl
         refine one_ (i := 4) (N := some 24) #[true, true, true, true, true, false, false, false] rfl rfl (one_of HT_.out (by kernel_rfl)) (by decide) (fun K hK => ?_)
         refine value_ (w1 := ?_) (v := ?_) (by rfl) rfl ?_ ?_
         rotate_left 2
         ·go_simp
          constructor
          ·rfl
          ·rfl
         refine hK.out _ _ ⟨(z6 (z7 BK389.out _) 0).trans rfl, (z6 (z7 BK389.out _) 1).trans rfl, (z6 (z7 BK389.out _) 2).trans rfl⟩ (fun hHeld => ?_)
         clear hK K
         refine norm_ (a' := ?_) ?_ ?_
         rotate_left
         ·show Act.put _ (some 24) _ = _
          simp only [Act.put, ub, uc, ud, zn, zo]
          rfl
         refine one_ (i := 5) (N := some 25) #[true, true, true, true, true, true, false, false] rfl rfl (one_of HT_.out (by kernel_rfl)) (by decide) (fun K hK => ?_)
         refine Kd.R_append_step Kd.string w.heap.size (by rfl) (.tmp 21) (.tmp 24) 82 9 (.string ⟨#[]⟩) 16 rfl Try.underlying82 info9 rfl (by decide) (by omega) u390001 x390001_2 t393 [.string t393] (fun _ => True) (fun _ => False) rfl rfl ?aP (fun _ hk => hk.elim) ?aF ?aO (Below.refl _ _) ?aS ?aL ?_
         (case aP => exact rfl)
         (case aF => exact (fun _ _ => trivial))
         (case aO => exact y16)
         (case aS => exact (keep_size (w := w) (g := g) (row := none) y2))
         (case aL => have := LMc23.out; omega)
         intro v397 w41 ho hb hg hat
         rw [← Ny396.out] at ho
         have n0_ := z1o.mk (Kd.S_after (ok := (fun k_ => k_ ≠ gb389)) (by (with_reducible repeat (first | apply Kd.S_alloc | apply Kd.S_drewN | apply Kd.S_drew)); exact Kd.S_mono HO_383001.out (fun _ hk => ⟨hk.2, hk.1⟩)) hg hat)
         have n1_ := z1o.mk (zf (g := gb378) (o := .cells #[.string x379000_2, .slice none 0 0] 31 (0, 0)) ye hg (Kd.R_ne HO_390001.out BK378.out (by decide)))
         have n2_ := z1o.mk (zf (g := gb382) (o := .cells #[.string t379, u383001] 31 (0, 0)) yh hg (Kd.R_ne HO_390001.out BK382.out (by decide)))
         have n3_ := z1o.mk (zf (g := gb389) (o := .cells #[.string t386, u390001, .slice none 0 0] 84 (0, 0)) yq hg (Kd.R_ne HO_390001.out BK389.out (by decide)))
         have n4_ := z1o.mk (z1p.grown y1 hg (z1p.own_ne HI0.out HO_390001.out (by decide)))
         have n5_ := z1o.mk (below_weaken y5 HL.out hb)
         have n6_ := z1o.mk (z1r.trans y2 (z1r.of_grown hg g) (Kd.R_base2 HO_390001.out))
         have n7_ := z1o.mk (ho)
         clear HO_383001
         clear BK378
         clear BK382
         clear BK389
         clear HI0
         clear HB
         clear HK
         clear HO_390001
         have HO_383001 := n0_
         have BK378 := n1_
         have BK382 := n2_
         have BK389 := n3_
         have HI0 := n4_
         have HB := n5_
         have HK := n6_
         have HO398 := n7_
         clear n0_ n1_ n2_ n3_ n4_ n5_ n6_ n7_
         clear ho hb hg hat
         obtain ⟨Ao42, co42, eo42⟩ := Kd.R_slice HO398.out
         (first | subst eo42 | (injection eo42 with f1_ f2_ f3_; have f4_ := f1_.symm; have f5_ := f3_.symm; clear f1_ f2_ f3_; subst f4_; subst f5_))
         refine hK.out _ _ ⟨(z6 BK389.out 0).trans rfl, (z6 BK389.out 1).trans rfl, (z6 BK389.out 2).trans rfl⟩ (fun hHeld => ?_)
         clear hK K
         refine norm_ (a' := ?_) ?_ ?_
         rotate_left
         ·show Act.put _ (some 25) _ = _
          simp only [Act.put, ub, uc, ud, zn, zo]
          rfl
         refine pure_ (i := 6) (N := some 26) (v := ?_) (a' := ?_) #[true, true, true, true, true, true, true, false] rfl rfl (any_of HT_.out (by kernel_rfl)) (fun _ _ _ h => h) (Or.inl ⟨by rfl, ?_⟩) ?_ ?_
         rotate_left
         ·intro w'
          go_simp
          with_reducible rfl
         rotate_left
         ·simp only [Act.put, ub, uc, ud, zn, zo]
          rfl
         refine last_ (i := 7) (N := none) #[true, true, true, true, true, true, true, true] rfl rfl (one_of HT_.out (by kernel_rfl)) (by decide) (fun K hK => ?_)
         have hs43 : w41.cell? ⟨gb389, 1, none⟩ = some (u390001) := (z6 BK389.out 1).trans rfl
         have hfs43 := z5 BK389.out 1
         have hns43_0 := NB378_389.out
         have hns43_1 := NB382_389.out
         have hms43_0 := NB389_378.out
         have hms43_1 := NB389_382.out
         refine skip_ (w1 := ?_) (by rfl) rfl ?_ ?_
         rotate_left
         ·go_simp
          rfl
         refine hK.out _ _ ?_
         clear hK K
         refine done_ (done_of HT_.out (by kernel_rfl)) ?_
         obtain ⟨ASz44_0, cSz44_0, HGz44, hgz44, HSz44_0, -⟩ := HI0.out
         have hcz44_0 := cellS96_0 HGz44
         have hcz44_1 := cellS96_1 HGz44
         have hcz44_2 := cellS96_2 HGz44
         have hfz44_1 := z5 HGz44 1
         have hfz44_2 := z5 HGz44 2
         clear HGz44 hgz44
         try go_wp2
         go_roundg k2
         case measure => have := HK1.out; have := HK2.out; omega
         case rel => exact ⟨(wrap64 (x18_2 + 1)), (t394), (false), (x379000_2), (y396), (.slice Ao42 y396.length co42), (by first | rfl | (simp; done) | (simp [*]; done)), H', ⟨by have := HK1.out; have := HK2.out; omega⟩, ⟨by (with_reducible repeat (first | apply Kd.S_alloc | apply Kd.S_drewN | apply Kd.S_drew)); exact Kd.S_mono (Kd.S_far (p := ⟨gb389, 1, none⟩) (Kd.S_mono HO_383001.out (fun k_ hk => (⟨hk, hk.1⟩ : _ ∧ k_ ≠ gb389))) (fun _ hk => hk.2) (.slice Ao42 y396.length co42)) (fun _ hk => ⟨hk.1.2, hk.1.1⟩)⟩, ⟨by (with_reducible repeat (first | apply Kd.R_alloc | apply Kd.R_drewN | apply Kd.R_drew)); exact Kd.R_mono (Kd.R_far (p := ⟨gb389, 1, none⟩) (Kd.R_types HO398.out BK389.out (by decide)) (fun _ hk => hk.2) (.slice Ao42 y396.length co42)) (fun _ hk => trivial)⟩, ⟨by (with_reducible repeat (first | refine z8 ?_ _ | refine z9 ?_ | refine z7 ?_ _)); refine ze ?_ NB378_389.out _; (with_reducible repeat (first | refine z8 ?_ _ | refine z9 ?_ | refine z7 ?_ _)); exact BK378.out⟩, ⟨by (with_reducible repeat (first | refine z8 ?_ _ | refine z9 ?_ | refine z7 ?_ _)); refine ze ?_ NB382_389.out _; (with_reducible repeat (first | refine z8 ?_ _ | refine z9 ?_ | refine z7 ?_ _)); exact BK382.out⟩, ⟨by (with_reducible repeat (first | refine z8 ?_ _ | refine z9 ?_ | refine z7 ?_ _)); refine zd (cs := #[.string t386, u390001, .slice none 0 0]) ?_ 1 _ rfl; (with_reducible repeat (first | refine z8 ?_ _ | refine z9 ?_ | refine z7 ?_ _)); exact BK389.out⟩, ⟨y1⟩, ⟨y2⟩, ⟨y5⟩⟩
       ·rw [if_neg c23] at H
        exact absurd H (by simp)
      ·rw [if_neg c21] at H
       have c21b0 : decide (x18_2 < t390) = false := decide_eq_false c21
       clear c21
       replace H := ue.mp H
       obtain ⟨⟨t399, t400, t401⟩, A450, H⟩ := H
       replace H : (zy.l2 k2 t383 x11_1 t399 0 s0_0 t400 t401 t379 x383001_1 t386 x390001_2 ([] : List Int)) = some (r1, r2, r3, r4) := H
       have A45 := z1o.mk A450
       clear A450
       have H' := z1o.mk H
       clear H
       go_wp2_with (first | ((with_reducible refine zp (f := 100) rfl ?_); refine goesL_ (some 34) rfl rfl Try.func100 (by kernel_rfl) rfl #[.pointer (some ⟨g, 0, none⟩), .int .i64 4096] rfl (by (try simp only [uh, ui, uj]); first | done | rfl | (simp only [uf, ug]; rfl)) ?_; (with_reducible refine (z17.calls k2 g s0_0 x1001_2 x1002_2 4096 t399 t400 t401 w0 _ ?side1 ?side2 A45.out).mono ?_); (case side1 => exact y1); (case side2 => exact y5); rintro e w46 ⟨rfl, hi, hb, hk⟩; refine ⟨_, rfl, ?_⟩; have n0_ := z1o.mk (Kd.S_mono (Kd.S_keep (z1p.apartS (show z1p w0 _ g s0_0 x1001_2 x1002_2 from y1) y1q (by decide)) hk (fun _ h => h.2)) (fun _ h => h.1)); have n1_ := z1o.mk (Kd.R_mono (Kd.R_keep (z1p.apart (show z1p w0 _ g s0_0 x1001_2 x1002_2 from y1) y16 (by decide)) hk (fun _ h => h.2)) (fun _ h => h.1)); have n2_ := z1o.mk (z1r.blk hk (g' := gb378) (o := .cells #[.string x379000_2, .slice none 0 0] 31 (0, 0)) ye NB378_0.out (by simp)); have n3_ := z1o.mk (z1r.blk hk (g' := gb382) (o := .cells #[.string t379, u383001] 31 (0, 0)) yh NB382_0.out (by simp)); have n4_ := z1o.mk (z1r.blk hk (g' := gb389) (o := .cells #[.string t386, u390001, .slice none 0 0] 84 (0, 0)) yq NB389_0.out (by simp)); have n5_ := z1o.mk (z1r.trans y2 hk (.inl rfl)); have n6_ := z1o.mk (hb); have n7_ := z1o.mk (hi); clear HO_383001; clear HO_390001; clear BK378; clear BK382; clear BK389; clear HK; clear HB; clear HI0; have HO_383001 := n0_; have HO_390001 := n1_; have BK378 := n2_; have BK382 := n3_; have BK389 := n4_; have HK := n5_; have HB := n6_; have HI0 := n7_; clear n0_ n1_ n2_ n3_ n4_ n5_ n6_ n7_; (try clear hb); (try clear hb2); (try clear hk); (try clear hi)))
       go_loopg [35] k2 (fun kq v35 w' => ∃ (x35_3 : Int) (x1001_3 : Int) (x1002_3 : Bool) (x379000_3 : ByteArray) (x390002_3 : List Int) (u390002 : Value), v35 = .int .i64 x35_3 ∧ z1o (zy.l2 kq t383 x11_1 t399 x35_3 s0_0 x1001_3 x1002_3 t379 x383001_1 t386 x390001_2 x390002_3 = some (r1, r2, r3, r4)) ∧ z1o (kq ≤ k2) ∧ z1o (Kd.S k84 84 w' w.heap.size (fun k_ => some k_ ≠ (u390001 : Value).ownBlock ∧ some k_ ≠ (u390002 : Value).ownBlock ∧ k_ ≠ gb389) u383001 x383001_1) ∧ z1o (Kd.R Kd.string 9 w' w.heap.size (fun _ => True) u390001 x390001_2) ∧ z1o (Kd.R (Kd.int .i64) 3 w' w.heap.size (fun _ => True) u390002 x390002_3) ∧ z1o (w'.heap[gb378]? = some (.cells #[.string x379000_3, (.slice none 0 0)] 31 (0, 0))) ∧ z1o (w'.heap[gb382]? = some (.cells #[.string t379, u383001] 31 (0, 0))) ∧ z1o (w'.heap[gb389]? = some (.cells #[.string t386, u390001, u390002] 84 (0, 0))) ∧ z1o (z1p w0 w' g s0_0 x1001_3 x1002_3) ∧ z1o (z1r w w' g none) ∧ z1o (Below w0.heap.size w0 w'))
       case atStart => exact ⟨(0), (t400), (t401), (x379000_2), (([] : List Int)), (.slice none 0 0), (by first | rfl | (simp; done) | (simp [*]; done)), H', ⟨um _⟩, ⟨by (with_reducible repeat (first | apply Kd.S_alloc | apply Kd.S_drewN | apply Kd.S_drew)); exact Kd.S_mono HO_383001.out (fun _ hk => ⟨hk.1, ⟨(by simp [Value.ownBlock]), hk.2⟩⟩)⟩, ⟨y16⟩, ⟨by first | exact Kd.R_nil _ _ _ _ _ | exact Kd.N_nil _ _ _ _ _ | exact Kd.V_nil _ _ _ _ _ | exact Kd.Q_nil _ _ _ _ _ | exact Kd.S_nil _ _ _ _ _⟩, ⟨ye⟩, ⟨yh⟩, ⟨yq⟩, ⟨y1⟩, ⟨y2⟩, ⟨y5⟩⟩
       case round =>
        clear H'
        try clear c1
        try clear c2
        try clear p2
        try clear c3
        try clear c5
        try clear p6
        try clear c7
        try clear c8
        try clear c9
        try clear c10
        try clear c11
        try clear c11b0
        try clear c16
        try clear c17
        try clear c18
        try clear c21
        try clear c21b0
        try clear c23
        try clear c24
        try clear c31
        try clear c32
        try clear c33
        try clear c35
        try clear c36
        try clear hcz19_0
        try clear hcz19_1
        try clear hcz19_2
        try clear hcz30_0
        try clear hcz30_1
        try clear hcz30_2
        try clear hcz34_0
        try clear hcz34_1
        try clear hcz37_0
        try clear hcz37_1
        try clear hcz44_0
        try clear hcz44_1
        try clear hcz44_2
        try clear hcz9_0
        try clear hcz9_1
        try clear hfz19_0
        try clear hfz19_1
        try clear hfz19_2
        try clear hfz30_1
        try clear hfz30_2
        try clear hfz34_0
        try clear hfz34_1
        try clear hfz37_0
        try clear hfz37_1
        try clear hfz44_1
        try clear hfz44_2
        try clear hfz9_0
        try clear hfz9_1
        try clear p2
        obtain ⟨x35_3, x1001_3, x1002_3, x379000_3, x390002_3, u390002, rfl, HA, HK3, HO_383001, HO_390001, HO_390002, BK378, BK382, BK389, HI0, HK, HB⟩ := hrel
        cases gk with
        | zero => exact absurd HA.out (by simp [zy.l2])
        | succ k3 =>
         have H := HA.out
         clear HA
         simp only [zy.l2] at H
         by_cases c47 : x35_3 < t399
         ·rw [if_pos c47] at H
          have c47b0 : decide (x35_3 < t399) = true := decide_eq_true c47
          clear c47
          replace H := ue.mp H
          obtain ⟨⟨t405, t406, t407⟩, A480, H⟩ := H
          replace H : (if (Int.tmod t405 2) = 1 then (if x390002_3.length < 17592186044416 then (if t407 = true then (some (t379, x383001_1, t406, t407)) else (zy.l2 k3 t383 x11_1 t399 (wrap64 (x35_3 + 1)) s0_0 t406 t407 t379 x383001_1 t386 x390001_2 (x390002_3 ++ [wrap64 (Int.tdiv (wrap64 (-(wrap64 (t405 + 1)))) 2)]))) else (none)) else (if x390002_3.length < 17592186044416 then (if t407 = true then (some (t379, x383001_1, t406, t407)) else (zy.l2 k3 t383 x11_1 t399 (wrap64 (x35_3 + 1)) s0_0 t406 t407 t379 x383001_1 t386 x390001_2 (x390002_3 ++ [wrap64 (Int.tdiv t405 2)]))) else (none))) = some (r1, r2, r3, r4) := H
          have A48 := z1o.mk A480
          clear A480
          by_cases c49 : (Int.tmod t405 2) = 1
          ·rw [if_pos c49] at H
           have c49b0 : ((Int.tmod t405 2) == 1) = true := beq_iff_eq.mpr c49
           have c49b1 : ((Int.tmod t405 2) != 1) = false := bne_eq_false_iff_eq.mpr c49
           clear c49
           by_cases c50 : x390002_3.length < 17592186044416
           ·rw [if_pos c50] at H
            have LMc50 := z1o.mk c50
            clear c50
            obtain ⟨y408, hy408⟩ : ∃ y_ : List Int, y_ = (x390002_3 ++ [wrap64 (Int.tdiv (wrap64 (-(wrap64 (t405 + 1)))) 2)]) := ⟨_, rfl⟩
            replace H : (if t407 = true then (some (t379, x383001_1, t406, t407)) else (zy.l2 k3 t383 x11_1 t399 (wrap64 (x35_3 + 1)) s0_0 t406 t407 t379 x383001_1 t386 x390001_2 y408)) = some (r1, r2, r3, r4) := by first | (rw [hy408]; with_reducible exact H) | (have H2_ := (uk _ _).symm.trans H; rw [hy408]; with_reducible exact H2_) | (have H2_ := (uk _ _).symm.trans H; with_reducible exact H2_) | with_reducible exact H | (rw [hy408]; exact H) | exact H
            have Ny408 := z1o.mk hy408
            clear hy408
            by_cases c51 : t407 = true
            ·subst c51
             have H1 : (some (t379, x383001_1, t406, true)) = some (r1, r2, r3, r4) := by rw [if_pos rfl] at H; exact H
             clear H
             have H := H1
             clear H1
             simp only [Option.some.injEq, Prod.mk.injEq] at H
             obtain ⟨rfl, rfl, rfl, rfl⟩ := H
             go_wp2_with (first | ((with_reducible refine zp (f := 100) rfl ?_); refine goesL_ (some 38) rfl rfl Try.func100 (by kernel_rfl) rfl #[.pointer (some ⟨g, 0, none⟩), .int .i64 2000000000000] rfl (by (try simp only [uh, ui, uj]); first | done | rfl | (simp only [uf, ug]; rfl)) ?_; (with_reducible refine (z17.calls k3 g s0_0 x1001_3 x1002_3 2000000000000 t405 t406 true w0 _ ?side1 ?side2 A48.out).mono ?_); (case side1 => exact y1); (case side2 => exact y5); rintro e w52 ⟨rfl, hi, hb, hk⟩; refine ⟨_, rfl, ?_⟩; have n0_ := z1o.mk (Kd.S_mono (Kd.S_keep (z1p.apartS (show z1p w0 _ g s0_0 x1001_3 x1002_3 from y1) y1q (by decide)) hk (fun _ h => h.2)) (fun _ h => h.1)); have n1_ := z1o.mk (Kd.R_mono (Kd.R_keep (z1p.apart (show z1p w0 _ g s0_0 x1001_3 x1002_3 from y1) y16 (by decide)) hk (fun _ h => h.2)) (fun _ h => h.1)); have n2_ := z1o.mk (Kd.R_mono (Kd.R_keep (z1p.apart (show z1p w0 _ g s0_0 x1001_3 x1002_3 from y1) y1c (by decide)) hk (fun _ h => h.2)) (fun _ h => h.1)); have n3_ := z1o.mk (z1r.blk hk (g' := gb378) (o := .cells #[.string x379000_3, .slice none 0 0] 31 (0, 0)) ye NB378_0.out (by simp)); have n4_ := z1o.mk (z1r.blk hk (g' := gb382) (o := .cells #[.string t379, u383001] 31 (0, 0)) yh NB382_0.out (by simp)); have n5_ := z1o.mk (z1r.blk hk (g' := gb389) (o := .cells #[.string t386, u390001, u390002] 84 (0, 0)) yq NB389_0.out (by simp)); have n6_ := z1o.mk (z1r.trans y2 hk (.inl rfl)); have n7_ := z1o.mk (hb); have n8_ := z1o.mk (hi); clear HO_383001; clear HO_390001; clear HO_390002; clear BK378; clear BK382; clear BK389; clear HK; clear HB; clear HI0; have HO_383001 := n0_; have HO_390001 := n1_; have HO_390002 := n2_; have BK378 := n3_; have BK382 := n4_; have BK389 := n5_; have HK := n6_; have HB := n7_; have HI0 := n8_; clear n0_ n1_ n2_ n3_ n4_ n5_ n6_ n7_ n8_; (try clear hb); (try clear hb2); (try clear hk); (try clear hi); have hnb53 := NB389_378.out; have hnc53 := NB378_389.out; have hnb54 := NB389_382.out; have hnc54 := NB382_389.out; have hnb55 := NB389_0.out; have hnc55 := NB0_389.out; obtain ⟨hcz56_0, hcz56_1, hcz56_2⟩ := cbk3 BK389.out; obtain ⟨hfz56_0, hfz56_1, hfz56_2⟩ := cbf3 BK389.out) | ((with_reducible refine zr (b := .append) (xs := #[.tmp 46, .tmp 49]) rfl ?_); at_builtin; refine Kd.R_append (Kd.int .i64) w.heap.size rfl (.tmp 46) (.tmp 49) 52 3 (.int .i64 0) 8 rfl Try.underlying52 info3 rfl (by decide) (by omega) u390002 x390002_3 (wrap64 (Int.tdiv (wrap64 (-(wrap64 (t405 + 1)))) 2)) [.int .i64 (wrap64 (Int.tdiv (wrap64 (-(wrap64 (t405 + 1)))) 2))] (fun _ => True) (fun _ => False) rfl rfl ?aP (fun _ hk => hk.elim) ?aF ?aO (Below.refl _ _) ?aS ?aL ?_; (case aP => exact rfl); (case aF => exact (fun _ _ => trivial)); (case aO => exact y1c); (case aS => exact (keep_size (w := w) (g := g) (row := none) y2)); (case aL => have := LMc50.out; omega); intro v409 w57 ho hb hg hat; rw [← Ny408.out] at ho; have n0_ := z1o.mk (Kd.S_after (ok := (fun k_ => some k_ ≠ (u390001 : Value).ownBlock ∧ k_ ≠ gb389)) (by (with_reducible repeat (first | apply Kd.S_alloc | apply Kd.S_drewN | apply Kd.S_drew)); exact Kd.S_mono HO_383001.out (fun _ hk => ⟨⟨hk.1, hk.2.2⟩, hk.2.1⟩)) hg hat); have n1_ := z1o.mk (Kd.R_over' y16 (Kd.R_typed y1c) (by decide) hg); have n2_ := z1o.mk (zf (g := gb378) (o := .cells #[.string x379000_3, .slice none 0 0] 31 (0, 0)) ye hg (Kd.R_ne HO_390002.out BK378.out (by decide))); have n3_ := z1o.mk (zf (g := gb382) (o := .cells #[.string t379, u383001] 31 (0, 0)) yh hg (Kd.R_ne HO_390002.out BK382.out (by decide))); have n4_ := z1o.mk (zf (g := gb389) (o := .cells #[.string t386, u390001, u390002] 84 (0, 0)) yq hg (Kd.R_ne HO_390002.out BK389.out (by decide))); have n5_ := z1o.mk (z1p.grown y1 hg (z1p.own_ne HI0.out HO_390002.out (by decide))); have n6_ := z1o.mk (below_weaken y5 HL.out hb); have n7_ := z1o.mk (z1r.trans y2 (z1r.of_grown hg g) (Kd.R_base2 HO_390002.out)); have n8_ := z1o.mk (ho); clear HO_383001; clear HO_390001; clear BK378; clear BK382; clear BK389; clear HI0; clear HB; clear HK; clear HO_390002; have HO_383001 := n0_; have HO_390001 := n1_; have BK378 := n2_; have BK382 := n3_; have BK389 := n4_; have HI0 := n5_; have HB := n6_; have HK := n7_; have HO410 := n8_; clear n0_ n1_ n2_ n3_ n4_ n5_ n6_ n7_ n8_; clear ho hb hg hat; obtain ⟨Ao58, co58, eo58⟩ := Kd.R_slice HO410.out; subst eo58; obtain ⟨hcz59_0, hcz59_1, hcz59_2⟩ := cbk3 BK389.out; obtain ⟨hfz59_0, hfz59_1, hfz59_2⟩ := cbf3 BK389.out; obtain ⟨ASz60_0, cSz60_0, HGz60, hgz60, HSz60_0, -⟩ := HI0.out; have hcz60_0 := cellS96_0 HGz60; have hcz60_1 := cellS96_1 HGz60; have hcz60_2 := cellS96_2 HGz60; have hfz60_1 := z5 HGz60 1; have hfz60_2 := z5 HGz60 2; clear HGz60 hgz60; have hnb61 := NB382_378.out; have hnc61 := NB378_382.out; have hnb62 := NB382_0.out; have hnc62 := NB0_382.out; obtain ⟨hcz63_0, hcz63_1⟩ := cbk2 BK382.out; obtain ⟨hfz63_0, hfz63_1⟩ := cbf2 BK382.out; have hnb64 := NB378_0.out; have hnc64 := NB0_378.out; obtain ⟨hcz65_0, hcz65_1⟩ := cbk2 BK378.out; obtain ⟨hfz65_0, hfz65_1⟩ := cbf2 BK378.out; obtain ⟨Ao66, co66, eo66⟩ := Kd.S_slice HO_383001.out; subst eo66))
             refine bodyPost_ret (results_cell_row rfl _ _ gb378 31 #[.string t379, .slice Ao66 x383001_1.length co66] (0, 0) _ rfl (by (with_reducible repeat (first | refine z8 ?_ _ | refine z9 ?_ | refine z7 ?_ _)); refine zd (cs := #[.string t379, .slice none 0 0]) ?_ 1 _ rfl; (with_reducible repeat (first | refine z8 ?_ _ | refine z9 ?_ | refine z7 ?_ _)); refine zd (cs := #[.string x379000_3, .slice none 0 0]) ?_ 0 _ rfl; (with_reducible repeat (first | refine z8 ?_ _ | refine z9 ?_ | refine z7 ?_ _)); refine ze ?_ NB378_389.out _; (with_reducible repeat (first | refine z8 ?_ _ | refine z9 ?_ | refine z7 ?_ _)); exact BK378.out) Try.underlying31 rfl (by kernel_rfl)) rfl ?_
             exact ⟨_, by first | rfl | (simp [zm, zl] <;> rfl) | (simp [*, zm, zl] <;> rfl), by (with_reducible repeat (first | apply Kd.S_alloc | apply Kd.S_drewN | apply Kd.S_drew)); exact Kd.S_mono (Kd.S_far (p := ⟨gb378, 1, none⟩) (Kd.S_far (p := ⟨gb378, 0, none⟩) (Kd.S_far (p := ⟨gb389, 2, none⟩) (Kd.S_types (Kd.S_mono HO_383001.out (fun k_ hk => (⟨hk, hk.1.2⟩ : _ ∧ k_ ≠ gb389))) BK378.out (by decide)) (fun _ hk => hk.1.2) (.slice Ao58 y408.length co58)) (fun _ hk => hk.2) (.string t379)) (fun _ hk => hk.2) (.slice Ao66 x383001_1.length co66)) (fun _ hk => trivial), y1, y5, y2⟩
            ·replace c51 := Bool.eq_false_iff.mpr c51
             subst c51
             have H1 : (zy.l2 k3 t383 x11_1 t399 (wrap64 (x35_3 + 1)) s0_0 t406 false t379 x383001_1 t386 x390001_2 y408) = some (r1, r2, r3, r4) := by rw [if_neg (show ¬ (false = true) by decide)] at H; exact H
             clear H
             have H := H1
             clear H1
             have H' := z1o.mk H
             clear H
             go_wp2_with (first | ((with_reducible refine zp (f := 100) rfl ?_); refine goesL_ (some 38) rfl rfl Try.func100 (by kernel_rfl) rfl #[.pointer (some ⟨g, 0, none⟩), .int .i64 2000000000000] rfl (by (try simp only [uh, ui, uj]); first | done | rfl | (simp only [uf, ug]; rfl)) ?_; (with_reducible refine (z17.calls k3 g s0_0 x1001_3 x1002_3 2000000000000 t405 t406 false w0 _ ?side1 ?side2 A48.out).mono ?_); (case side1 => exact y1); (case side2 => exact y5); rintro e w67 ⟨rfl, hi, hb, hk⟩; refine ⟨_, rfl, ?_⟩; have n0_ := z1o.mk (Kd.S_mono (Kd.S_keep (z1p.apartS (show z1p w0 _ g s0_0 x1001_3 x1002_3 from y1) y1q (by decide)) hk (fun _ h => h.2)) (fun _ h => h.1)); have n1_ := z1o.mk (Kd.R_mono (Kd.R_keep (z1p.apart (show z1p w0 _ g s0_0 x1001_3 x1002_3 from y1) y16 (by decide)) hk (fun _ h => h.2)) (fun _ h => h.1)); have n2_ := z1o.mk (Kd.R_mono (Kd.R_keep (z1p.apart (show z1p w0 _ g s0_0 x1001_3 x1002_3 from y1) y1c (by decide)) hk (fun _ h => h.2)) (fun _ h => h.1)); have n3_ := z1o.mk (z1r.blk hk (g' := gb378) (o := .cells #[.string x379000_3, .slice none 0 0] 31 (0, 0)) ye NB378_0.out (by simp)); have n4_ := z1o.mk (z1r.blk hk (g' := gb382) (o := .cells #[.string t379, u383001] 31 (0, 0)) yh NB382_0.out (by simp)); have n5_ := z1o.mk (z1r.blk hk (g' := gb389) (o := .cells #[.string t386, u390001, u390002] 84 (0, 0)) yq NB389_0.out (by simp)); have n6_ := z1o.mk (z1r.trans y2 hk (.inl rfl)); have n7_ := z1o.mk (hb); have n8_ := z1o.mk (hi); clear HO_383001; clear HO_390001; clear HO_390002; clear BK378; clear BK382; clear BK389; clear HK; clear HB; clear HI0; have HO_383001 := n0_; have HO_390001 := n1_; have HO_390002 := n2_; have BK378 := n3_; have BK382 := n4_; have BK389 := n5_; have HK := n6_; have HB := n7_; have HI0 := n8_; clear n0_ n1_ n2_ n3_ n4_ n5_ n6_ n7_ n8_; (try clear hb); (try clear hb2); (try clear hk); (try clear hi); have hnb68 := NB389_378.out; have hnc68 := NB378_389.out; have hnb69 := NB389_382.out; have hnc69 := NB382_389.out; have hnb70 := NB389_0.out; have hnc70 := NB0_389.out; obtain ⟨hcz71_0, hcz71_1, hcz71_2⟩ := cbk3 BK389.out; obtain ⟨hfz71_0, hfz71_1, hfz71_2⟩ := cbf3 BK389.out) | ((with_reducible refine zr (b := .append) (xs := #[.tmp 46, .tmp 49]) rfl ?_); at_builtin; refine Kd.R_append (Kd.int .i64) w.heap.size rfl (.tmp 46) (.tmp 49) 52 3 (.int .i64 0) 8 rfl Try.underlying52 info3 rfl (by decide) (by omega) u390002 x390002_3 (wrap64 (Int.tdiv (wrap64 (-(wrap64 (t405 + 1)))) 2)) [.int .i64 (wrap64 (Int.tdiv (wrap64 (-(wrap64 (t405 + 1)))) 2))] (fun _ => True) (fun _ => False) rfl rfl ?aP (fun _ hk => hk.elim) ?aF ?aO (Below.refl _ _) ?aS ?aL ?_; (case aP => exact rfl); (case aF => exact (fun _ _ => trivial)); (case aO => exact y1c); (case aS => exact (keep_size (w := w) (g := g) (row := none) y2)); (case aL => have := LMc50.out; omega); intro v409 w72 ho hb hg hat; rw [← Ny408.out] at ho; have n0_ := z1o.mk (Kd.S_after (ok := (fun k_ => some k_ ≠ (u390001 : Value).ownBlock ∧ k_ ≠ gb389)) (by (with_reducible repeat (first | apply Kd.S_alloc | apply Kd.S_drewN | apply Kd.S_drew)); exact Kd.S_mono HO_383001.out (fun _ hk => ⟨⟨hk.1, hk.2.2⟩, hk.2.1⟩)) hg hat); have n1_ := z1o.mk (Kd.R_over' y16 (Kd.R_typed y1c) (by decide) hg); have n2_ := z1o.mk (zf (g := gb378) (o := .cells #[.string x379000_3, .slice none 0 0] 31 (0, 0)) ye hg (Kd.R_ne HO_390002.out BK378.out (by decide))); have n3_ := z1o.mk (zf (g := gb382) (o := .cells #[.string t379, u383001] 31 (0, 0)) yh hg (Kd.R_ne HO_390002.out BK382.out (by decide))); have n4_ := z1o.mk (zf (g := gb389) (o := .cells #[.string t386, u390001, u390002] 84 (0, 0)) yq hg (Kd.R_ne HO_390002.out BK389.out (by decide))); have n5_ := z1o.mk (z1p.grown y1 hg (z1p.own_ne HI0.out HO_390002.out (by decide))); have n6_ := z1o.mk (below_weaken y5 HL.out hb); have n7_ := z1o.mk (z1r.trans y2 (z1r.of_grown hg g) (Kd.R_base2 HO_390002.out)); have n8_ := z1o.mk (ho); clear HO_383001; clear HO_390001; clear BK378; clear BK382; clear BK389; clear HI0; clear HB; clear HK; clear HO_390002; have HO_383001 := n0_; have HO_390001 := n1_; have BK378 := n2_; have BK382 := n3_; have BK389 := n4_; have HI0 := n5_; have HB := n6_; have HK := n7_; have HO410 := n8_; clear n0_ n1_ n2_ n3_ n4_ n5_ n6_ n7_ n8_; clear ho hb hg hat; obtain ⟨Ao73, co73, eo73⟩ := Kd.R_slice HO410.out; subst eo73; obtain ⟨hcz74_0, hcz74_1, hcz74_2⟩ := cbk3 BK389.out; obtain ⟨hfz74_0, hfz74_1, hfz74_2⟩ := cbf3 BK389.out; obtain ⟨ASz75_0, cSz75_0, HGz75, hgz75, HSz75_0, -⟩ := HI0.out; have hcz75_0 := cellS96_0 HGz75; have hcz75_1 := cellS96_1 HGz75; have hcz75_2 := cellS96_2 HGz75; have hfz75_1 := z5 HGz75 1; have hfz75_2 := z5 HGz75 2; clear HGz75 hgz75))
             go_roundg k3
             case measure => have := HK1.out; have := HK2.out; have := HK3.out; omega
             case rel => exact ⟨(wrap64 (x35_3 + 1)), (t406), (false), (x379000_3), (y408), (.slice Ao73 y408.length co73), (by first | rfl | (simp; done) | (simp [*]; done)), H', ⟨by have := HK1.out; have := HK2.out; have := HK3.out; omega⟩, ⟨by (with_reducible repeat (first | apply Kd.S_alloc | apply Kd.S_drewN | apply Kd.S_drew)); exact Kd.S_mono (Kd.S_far (p := ⟨gb389, 2, none⟩) (Kd.S_mono HO_383001.out (fun k_ hk => (⟨hk, hk.1.2⟩ : _ ∧ k_ ≠ gb389))) (fun _ hk => hk.2) (.slice Ao73 y408.length co73)) (fun _ hk => ⟨hk.1.1.1, ⟨hk.1.2, hk.1.1.2⟩⟩)⟩, ⟨by (with_reducible repeat (first | apply Kd.R_alloc | apply Kd.R_drewN | apply Kd.R_drew)); exact Kd.R_mono (Kd.R_far (p := ⟨gb389, 2, none⟩) (Kd.R_types HO_390001.out BK389.out (by decide)) (fun _ hk => hk.2) (.slice Ao73 y408.length co73)) (fun _ hk => trivial)⟩, ⟨by (with_reducible repeat (first | apply Kd.R_alloc | apply Kd.R_drewN | apply Kd.R_drew)); exact Kd.R_mono (Kd.R_far (p := ⟨gb389, 2, none⟩) (Kd.R_types HO410.out BK389.out (by decide)) (fun _ hk => hk.2) (.slice Ao73 y408.length co73)) (fun _ hk => trivial)⟩, ⟨by (with_reducible repeat (first | refine z8 ?_ _ | refine z9 ?_ | refine z7 ?_ _)); refine ze ?_ NB378_389.out _; (with_reducible repeat (first | refine z8 ?_ _ | refine z9 ?_ | refine z7 ?_ _)); exact BK378.out⟩, ⟨by (with_reducible repeat (first | refine z8 ?_ _ | refine z9 ?_ | refine z7 ?_ _)); refine ze ?_ NB382_389.out _; (with_reducible repeat (first | refine z8 ?_ _ | refine z9 ?_ | refine z7 ?_ _)); exact BK382.out⟩, ⟨by (with_reducible repeat (first | refine z8 ?_ _ | refine z9 ?_ | refine z7 ?_ _)); refine zd (cs := #[.string t386, u390001, u390002]) ?_ 2 _ rfl; (with_reducible repeat (first | refine z8 ?_ _ | refine z9 ?_ | refine z7 ?_ _)); exact BK389.out⟩, ⟨y1⟩, ⟨y2⟩, ⟨y5⟩⟩
           ·rw [if_neg c50] at H
            exact absurd H (by simp)
          ·rw [if_neg c49] at H
           have c49b0 : ((Int.tmod t405 2) == 1) = false := beq_eq_false_iff_ne.mpr c49
           have c49b1 : ((Int.tmod t405 2) != 1) = true := bne_iff_ne.mpr c49
           by_cases c76 : x390002_3.length < 17592186044416
           ·rw [if_pos c76] at H
            have LMc76 := z1o.mk c76
            clear c76
            obtain ⟨y411, hy411⟩ : ∃ y_ : List Int, y_ = (x390002_3 ++ [wrap64 (Int.tdiv t405 2)]) := ⟨_, rfl⟩
            replace H : (if t407 = true then (some (t379, x383001_1, t406, t407)) else (zy.l2 k3 t383 x11_1 t399 (wrap64 (x35_3 + 1)) s0_0 t406 t407 t379 x383001_1 t386 x390001_2 y411)) = some (r1, r2, r3, r4) := by first | (rw [hy411]; with_reducible exact H) | (have H2_ := (uk _ _).symm.trans H; rw [hy411]; with_reducible exact H2_) | (have H2_ := (uk _ _).symm.trans H; with_reducible exact H2_) | with_reducible exact H | (rw [hy411]; exact H) | exact H
            have Ny411 := z1o.mk hy411
            clear hy411
            by_cases c77 : t407 = true
            ·subst c77
             have H1 : (some (t379, x383001_1, t406, true)) = some (r1, r2, r3, r4) := by rw [if_pos rfl] at H; exact H
             clear H
             have H := H1
             clear H1
             simp only [Option.some.injEq, Prod.mk.injEq] at H
             obtain ⟨rfl, rfl, rfl, rfl⟩ := H
             go_wp2_with (first | ((with_reducible refine zp (f := 100) rfl ?_); refine goesL_ (some 38) rfl rfl Try.func100 (by kernel_rfl) rfl #[.pointer (some ⟨g, 0, none⟩), .int .i64 2000000000000] rfl (by (try simp only [uh, ui, uj]); first | done | rfl | (simp only [uf, ug]; rfl)) ?_; (with_reducible refine (z17.calls k3 g s0_0 x1001_3 x1002_3 2000000000000 t405 t406 true w0 _ ?side1 ?side2 A48.out).mono ?_); (case side1 => exact y1); (case side2 => exact y5); rintro e w78 ⟨rfl, hi, hb, hk⟩; refine ⟨_, rfl, ?_⟩; have n0_ := z1o.mk (Kd.S_mono (Kd.S_keep (z1p.apartS (show z1p w0 _ g s0_0 x1001_3 x1002_3 from y1) y1q (by decide)) hk (fun _ h => h.2)) (fun _ h => h.1)); have n1_ := z1o.mk (Kd.R_mono (Kd.R_keep (z1p.apart (show z1p w0 _ g s0_0 x1001_3 x1002_3 from y1) y16 (by decide)) hk (fun _ h => h.2)) (fun _ h => h.1)); have n2_ := z1o.mk (Kd.R_mono (Kd.R_keep (z1p.apart (show z1p w0 _ g s0_0 x1001_3 x1002_3 from y1) y1c (by decide)) hk (fun _ h => h.2)) (fun _ h => h.1)); have n3_ := z1o.mk (z1r.blk hk (g' := gb378) (o := .cells #[.string x379000_3, .slice none 0 0] 31 (0, 0)) ye NB378_0.out (by simp)); have n4_ := z1o.mk (z1r.blk hk (g' := gb382) (o := .cells #[.string t379, u383001] 31 (0, 0)) yh NB382_0.out (by simp)); have n5_ := z1o.mk (z1r.blk hk (g' := gb389) (o := .cells #[.string t386, u390001, u390002] 84 (0, 0)) yq NB389_0.out (by simp)); have n6_ := z1o.mk (z1r.trans y2 hk (.inl rfl)); have n7_ := z1o.mk (hb); have n8_ := z1o.mk (hi); clear HO_383001; clear HO_390001; clear HO_390002; clear BK378; clear BK382; clear BK389; clear HK; clear HB; clear HI0; have HO_383001 := n0_; have HO_390001 := n1_; have HO_390002 := n2_; have BK378 := n3_; have BK382 := n4_; have BK389 := n5_; have HK := n6_; have HB := n7_; have HI0 := n8_; clear n0_ n1_ n2_ n3_ n4_ n5_ n6_ n7_ n8_; (try clear hb); (try clear hb2); (try clear hk); (try clear hi); have hnb79 := NB389_378.out; have hnc79 := NB378_389.out; have hnb80 := NB389_382.out; have hnc80 := NB382_389.out; have hnb81 := NB389_0.out; have hnc81 := NB0_389.out; obtain ⟨hcz82_0, hcz82_1, hcz82_2⟩ := cbk3 BK389.out; obtain ⟨hfz82_0, hfz82_1, hfz82_2⟩ := cbf3 BK389.out) | ((with_reducible refine zr (b := .append) (xs := #[.tmp 46, .tmp 49]) rfl ?_); at_builtin; refine Kd.R_append (Kd.int .i64) w.heap.size rfl (.tmp 46) (.tmp 49) 52 3 (.int .i64 0) 8 rfl Try.underlying52 info3 rfl (by decide) (by omega) u390002 x390002_3 (wrap64 (Int.tdiv t405 2)) [.int .i64 (wrap64 (Int.tdiv t405 2))] (fun _ => True) (fun _ => False) rfl rfl ?aP (fun _ hk => hk.elim) ?aF ?aO (Below.refl _ _) ?aS ?aL ?_; (case aP => exact rfl); (case aF => exact (fun _ _ => trivial)); (case aO => exact y1c); (case aS => exact (keep_size (w := w) (g := g) (row := none) y2)); (case aL => have := LMc76.out; omega); intro v412 w83 ho hb hg hat; rw [← Ny411.out] at ho; have n0_ := z1o.mk (Kd.S_after (ok := (fun k_ => some k_ ≠ (u390001 : Value).ownBlock ∧ k_ ≠ gb389)) (by (with_reducible repeat (first | apply Kd.S_alloc | apply Kd.S_drewN | apply Kd.S_drew)); exact Kd.S_mono HO_383001.out (fun _ hk => ⟨⟨hk.1, hk.2.2⟩, hk.2.1⟩)) hg hat); have n1_ := z1o.mk (Kd.R_over' y16 (Kd.R_typed y1c) (by decide) hg); have n2_ := z1o.mk (zf (g := gb378) (o := .cells #[.string x379000_3, .slice none 0 0] 31 (0, 0)) ye hg (Kd.R_ne HO_390002.out BK378.out (by decide))); have n3_ := z1o.mk (zf (g := gb382) (o := .cells #[.string t379, u383001] 31 (0, 0)) yh hg (Kd.R_ne HO_390002.out BK382.out (by decide))); have n4_ := z1o.mk (zf (g := gb389) (o := .cells #[.string t386, u390001, u390002] 84 (0, 0)) yq hg (Kd.R_ne HO_390002.out BK389.out (by decide))); have n5_ := z1o.mk (z1p.grown y1 hg (z1p.own_ne HI0.out HO_390002.out (by decide))); have n6_ := z1o.mk (below_weaken y5 HL.out hb); have n7_ := z1o.mk (z1r.trans y2 (z1r.of_grown hg g) (Kd.R_base2 HO_390002.out)); have n8_ := z1o.mk (ho); clear HO_383001; clear HO_390001; clear BK378; clear BK382; clear BK389; clear HI0; clear HB; clear HK; clear HO_390002; have HO_383001 := n0_; have HO_390001 := n1_; have BK378 := n2_; have BK382 := n3_; have BK389 := n4_; have HI0 := n5_; have HB := n6_; have HK := n7_; have HO413 := n8_; clear n0_ n1_ n2_ n3_ n4_ n5_ n6_ n7_ n8_; clear ho hb hg hat; obtain ⟨Ao84, co84, eo84⟩ := Kd.R_slice HO413.out; subst eo84; obtain ⟨hcz85_0, hcz85_1, hcz85_2⟩ := cbk3 BK389.out; obtain ⟨hfz85_0, hfz85_1, hfz85_2⟩ := cbf3 BK389.out; obtain ⟨ASz86_0, cSz86_0, HGz86, hgz86, HSz86_0, -⟩ := HI0.out; have hcz86_0 := cellS96_0 HGz86; have hcz86_1 := cellS96_1 HGz86; have hcz86_2 := cellS96_2 HGz86; have hfz86_1 := z5 HGz86 1; have hfz86_2 := z5 HGz86 2; clear HGz86 hgz86; have hnb87 := NB382_378.out; have hnc87 := NB378_382.out; have hnb88 := NB382_0.out; have hnc88 := NB0_382.out; obtain ⟨hcz89_0, hcz89_1⟩ := cbk2 BK382.out; obtain ⟨hfz89_0, hfz89_1⟩ := cbf2 BK382.out; have hnb90 := NB378_0.out; have hnc90 := NB0_378.out; obtain ⟨hcz91_0, hcz91_1⟩ := cbk2 BK378.out; obtain ⟨hfz91_0, hfz91_1⟩ := cbf2 BK378.out; obtain ⟨Ao92, co92, eo92⟩ := Kd.S_slice HO_383001.out; subst eo92))
             refine bodyPost_ret (results_cell_row rfl _ _ gb378 31 #[.string t379, .slice Ao92 x383001_1.length co92] (0, 0) _ rfl (by (with_reducible repeat (first | refine z8 ?_ _ | refine z9 ?_ | refine z7 ?_ _)); refine zd (cs := #[.string t379, .slice none 0 0]) ?_ 1 _ rfl; (with_reducible repeat (first | refine z8 ?_ _ | refine z9 ?_ | refine z7 ?_ _)); refine zd (cs := #[.string x379000_3, .slice none 0 0]) ?_ 0 _ rfl; (with_reducible repeat (first | refine z8 ?_ _ | refine z9 ?_ | refine z7 ?_ _)); refine ze ?_ NB378_389.out _; (with_reducible repeat (first | refine z8 ?_ _ | refine z9 ?_ | refine z7 ?_ _)); exact BK378.out) Try.underlying31 rfl (by kernel_rfl)) rfl ?_
             exact ⟨_, by first | rfl | (simp [zm, zl] <;> rfl) | (simp [*, zm, zl] <;> rfl), by (with_reducible repeat (first | apply Kd.S_alloc | apply Kd.S_drewN | apply Kd.S_drew)); exact Kd.S_mono (Kd.S_far (p := ⟨gb378, 1, none⟩) (Kd.S_far (p := ⟨gb378, 0, none⟩) (Kd.S_far (p := ⟨gb389, 2, none⟩) (Kd.S_types (Kd.S_mono HO_383001.out (fun k_ hk => (⟨hk, hk.1.2⟩ : _ ∧ k_ ≠ gb389))) BK378.out (by decide)) (fun _ hk => hk.1.2) (.slice Ao84 y411.length co84)) (fun _ hk => hk.2) (.string t379)) (fun _ hk => hk.2) (.slice Ao92 x383001_1.length co92)) (fun _ hk => trivial), y1, y5, y2⟩
            ·replace c77 := Bool.eq_false_iff.mpr c77
             subst c77
             have H1 : (zy.l2 k3 t383 x11_1 t399 (wrap64 (x35_3 + 1)) s0_0 t406 false t379 x383001_1 t386 x390001_2 y411) = some (r1, r2, r3, r4) := by rw [if_neg (show ¬ (false = true) by decide)] at H; exact H
             clear H
             have H := H1
             clear H1
             have H' := z1o.mk H
             clear H
             go_wp2_with (first | ((with_reducible refine zp (f := 100) rfl ?_); refine goesL_ (some 38) rfl rfl Try.func100 (by kernel_rfl) rfl #[.pointer (some ⟨g, 0, none⟩), .int .i64 2000000000000] rfl (by (try simp only [uh, ui, uj]); first | done | rfl | (simp only [uf, ug]; rfl)) ?_; (with_reducible refine (z17.calls k3 g s0_0 x1001_3 x1002_3 2000000000000 t405 t406 false w0 _ ?side1 ?side2 A48.out).mono ?_); (case side1 => exact y1); (case side2 => exact y5); rintro e w93 ⟨rfl, hi, hb, hk⟩; refine ⟨_, rfl, ?_⟩; have n0_ := z1o.mk (Kd.S_mono (Kd.S_keep (z1p.apartS (show z1p w0 _ g s0_0 x1001_3 x1002_3 from y1) y1q (by decide)) hk (fun _ h => h.2)) (fun _ h => h.1)); have n1_ := z1o.mk (Kd.R_mono (Kd.R_keep (z1p.apart (show z1p w0 _ g s0_0 x1001_3 x1002_3 from y1) y16 (by decide)) hk (fun _ h => h.2)) (fun _ h => h.1)); have n2_ := z1o.mk (Kd.R_mono (Kd.R_keep (z1p.apart (show z1p w0 _ g s0_0 x1001_3 x1002_3 from y1) y1c (by decide)) hk (fun _ h => h.2)) (fun _ h => h.1)); have n3_ := z1o.mk (z1r.blk hk (g' := gb378) (o := .cells #[.string x379000_3, .slice none 0 0] 31 (0, 0)) ye NB378_0.out (by simp)); have n4_ := z1o.mk (z1r.blk hk (g' := gb382) (o := .cells #[.string t379, u383001] 31 (0, 0)) yh NB382_0.out (by simp)); have n5_ := z1o.mk (z1r.blk hk (g' := gb389) (o := .cells #[.string t386, u390001, u390002] 84 (0, 0)) yq NB389_0.out (by simp)); have n6_ := z1o.mk (z1r.trans y2 hk (.inl rfl)); have n7_ := z1o.mk (hb); have n8_ := z1o.mk (hi); clear HO_383001; clear HO_390001; clear HO_390002; clear BK378; clear BK382; clear BK389; clear HK; clear HB; clear HI0; have HO_383001 := n0_; have HO_390001 := n1_; have HO_390002 := n2_; have BK378 := n3_; have BK382 := n4_; have BK389 := n5_; have HK := n6_; have HB := n7_; have HI0 := n8_; clear n0_ n1_ n2_ n3_ n4_ n5_ n6_ n7_ n8_; (try clear hb); (try clear hb2); (try clear hk); (try clear hi); have hnb94 := NB389_378.out; have hnc94 := NB378_389.out; have hnb95 := NB389_382.out; have hnc95 := NB382_389.out; have hnb96 := NB389_0.out; have hnc96 := NB0_389.out; obtain ⟨hcz97_0, hcz97_1, hcz97_2⟩ := cbk3 BK389.out; obtain ⟨hfz97_0, hfz97_1, hfz97_2⟩ := cbf3 BK389.out) | ((with_reducible refine zr (b := .append) (xs := #[.tmp 46, .tmp 49]) rfl ?_); at_builtin; refine Kd.R_append (Kd.int .i64) w.heap.size rfl (.tmp 46) (.tmp 49) 52 3 (.int .i64 0) 8 rfl Try.underlying52 info3 rfl (by decide) (by omega) u390002 x390002_3 (wrap64 (Int.tdiv t405 2)) [.int .i64 (wrap64 (Int.tdiv t405 2))] (fun _ => True) (fun _ => False) rfl rfl ?aP (fun _ hk => hk.elim) ?aF ?aO (Below.refl _ _) ?aS ?aL ?_; (case aP => exact rfl); (case aF => exact (fun _ _ => trivial)); (case aO => exact y1c); (case aS => exact (keep_size (w := w) (g := g) (row := none) y2)); (case aL => have := LMc76.out; omega); intro v412 w98 ho hb hg hat; rw [← Ny411.out] at ho; have n0_ := z1o.mk (Kd.S_after (ok := (fun k_ => some k_ ≠ (u390001 : Value).ownBlock ∧ k_ ≠ gb389)) (by (with_reducible repeat (first | apply Kd.S_alloc | apply Kd.S_drewN | apply Kd.S_drew)); exact Kd.S_mono HO_383001.out (fun _ hk => ⟨⟨hk.1, hk.2.2⟩, hk.2.1⟩)) hg hat); have n1_ := z1o.mk (Kd.R_over' y16 (Kd.R_typed y1c) (by decide) hg); have n2_ := z1o.mk (zf (g := gb378) (o := .cells #[.string x379000_3, .slice none 0 0] 31 (0, 0)) ye hg (Kd.R_ne HO_390002.out BK378.out (by decide))); have n3_ := z1o.mk (zf (g := gb382) (o := .cells #[.string t379, u383001] 31 (0, 0)) yh hg (Kd.R_ne HO_390002.out BK382.out (by decide))); have n4_ := z1o.mk (zf (g := gb389) (o := .cells #[.string t386, u390001, u390002] 84 (0, 0)) yq hg (Kd.R_ne HO_390002.out BK389.out (by decide))); have n5_ := z1o.mk (z1p.grown y1 hg (z1p.own_ne HI0.out HO_390002.out (by decide))); have n6_ := z1o.mk (below_weaken y5 HL.out hb); have n7_ := z1o.mk (z1r.trans y2 (z1r.of_grown hg g) (Kd.R_base2 HO_390002.out)); have n8_ := z1o.mk (ho); clear HO_383001; clear HO_390001; clear BK378; clear BK382; clear BK389; clear HI0; clear HB; clear HK; clear HO_390002; have HO_383001 := n0_; have HO_390001 := n1_; have BK378 := n2_; have BK382 := n3_; have BK389 := n4_; have HI0 := n5_; have HB := n6_; have HK := n7_; have HO413 := n8_; clear n0_ n1_ n2_ n3_ n4_ n5_ n6_ n7_ n8_; clear ho hb hg hat; obtain ⟨Ao99, co99, eo99⟩ := Kd.R_slice HO413.out; subst eo99; obtain ⟨hcz100_0, hcz100_1, hcz100_2⟩ := cbk3 BK389.out; obtain ⟨hfz100_0, hfz100_1, hfz100_2⟩ := cbf3 BK389.out; obtain ⟨ASz101_0, cSz101_0, HGz101, hgz101, HSz101_0, -⟩ := HI0.out; have hcz101_0 := cellS96_0 HGz101; have hcz101_1 := cellS96_1 HGz101; have hcz101_2 := cellS96_2 HGz101; have hfz101_1 := z5 HGz101 1; have hfz101_2 := z5 HGz101 2; clear HGz101 hgz101))
             go_roundg k3
             case measure => have := HK1.out; have := HK2.out; have := HK3.out; omega
             case rel => exact ⟨(wrap64 (x35_3 + 1)), (t406), (false), (x379000_3), (y411), (.slice Ao99 y411.length co99), (by first | rfl | (simp; done) | (simp [*]; done)), H', ⟨by have := HK1.out; have := HK2.out; have := HK3.out; omega⟩, ⟨by (with_reducible repeat (first | apply Kd.S_alloc | apply Kd.S_drewN | apply Kd.S_drew)); exact Kd.S_mono (Kd.S_far (p := ⟨gb389, 2, none⟩) (Kd.S_mono HO_383001.out (fun k_ hk => (⟨hk, hk.1.2⟩ : _ ∧ k_ ≠ gb389))) (fun _ hk => hk.2) (.slice Ao99 y411.length co99)) (fun _ hk => ⟨hk.1.1.1, ⟨hk.1.2, hk.1.1.2⟩⟩)⟩, ⟨by (with_reducible repeat (first | apply Kd.R_alloc | apply Kd.R_drewN | apply Kd.R_drew)); exact Kd.R_mono (Kd.R_far (p := ⟨gb389, 2, none⟩) (Kd.R_types HO_390001.out BK389.out (by decide)) (fun _ hk => hk.2) (.slice Ao99 y411.length co99)) (fun _ hk => trivial)⟩, ⟨by (with_reducible repeat (first | apply Kd.R_alloc | apply Kd.R_drewN | apply Kd.R_drew)); exact Kd.R_mono (Kd.R_far (p := ⟨gb389, 2, none⟩) (Kd.R_types HO413.out BK389.out (by decide)) (fun _ hk => hk.2) (.slice Ao99 y411.length co99)) (fun _ hk => trivial)⟩, ⟨by (with_reducible repeat (first | refine z8 ?_ _ | refine z9 ?_ | refine z7 ?_ _)); refine ze ?_ NB378_389.out _; (with_reducible repeat (first | refine z8 ?_ _ | refine z9 ?_ | refine z7 ?_ _)); exact BK378.out⟩, ⟨by (with_reducible repeat (first | refine z8 ?_ _ | refine z9 ?_ | refine z7 ?_ _)); refine ze ?_ NB382_389.out _; (with_reducible repeat (first | refine z8 ?_ _ | refine z9 ?_ | refine z7 ?_ _)); exact BK382.out⟩, ⟨by (with_reducible repeat (first | refine z8 ?_ _ | refine z9 ?_ | refine z7 ?_ _)); refine zd (cs := #[.string t386, u390001, u390002]) ?_ 2 _ rfl; (with_reducible repeat (first | refine z8 ?_ _ | refine z9 ?_ | refine z7 ?_ _)); exact BK389.out⟩, ⟨y1⟩, ⟨y2⟩, ⟨y5⟩⟩
           ·rw [if_neg c76] at H
            exact absurd H (by simp)
         ·rw [if_neg c47] at H
          have c47b0 : decide (x35_3 < t399) = false := decide_eq_false c47
          clear c47
          by_cases c102 : x383001_1.length < 2199023255552
          ·rw [if_pos c102] at H
           have LMc102 := z1o.mk c102
           clear c102
           obtain ⟨y402, hy402⟩ : ∃ y_ : List (S84), y_ = (x383001_1 ++ [(⟨t386, x390001_2, x390002_3⟩ : S84)]) := ⟨_, rfl⟩
           replace H : (if x1002_3 = true then (some (t379, y402, x1001_3, x1002_3)) else (zy.l0 k3 t383 (wrap64 (x11_1 + 1)) s0_0 x1001_3 x1002_3 t379 y402)) = some (r1, r2, r3, r4) := by first | (rw [hy402]; with_reducible exact H) | (have H2_ := (uk _ _).symm.trans H; rw [hy402]; with_reducible exact H2_) | (have H2_ := (uk _ _).symm.trans H; with_reducible exact H2_) | with_reducible exact H | (rw [hy402]; exact H) | exact H
           have Ny402 := z1o.mk hy402
           clear hy402
           by_cases c103 : x1002_3 = true
           ·subst c103
            have H1 : (some (t379, y402, x1001_3, true)) = some (r1, r2, r3, r4) := by rw [if_pos rfl] at H; exact H
            clear H
            have H := H1
            clear H1
            simp only [Option.some.injEq, Prod.mk.injEq] at H
            obtain ⟨rfl, rfl, rfl, rfl⟩ := H
            have hnb104 := NB382_378.out
            have hnc104 := NB378_382.out
            have hnb105 := NB382_389.out
            have hnc105 := NB389_382.out
            have hnb106 := NB382_0.out
            have hnc106 := NB0_382.out
            obtain ⟨hcz107_0, hcz107_1⟩ := cbk2 BK382.out
            obtain ⟨hfz107_0, hfz107_1⟩ := cbf2 BK382.out
            have hnb108 := NB389_378.out
            have hnc108 := NB378_389.out
            have hnb109 := NB389_0.out
            have hnc109 := NB0_389.out
            obtain ⟨hcz110_0, hcz110_1, hcz110_2⟩ := cbk3 BK389.out
            obtain ⟨hfz110_0, hfz110_1, hfz110_2⟩ := cbf3 BK389.out
            obtain ⟨Ao112, co112, eo112⟩ := Kd.R_slice HO_390001.out
            subst eo112
            obtain ⟨Ao113, co113, eo113⟩ := Kd.R_slice HO_390002.out
            subst eo113
            go_wp2_with (first | ((with_reducible refine zr (b := .append) (xs := #[.tmp 59, .tmp 61]) rfl ?_); at_builtin; refine Kd.S_append k84 w.heap.size rfl (.tmp 59) (.tmp 61) 29 84 (.agg #[(.string ⟨#[]⟩), (.slice none 0 0), (.slice none 0 0)]) 64 rfl Try.underlying29 info84 rfl (by decide) (by omega) u383001 x383001_1 (⟨t386, x390001_2, x390002_3⟩ : S84) [.string t386, .slice Ao112 x390001_2.length co112, .slice Ao113 x390002_3.length co113] (fun k_ => k_ ≠ gb389) (fun k_ => some k_ = (.slice Ao112 x390001_2.length co112 : Value).ownBlock ∨ some k_ = (.slice Ao113 x390002_3.length co113 : Value).ownBlock) rfl rfl ?aP (fun k_ hk_ => hk_.elim (fun h_ => ((Kd.R_mono (ok' := fun k_ => ((fun k_ => k_ ≠ gb389)) k_ ∧ some k_ ≠ (u383001 : Value).ownBlock) (Kd.R_types (Kd.R_apart' (HO_390001.out) (Kd.S_typed HO_383001.out) (by decide)) BK389.out (by decide)) (fun k_ hk => ⟨hk.2, hk.1.2⟩))).1 k_ h_.symm) (fun h_ => ((Kd.R_mono (ok' := fun k_ => ((fun k_ => k_ ≠ gb389)) k_ ∧ some k_ ≠ (u383001 : Value).ownBlock) (Kd.R_types (Kd.R_apart' (HO_390002.out) (Kd.S_typed HO_383001.out) (by decide)) BK389.out (by decide)) (fun k_ hk => ⟨hk.2, hk.1.2⟩))).1 k_ h_.symm)) ?aF ?aO (Below.refl _ _) ?aS ?aL ?_; (case aP => exact k84_mkM _ _ _ (⟨t386, x390001_2, x390002_3⟩ : S84) (Kd.R_mono (Kd.R_tight rfl (Kd.R_mono (ok' := fun k_ => ((fun k_ => k_ ≠ gb389)) k_ ∧ some k_ ≠ (u383001 : Value).ownBlock) (Kd.R_types (Kd.R_apart' (HO_390001.out) (Kd.S_typed HO_383001.out) (by decide)) BK389.out (by decide)) (fun k_ hk => ⟨hk.2, hk.1.2⟩))) (fun _ h_ => Or.inl h_)) (Kd.R_mono (Kd.R_tight rfl (Kd.R_mono (ok' := fun k_ => ((fun k_ => k_ ≠ gb389)) k_ ∧ some k_ ≠ (u383001 : Value).ownBlock) (Kd.R_types (Kd.R_apart' (HO_390002.out) (Kd.S_typed HO_383001.out) (by decide)) BK389.out (by decide)) (fun k_ hk => ⟨hk.2, hk.1.2⟩))) (fun _ h_ => Or.inr (h_)))); (case aF => exact (fun k_ hk => Kd.freshB (g := gb389) (o := .cells #[.string t386, .slice Ao112 x390001_2.length co112, .slice Ao113 x390002_3.length co113] 84 (0, 0)) yq k_ hk)); (case aO => exact (by (with_reducible repeat (first | apply Kd.S_alloc | apply Kd.S_drewN | apply Kd.S_drew)); exact Kd.S_mono HO_383001.out (fun k_ hk => ⟨hk.2.2, fun e_ => e_.elim (fun h_ => hk.1 h_) (fun h_ => hk.2.1 h_)⟩))); (case aS => exact (keep_size (w := w) (g := g) (row := none) y2)); (case aL => have := LMc102.out; omega); intro v403 w111 ho hb hg hat; rw [← Ny402.out] at ho; have n0_ := z1o.mk (zf (g := gb378) (o := .cells #[.string x379000_3, .slice none 0 0] 31 (0, 0)) ye hg (Kd.S_ne HO_383001.out BK378.out (by decide))); have n1_ := z1o.mk (zf (g := gb382) (o := .cells #[.string t379, u383001] 31 (0, 0)) yh hg (Kd.S_ne HO_383001.out BK382.out (by decide))); have n2_ := z1o.mk (zf (g := gb389) (o := .cells #[.string t386, .slice Ao112 x390001_2.length co112, .slice Ao113 x390002_3.length co113] 84 (0, 0)) yq hg (Kd.S_away HO_383001.out (fun _ hk => hk.2.2))); have n3_ := z1o.mk (z1p.grown y1 hg (z1p.own_neS HI0.out HO_383001.out (by decide))); have n4_ := z1o.mk (below_weaken y5 HL.out hb); have n5_ := z1o.mk (z1r.trans y2 (z1r.of_grown hg g) (Kd.S_base2 HO_383001.out)); have n6_ := z1o.mk (ho); clear BK378; clear BK382; clear BK389; clear HI0; clear HB; clear HK; clear HO_383001; clear HO_390001; clear HO_390002; have BK378 := n0_; have BK382 := n1_; have BK389 := n2_; have HI0 := n3_; have HB := n4_; have HK := n5_; have HO404 := n6_; clear n0_ n1_ n2_ n3_ n4_ n5_ n6_; clear ho hb hg hat; obtain ⟨Ao114, co114, eo114⟩ := Kd.S_slice HO404.out; subst eo114; obtain ⟨hcz115_0, hcz115_1⟩ := cbk2 BK382.out; obtain ⟨hfz115_0, hfz115_1⟩ := cbf2 BK382.out; obtain ⟨ASz116_0, cSz116_0, HGz116, hgz116, HSz116_0, -⟩ := HI0.out; have hcz116_0 := cellS96_0 HGz116; have hcz116_1 := cellS96_1 HGz116; have hcz116_2 := cellS96_2 HGz116; have hfz116_1 := z5 HGz116 1; have hfz116_2 := z5 HGz116 2; clear HGz116 hgz116; have hnb117 := NB378_0.out; have hnc117 := NB0_378.out; obtain ⟨hcz118_0, hcz118_1⟩ := cbk2 BK378.out; obtain ⟨hfz118_0, hfz118_1⟩ := cbf2 BK378.out))
            refine bodyPost_ret (results_cell_row rfl _ _ gb378 31 #[.string t379, .slice Ao114 y402.length co114] (0, 0) _ rfl (by (with_reducible repeat (first | refine z8 ?_ _ | refine z9 ?_ | refine z7 ?_ _)); refine zd (cs := #[.string t379, .slice none 0 0]) ?_ 1 _ rfl; (with_reducible repeat (first | refine z8 ?_ _ | refine z9 ?_ | refine z7 ?_ _)); refine zd (cs := #[.string x379000_3, .slice none 0 0]) ?_ 0 _ rfl; (with_reducible repeat (first | refine z8 ?_ _ | refine z9 ?_ | refine z7 ?_ _)); refine ze ?_ NB378_382.out _; (with_reducible repeat (first | refine z8 ?_ _ | refine z9 ?_ | refine z7 ?_ _)); exact BK378.out) Try.underlying31 rfl (by kernel_rfl)) rfl ?_
            exact ⟨_, by first | rfl | (simp [zm, zl] <;> rfl) | (simp [*, zm, zl] <;> rfl), by (with_reducible repeat (first | apply Kd.S_alloc | apply Kd.S_drewN | apply Kd.S_drew)); exact Kd.S_mono (Kd.S_far (p := ⟨gb378, 1, none⟩) (Kd.S_far (p := ⟨gb378, 0, none⟩) (Kd.S_far (p := ⟨gb382, 1, none⟩) (Kd.S_types (Kd.S_types HO404.out BK382.out (by decide)) BK378.out (by decide)) (fun _ hk => hk.1.2) (.slice Ao114 y402.length co114)) (fun _ hk => hk.2) (.string t379)) (fun _ hk => hk.2) (.slice Ao114 y402.length co114)) (fun _ hk => trivial), y1, y5, y2⟩
           ·replace c103 := Bool.eq_false_iff.mpr c103
            subst c103
            have H1 : (zy.l0 k3 t383 (wrap64 (x11_1 + 1)) s0_0 x1001_3 false t379 y402) = some (r1, r2, r3, r4) := by rw [if_neg (show ¬ (false = true) by decide)] at H; exact H
            clear H
            have H := H1
            clear H1
            have H' := z1o.mk H
            clear H
            have hnb119 := NB382_378.out
            have hnc119 := NB378_382.out
            have hnb120 := NB382_389.out
            have hnc120 := NB389_382.out
            have hnb121 := NB382_0.out
            have hnc121 := NB0_382.out
            obtain ⟨hcz122_0, hcz122_1⟩ := cbk2 BK382.out
            obtain ⟨hfz122_0, hfz122_1⟩ := cbf2 BK382.out
            have hnb123 := NB389_378.out
            have hnc123 := NB378_389.out
            have hnb124 := NB389_0.out
            have hnc124 := NB0_389.out
            obtain ⟨hcz125_0, hcz125_1, hcz125_2⟩ := cbk3 BK389.out
            obtain ⟨hfz125_0, hfz125_1, hfz125_2⟩ := cbf3 BK389.out
            obtain ⟨Ao127, co127, eo127⟩ := Kd.R_slice HO_390001.out
            subst eo127
            obtain ⟨Ao128, co128, eo128⟩ := Kd.R_slice HO_390002.out
            subst eo128
            go_wp2_with (first | ((with_reducible refine zr (b := .append) (xs := #[.tmp 59, .tmp 61]) rfl ?_); at_builtin; refine Kd.S_append k84 w.heap.size rfl (.tmp 59) (.tmp 61) 29 84 (.agg #[(.string ⟨#[]⟩), (.slice none 0 0), (.slice none 0 0)]) 64 rfl Try.underlying29 info84 rfl (by decide) (by omega) u383001 x383001_1 (⟨t386, x390001_2, x390002_3⟩ : S84) [.string t386, .slice Ao127 x390001_2.length co127, .slice Ao128 x390002_3.length co128] (fun k_ => k_ ≠ gb389) (fun k_ => some k_ = (.slice Ao127 x390001_2.length co127 : Value).ownBlock ∨ some k_ = (.slice Ao128 x390002_3.length co128 : Value).ownBlock) rfl rfl ?aP (fun k_ hk_ => hk_.elim (fun h_ => ((Kd.R_mono (ok' := fun k_ => ((fun k_ => k_ ≠ gb389)) k_ ∧ some k_ ≠ (u383001 : Value).ownBlock) (Kd.R_types (Kd.R_apart' (HO_390001.out) (Kd.S_typed HO_383001.out) (by decide)) BK389.out (by decide)) (fun k_ hk => ⟨hk.2, hk.1.2⟩))).1 k_ h_.symm) (fun h_ => ((Kd.R_mono (ok' := fun k_ => ((fun k_ => k_ ≠ gb389)) k_ ∧ some k_ ≠ (u383001 : Value).ownBlock) (Kd.R_types (Kd.R_apart' (HO_390002.out) (Kd.S_typed HO_383001.out) (by decide)) BK389.out (by decide)) (fun k_ hk => ⟨hk.2, hk.1.2⟩))).1 k_ h_.symm)) ?aF ?aO (Below.refl _ _) ?aS ?aL ?_; (case aP => exact k84_mkM _ _ _ (⟨t386, x390001_2, x390002_3⟩ : S84) (Kd.R_mono (Kd.R_tight rfl (Kd.R_mono (ok' := fun k_ => ((fun k_ => k_ ≠ gb389)) k_ ∧ some k_ ≠ (u383001 : Value).ownBlock) (Kd.R_types (Kd.R_apart' (HO_390001.out) (Kd.S_typed HO_383001.out) (by decide)) BK389.out (by decide)) (fun k_ hk => ⟨hk.2, hk.1.2⟩))) (fun _ h_ => Or.inl h_)) (Kd.R_mono (Kd.R_tight rfl (Kd.R_mono (ok' := fun k_ => ((fun k_ => k_ ≠ gb389)) k_ ∧ some k_ ≠ (u383001 : Value).ownBlock) (Kd.R_types (Kd.R_apart' (HO_390002.out) (Kd.S_typed HO_383001.out) (by decide)) BK389.out (by decide)) (fun k_ hk => ⟨hk.2, hk.1.2⟩))) (fun _ h_ => Or.inr (h_)))); (case aF => exact (fun k_ hk => Kd.freshB (g := gb389) (o := .cells #[.string t386, .slice Ao127 x390001_2.length co127, .slice Ao128 x390002_3.length co128] 84 (0, 0)) yq k_ hk)); (case aO => exact (by (with_reducible repeat (first | apply Kd.S_alloc | apply Kd.S_drewN | apply Kd.S_drew)); exact Kd.S_mono HO_383001.out (fun k_ hk => ⟨hk.2.2, fun e_ => e_.elim (fun h_ => hk.1 h_) (fun h_ => hk.2.1 h_)⟩))); (case aS => exact (keep_size (w := w) (g := g) (row := none) y2)); (case aL => have := LMc102.out; omega); intro v403 w126 ho hb hg hat; rw [← Ny402.out] at ho; have n0_ := z1o.mk (zf (g := gb378) (o := .cells #[.string x379000_3, .slice none 0 0] 31 (0, 0)) ye hg (Kd.S_ne HO_383001.out BK378.out (by decide))); have n1_ := z1o.mk (zf (g := gb382) (o := .cells #[.string t379, u383001] 31 (0, 0)) yh hg (Kd.S_ne HO_383001.out BK382.out (by decide))); have n2_ := z1o.mk (zf (g := gb389) (o := .cells #[.string t386, .slice Ao127 x390001_2.length co127, .slice Ao128 x390002_3.length co128] 84 (0, 0)) yq hg (Kd.S_away HO_383001.out (fun _ hk => hk.2.2))); have n3_ := z1o.mk (z1p.grown y1 hg (z1p.own_neS HI0.out HO_383001.out (by decide))); have n4_ := z1o.mk (below_weaken y5 HL.out hb); have n5_ := z1o.mk (z1r.trans y2 (z1r.of_grown hg g) (Kd.S_base2 HO_383001.out)); have n6_ := z1o.mk (ho); clear BK378; clear BK382; clear BK389; clear HI0; clear HB; clear HK; clear HO_383001; clear HO_390001; clear HO_390002; have BK378 := n0_; have BK382 := n1_; have BK389 := n2_; have HI0 := n3_; have HB := n4_; have HK := n5_; have HO404 := n6_; clear n0_ n1_ n2_ n3_ n4_ n5_ n6_; clear ho hb hg hat; obtain ⟨Ao129, co129, eo129⟩ := Kd.S_slice HO404.out; subst eo129; obtain ⟨hcz130_0, hcz130_1⟩ := cbk2 BK382.out; obtain ⟨hfz130_0, hfz130_1⟩ := cbf2 BK382.out; obtain ⟨ASz131_0, cSz131_0, HGz131, hgz131, HSz131_0, -⟩ := HI0.out; have hcz131_0 := cellS96_0 HGz131; have hcz131_1 := cellS96_1 HGz131; have hcz131_2 := cellS96_2 HGz131; have hfz131_1 := z5 HGz131 1; have hfz131_2 := z5 HGz131 2; clear HGz131 hgz131))
            go_roundg k3
            case measure => have := HK1.out; have := HK2.out; have := HK3.out; omega
            case rel => exact ⟨(wrap64 (x11_1 + 1)), (x1001_3), (false), (x379000_3), (y402), (.slice Ao129 y402.length co129), (by first | rfl | (simp; done) | (simp [*]; done)), H', ⟨by have := HK1.out; have := HK2.out; have := HK3.out; omega⟩, ⟨by (with_reducible repeat (first | apply Kd.S_alloc | apply Kd.S_drewN | apply Kd.S_drew)); exact Kd.S_mono (Kd.S_far (p := ⟨gb382, 1, none⟩) (Kd.S_types HO404.out BK382.out (by decide)) (fun _ hk => hk.2) (.slice Ao129 y402.length co129)) (fun _ hk => trivial)⟩, ⟨by (with_reducible repeat (first | refine z8 ?_ _ | refine z9 ?_ | refine z7 ?_ _)); refine ze ?_ NB378_382.out _; (with_reducible repeat (first | refine z8 ?_ _ | refine z9 ?_ | refine z7 ?_ _)); exact BK378.out⟩, ⟨by (with_reducible repeat (first | refine z8 ?_ _ | refine z9 ?_ | refine z7 ?_ _)); refine zd (cs := #[.string t379, u383001]) ?_ 1 _ rfl; (with_reducible repeat (first | refine z8 ?_ _ | refine z9 ?_ | refine z7 ?_ _)); exact BK382.out⟩, ⟨y1⟩, ⟨y2⟩, ⟨y5⟩⟩
          ·rw [if_neg c102] at H
           exact absurd H (by simp)
   ·rw [if_neg c11] at H
    have c11b0 : decide (x11_1 < t383) = false := decide_eq_false c11
    clear c11
    simp only [Option.some.injEq, Prod.mk.injEq] at H
    obtain ⟨rfl, rfl, rfl, rfl⟩ := H
    have hnb132 := NB382_378.out
    have hnc132 := NB378_382.out
    have hnb133 := NB382_0.out
    have hnc133 := NB0_382.out
    obtain ⟨hcz134_0, hcz134_1⟩ := cbk2 BK382.out
    obtain ⟨hfz134_0, hfz134_1⟩ := cbf2 BK382.out
    have hnb135 := NB378_0.out
    have hnc135 := NB0_378.out
    obtain ⟨hcz136_0, hcz136_1⟩ := cbk2 BK378.out
    obtain ⟨hfz136_0, hfz136_1⟩ := cbf2 BK378.out
    obtain ⟨Ao137, co137, eo137⟩ := Kd.S_slice HO_383001.out
    subst eo137
    go_wp2
    refine bodyPost_ret (results_cell_row rfl _ _ gb378 31 #[.string t379, .slice Ao137 x383001_1.length co137] (0, 0) _ rfl (by (with_reducible repeat (first | refine z8 ?_ _ | refine z9 ?_ | refine z7 ?_ _)); refine zd (cs := #[.string t379, .slice none 0 0]) ?_ 1 _ rfl; (with_reducible repeat (first | refine z8 ?_ _ | refine z9 ?_ | refine z7 ?_ _)); refine zd (cs := #[.string x379000_1, .slice none 0 0]) ?_ 0 _ rfl; (with_reducible repeat (first | refine z8 ?_ _ | refine z9 ?_ | refine z7 ?_ _)); exact BK378.out) Try.underlying31 rfl (by kernel_rfl)) rfl ?_
    exact ⟨_, by first | rfl | (simp [zm, zl] <;> rfl) | (simp [*, zm, zl] <;> rfl), by (with_reducible repeat (first | apply Kd.S_alloc | apply Kd.S_drewN | apply Kd.S_drew)); exact Kd.S_mono (Kd.S_far (p := ⟨gb378, 1, none⟩) (Kd.S_far (p := ⟨gb378, 0, none⟩) (Kd.S_types HO_383001.out BK378.out (by decide)) (fun _ hk => hk.2) (.string t379)) (fun _ hk => hk.2) (.slice Ao137 x383001_1.length co137)) (fun _ hk => trivial), y10, y1o, y18⟩
end Go.Proofs.Ytndjodgcemgpfaa.Q
end
section
namespace Go.Proofs.Ytndjodgcemgpfaa.Q
open Go.RowKit Go.Proofs.YtndjodgcemgpfaaW.PrintWords Go.Proofs.YtndjodgcemgpfaaW.PrintLast Go.Proofs.YtndjodgcemgpfaaW.PrintMore
def impl_ReadDoc.f (k : Nat) (l0 : List Int) : Option (ByteArray × List S84 × Int) := if (l0.length : Int) > 1048576 then some (ByteArray.empty, [], 2) else (zy.f k l0 0 false).bind fun t => if t.2.2.2 = true then some (ByteArray.empty, [], 15) else if t.2.2.1 = (l0.length : Int) then some (t.1, t.2.1, 0) else some (ByteArray.empty, [], 15)
set_option maxHeartbeats 8000000 in
set_option maxRecDepth 100000 in
theorem impl_ReadDoc.calls (k : Nat) (A0 : Option Addr) (c0 : Nat) (l0 : List Int) (r1 : ByteArray) (r2 : List S84) (r3 : Int) (w : World) (hr0 : Kd.C (Kd.int .u8) w A0 l0.length l0) (hc0 : l0.length ≤ c0) (h : impl_ReadDoc.f k l0 = some (r1, r2, r3)) :
    Calls Try.prog 20 #[.slice A0 l0.length c0] w fun e w' => ∃ v1_ : Value, e = .returned (.tuple #[.agg #[.string r1, v1_], .int .i64 r3]) ∧ Kd.S k84 84 w' w.heap.size (fun _ => True) v1_ r2 ∧ Below w.heap.size w w' := by
  unfold impl_ReadDoc.f at h
  have HR := z1o.mk hr0
  have HC := z1o.mk hc0
  clear hr0 hc0
  have hu31 := Try.underlying31
  have hu96 := Try.underlying96
  have HB := z1o.mk (Below.refl w.heap.size w)
  by_cases k1 : (l0.length : Int) > 1048576
  · rw [if_pos k1] at h
    have k1' : decide (1048576 < (l0.length : Int)) = true := decide_eq_true k1
    clear k1
    simp only [Option.some.injEq, Prod.mk.injEq] at h
    obtain ⟨rfl, rfl, rfl⟩ := h
    go_enter Try.func20, Try.ntmps20
    go_wp2_with fail
    refine bodyPost_ret (results_list (rs := [.cell 2 31, .tmp 3]) rfl (by simp) (.cell w.heap.size 31 #[.string ⟨#[]⟩, .slice none 0 0] (0, 0) _ rfl (blk_new w _) Try.underlying31 rfl (by kernel_rfl) (.tmp .nil))) rfl ?_
    exact ⟨_, rfl, Kd.S_nil _ _ _ _ _, z2 HB.out _⟩
  · rw [if_neg k1] at h
    have k1' : decide (1048576 < (l0.length : Int)) = false := decide_eq_false k1
    clear k1
    obtain ⟨⟨t1, t2, t3, t4⟩, h1, h⟩ := ue.mp h
    have H1 := z1o.mk h1
    clear h1
    replace h : (if t4 = true then some (ByteArray.empty, [], 15) else if t3 = (l0.length : Int) then some (t1, t2, 0) else some (ByteArray.empty, [], 15)) = some (r1, r2, r3) := h
    have HH := z1o.mk h
    clear h
    go_enter Try.func20, Try.ntmps20
    go_wp2_with fail
    go_at_call 58
    refine (zy.calls k (w.heap.size + 1) l0 0 false t1 t2 t3 t4 w _ (by simpa using z1p.new w (w.alloc _) A0 c0 l0 0 false (z2 HB.out _) HR.out HC.out) (z2 (z2 HB.out _) _) H1.out).mono ?_
    rintro e w1 ⟨v1, rfl, hS, hI, hB, hK⟩
    have hb2 := hK.blk (z7 (blk_new w (.cells #[.string ⟨#[]⟩, .slice none 0 0] 31)) _) (show w.heap.size ≠ w.heap.size + 1 by omega) (by simp)
    have B2 := z1o.mk hb2
    have HS := z1o.mk (Kd.S_span hS (show w.heap.size ≤ ((w.alloc _).alloc _).heap.size by simp; omega))
    have HI := z1o.mk hI
    have HB1 := z1o.mk hB
    have h2 := hB.size
    obtain ⟨A1, c1, e1⟩ := Kd.S_slice hS
    subst e1
    clear hS hI hB hK hb2 HB H1
    obtain ⟨AX, cX, HG, _, _, _⟩ := z1p.alloc HI.out (.cells #[.string t1, .slice A1 t2.length c1] 31)
    have hx1 := cellS96_1 HG
    have hx2 := cellS96_2 HG
    clear HG
    have hy := z7 B2.out (.cells #[.string t1, .slice A1 t2.length c1] 31)
    have BY := z1o.mk hy
    have hy0 := (z6 hy 0).trans rfl
    have hy1 := (z6 hy 1).trans rfl
    have hyf := z5 hy
    clear hy
    cases t4 with
    | true =>
      have h := HH.out
      rw [if_pos rfl] at h
      simp only [Option.some.injEq, Prod.mk.injEq] at h
      obtain ⟨rfl, rfl, rfl⟩ := h
      go_wp2_with fail
      refine bodyPost_ret (results_list (rs := [.cell 2 31, .tmp 3]) rfl (by simp) (.cell w.heap.size 31 #[.string ⟨#[]⟩, .slice none 0 0] (0, 0) _ rfl (by simpa using blk_set (blk_set BY.out 0 _) 1 _) Try.underlying31 rfl (by kernel_rfl) (.tmp .nil))) rfl ?_
      exact ⟨_, rfl, Kd.S_nil _ _ _ _ _, z4 (z4 (z2 HB1.out _) (um _)) (um _)⟩
    | false =>
      have h := HH.out
      rw [if_neg (by simp)] at h
      by_cases k2 : t3 = (l0.length : Int)
      · rw [if_pos k2] at h
        simp only [Option.some.injEq, Prod.mk.injEq] at h
        obtain ⟨rfl, rfl, rfl⟩ := h
        clear HH
        subst k2
        go_wp2_with fail
        refine bodyPost_ret (results_list (rs := [.cell 2 31, .tmp 3]) rfl (by simp) (.cell w.heap.size 31 #[.string t1, .slice A1 t2.length c1] (0, 0) _ rfl (by simpa using blk_set (blk_set BY.out 0 _) 1 _) Try.underlying31 rfl (by kernel_rfl) (.tmp .nil))) rfl ?_
        exact ⟨_, rfl, Kd.S_mono (Kd.S_kept HS.out (((Kept.alloc (Kept.refl w1 (fun k_ => k_ = w.heap.size)) _).setCell (.inl rfl) _).setCell (.inl rfl) _) (fun k_ h1_ h2_ => by have h1_ := h1_.1; simp at h1_; omega)) (fun _ _ => trivial), z4 (z4 (z2 HB1.out _) (um _)) (um _)⟩
      · rw [if_neg k2] at h
        simp only [Option.some.injEq, Prod.mk.injEq] at h
        obtain ⟨rfl, rfl, rfl⟩ := h
        clear HH
        go_wp2_with fail
        all_goals first
          | (exfalso; omega)
          | (refine bodyPost_ret (results_list (rs := [.cell 2 31, .tmp 3]) rfl (by simp) (.cell w.heap.size 31 #[.string ⟨#[]⟩, .slice none 0 0] (0, 0) _ rfl (by simpa using blk_set (blk_set BY.out 0 _) 1 _) Try.underlying31 rfl (by kernel_rfl) (.tmp .nil))) rfl ?_
             exact ⟨_, rfl, Kd.S_nil _ _ _ _ _, z4 (z4 (z2 HB1.out _) (um _)) (um _)⟩)
end Go.Proofs.Ytndjodgcemgpfaa.Q
end
section
namespace Go.Proofs.Ytndjodgcemgpfaa.Q
open Go.RowKit Go.Proofs.YtndjodgcemgpfaaW.PrintWords Go.Proofs.YtndjodgcemgpfaaW.PrintLast Go.Proofs.YtndjodgcemgpfaaW.PrintMore
section
variable (b : List Int) (p : Nat)
def getG : Nat → Nat → Nat → Option (Nat × Nat)
 | 0, _, _ => none
 | d + 1, i, v => if p + i < b.length then (if i = 8 ∧ 63 < (rd b ((p + i : Nat) : Int)).toNat then none else
   if (rd b ((p + i : Nat) : Int)).toNat < 128 then (if i = 0 ∨ 0 < (rd b ((p + i : Nat) : Int)).toNat then some (v + (rd b ((p + i : Nat) : Int)).toNat % 128 * 128 ^ i, p + i + 1) else none)
   else getG d (i + 1) (v + (rd b ((p + i : Nat) : Int)).toNat % 128 * 128 ^ i)) else none
def getB : Option (Nat × Nat) := getG b p 9 0 0
theorem rd_isB {b : List Int} (hb : IsB b) (i : Int) : 0 ≤ rd b i ∧ rd b i < 256 := by
 unfold rd
 rw [List.getD_eq_getElem?_getD]
 cases h : b[i.toNat]? with
 | none => simp
 | some x => exact hb x (List.mem_of_getElem? h)
theorem pow_small {i : Nat} (h : i ≤ 8) : 1 ≤ 128 ^ i ∧ 128 ^ i ≤ 72057594037927936 ∧ 128 ^ (i + 1) = 128 * 128 ^ i := by
 refine ⟨Nat.pos_of_ne_zero (by simp), ?_, by rw [Nat.pow_succ, Nat.mul_comm]⟩
 calc 128 ^ i ≤ 128 ^ 8 := Nat.pow_le_pow_right (by omega) h
  _ = 72057594037927936 := by decide
theorem wrap_i64_id : ∀ n : Int, 0 ≤ n → n < 2 ^ 63 → IntKind.i64.wrap n = n := fun n h0 h1 => by
 rw [IntKind.wrap_i64]
 omega
theorem join_bits (v c i : Nat) (hi : i ≤ 8) (hv : v < 128 ^ i) (hc : c < 256) :
  Go.bits .or .i64 (v : Int) (shl .i64 (wrap64 (Go.bits .and .u8 (c : Int) 127)) (wrap64 (7 * (i : Int)))) = ((v + c % 128 * 128 ^ i : Nat) : Int) := by
 obtain ⟨p1, p2, p3⟩ := pow_small hi
 have h1 : Go.bits .and .u8 (c : Int) 127 = ((c % 128 : Nat) : Int) := by
  rw [u8_and (c : Int) 127 (by omega) (by omega) (by omega) (by omega)]
  congr 1
  exact Nat.and_two_pow_sub_one_eq_mod c 7
 have hm : c % 128 * 128 ^ i ≤ 127 * 128 ^ i := Nat.mul_le_mul_right _ (by omega)
 have hp : (128 : Nat) ^ i = 2 ^ (7 * i) := by rw [Nat.pow_mul]
 have h2 : shl .i64 (wrap64 (Go.bits .and .u8 (c : Int) 127)) (wrap64 (7 * (i : Int))) = ((c % 128 * 128 ^ i : Nat) : Int) := by
  rw [h1, z1s (x := ((c % 128 : Nat) : Int)) (by omega) (by omega), z1s (x := 7 * (i : Int)) (by omega) (by omega)]
  unfold shl
  have e : min ((7 * (i : Int)).toNat) IntKind.i64.bits = 7 * i := by
   show min ((7 * (i : Int)).toNat) 64 = 7 * i
   omega
  rw [e, show ((c % 128 : Nat) : Int) * 2 ^ (7 * i) = ((c % 128 * 128 ^ i : Nat) : Int) from by rw [hp]; push_cast; rfl]
  exact wrap_i64_id _ (by omega) (by omega)
 rw [h2, (bits_nat .i64 63 (by decide) wrap_i64_id v (c % 128 * 128 ^ i) (by omega) (by omega)).2]
 congr 1
 have := Nat.two_pow_add_eq_or_of_lt (i := 7 * i) (b := v) (by rw [← hp]; exact hv) (c % 128)
 rw [← hp] at this
 rw [Nat.or_comm, Nat.mul_comm (c % 128), ← this, Nat.add_comm]
theorem implGet_l0 (hb : IsB b) (hl : b.length ≤ 1048576) (hp : p ≤ b.length) : ∀ (d i v : Nat), i + d = 9 → v < 128 ^ i →
  (∀ r, getG b p d i v = some r → Ev (fun k => z1e.l0 k b (p : Int) (v : Int) (i : Int)) ((r.1 : Int), (r.2 : Int), 0)) ∧
  (getG b p d i v = none → Ev (fun k => z1e.l0 k b (p : Int) (v : Int) (i : Int)) (0, 0, 3)) := by
 intro d
 induction d with
 | zero =>
  intro i v hi hv
  refine ⟨fun r h => by simp [getG] at h, fun _ => Ev.step (fun k => z1e.l0.eq_2 _ _ _ _ k) (Ev.ite_neg (by omega) (Ev.step (fun k => z1e.j1.eq_2 _ _ _ _ _ k) (Ev.ite_neg (by simp) (Ev.now _))))⟩
 | succ d ih =>
  intro i v hi hv
  obtain ⟨p1, p2, p3⟩ := pow_small (i := i) (by omega)
  have hw : wrap64 ((p : Int) + (i : Int)) = ((p + i : Nat) : Int) := by rw [z1s (by omega) (by omega)]; omega
  have hw7 : wrap64 (7 * (i : Int)) = 7 * (i : Int) := z1s (by omega) (by omega)
  obtain ⟨hc0, hc1⟩ := rd_isB hb ((p + i : Nat) : Int)
  obtain ⟨c, hc⟩ := Int.eq_ofNat_of_zero_le hc0
  unfold getG
  rw [hc, Int.toNat_natCast]
  have hcl : c < 256 := by omega
  have hj := join_bits v c i (by omega) hv hcl
  have hm : c % 128 * 128 ^ i ≤ 127 * 128 ^ i := Nat.mul_le_mul_right _ (by omega)
  by_cases hin : p + i < b.length
  ·rw [if_pos hin]
   have step : ∀ {r : Int × Int × Int}, Ev (fun k => if (c : Int) < 128 then (if ((v + c % 128 * 128 ^ i : Nat) : Int) > 4611686018427387903 then (some ((0 : Int), (0 : Int), (3 : Int))) else (if ((v + c % 128 * 128 ^ i : Nat) : Int) < 0 then (some (0, 0, 3)) else (if (c : Int) = 0 then (if (i : Int) > 0 then (some (0, 0, 3)) else (some (((v + c % 128 * 128 ^ i : Nat) : Int), wrap64 ((((p + i : Nat) : Int)) + 1), 0))) else (some (((v + c % 128 * 128 ^ i : Nat) : Int), wrap64 ((((p + i : Nat) : Int)) + 1), 0))))) else (z1e.l0 k b (p : Int) ((v + c % 128 * 128 ^ i : Nat) : Int) (wrap64 ((i : Int) + 1)))) r →
     Ev (fun k => z1e.l0 k b (p : Int) (v : Int) (i : Int)) r := fun {r} h => by
    refine Ev.step (fun k => z1e.l0.eq_2 _ _ _ _ k) (Ev.ite_pos (by omega) (Ev.step (fun k => z1e.j1.eq_2 _ _ _ _ _ k) (Ev.ite_pos (by rw [hw]; simp; omega) (Ev.ite_pos (by rw [hw]; omega) (Ev.ite_pos (by rw [hw]; omega) (Ev.ite_pos (by rw [hw7]; omega) ?_))))))
    rw [hw, hc, hj]
    exact h
   by_cases h8 : i = 8 ∧ 63 < c
   ·rw [if_pos h8]
    refine ⟨fun r h => by simp at h, fun _ => step ?_⟩
    obtain ⟨h8, h63⟩ := h8
    subst h8
    by_cases hc7 : c < 128
    ·refine Ev.ite_pos (by omega) (Ev.ite_pos ?_ (Ev.now _))
     have : c % 128 = c := by omega
     rw [this]
     omega
    ·refine Ev.ite_neg (by omega) ?_
     have e9 : wrap64 (((8 : Nat) : Int) + 1) = ((9 : Nat) : Int) := by rw [z1s (by omega) (by omega)]; rfl
     rw [e9]
     exact Ev.step (fun k => z1e.l0.eq_2 _ _ _ _ k) (Ev.ite_neg (by omega) (Ev.step (fun k => z1e.j1.eq_2 _ _ _ _ _ k) (Ev.ite_neg (by simp) (Ev.now _))))
   ·rw [if_neg h8]
    have hv' : v + c % 128 * 128 ^ i ≤ 4611686018427387903 := by
     by_cases hi8 : i = 8
     ·subst hi8
      have : c % 128 * 128 ^ 8 ≤ 63 * 128 ^ 8 := Nat.mul_le_mul_right _ (by omega)
      omega
     ·have : 128 ^ i ≤ 128 ^ 7 := Nat.pow_le_pow_right (by omega) (by omega)
      omega
    by_cases hc7 : c < 128
    ·rw [if_pos hc7]
     have hok : Ev (fun k : Nat => (some (((v + c % 128 * 128 ^ i : Nat) : Int), wrap64 ((((p + i : Nat) : Int)) + 1), (0 : Int)))) (((v + c % 128 * 128 ^ i : Nat) : Int), ((p + i + 1 : Nat) : Int), 0) := by
      rw [z1s (by omega) (by omega)]
      exact Ev.now _
     by_cases hz : i = 0 ∨ 0 < c
     ·rw [if_pos hz]
      refine ⟨fun r h => ?_, fun h => by simp at h⟩
      obtain rfl := Option.some.inj h
      refine step (Ev.ite_pos (by omega) (Ev.ite_neg (by omega) (Ev.ite_neg (by omega) ?_)))
      by_cases hcz : (c : Int) = 0
      ·exact Ev.ite_pos hcz (Ev.ite_neg (by omega) hok)
      ·exact Ev.ite_neg hcz hok
     ·rw [if_neg hz]
      refine ⟨fun r h => by simp at h, fun _ => step (Ev.ite_pos (by omega) (Ev.ite_neg (by omega) (Ev.ite_neg (by omega) (Ev.ite_pos (by omega) (Ev.ite_pos (by omega) (Ev.now _))))))⟩
    ·rw [if_neg hc7]
     have hi8 : i < 8 := by omega
     have := ih (i + 1) (v + c % 128 * 128 ^ i) (by omega) (by omega)
     rw [← wrap_succ (i := i) (by omega)] at this
     exact ⟨fun r h => step (Ev.ite_neg (by omega) (this.1 r h)), fun h => step (Ev.ite_neg (by omega) (this.2 h))⟩
  ·rw [if_neg hin]
   refine ⟨fun r h => by simp at h, fun _ => Ev.step (fun k => z1e.l0.eq_2 _ _ _ _ k) (Ev.ite_pos (by omega) (Ev.step (fun k => z1e.j1.eq_2 _ _ _ _ _ k) (Ev.ite_neg (by rw [hw]; simp; omega) (Ev.now _))))⟩
theorem implGet_ev (hb : IsB b) (hl : b.length ≤ 1048576) (hp : p ≤ b.length) :
  (∀ r, getB b p = some r → Ev (fun k => z1e.f k b (p : Int)) ((r.1 : Int), (r.2 : Int), 0)) ∧ (getB b p = none → Ev (fun k => z1e.f k b (p : Int)) (0, 0, 3)) := by
 have h := implGet_l0 b p hb hl hp 9 0 0 rfl (by simp)
 have hw : impl_within.f (p : Int) 0 (b.length : Int) = some true := by
  unfold impl_within.f
  rw [if_pos (by omega)]
  simp
  omega
 unfold z1e.f
 exact ⟨fun r hr => Ev.ite_neg (by omega) (Ev.const hw (Ev.ite_pos rfl (h.1 r hr))), fun hr => Ev.ite_neg (by omega) (Ev.const hw (Ev.ite_pos rfl (h.2 hr)))⟩
set_option maxHeartbeats 2000000 in
theorem specGet_l0 (hb : IsB b) (hl : b.length ≤ 1048576) (hp : p ≤ b.length) : ∀ (d i v u : Nat), i + d = 9 → v < 128 ^ i → (i ≤ 8 → u = 128 ^ i) →
  (∀ r, getG b p d i v = some r → Ev (fun k => z15.l0 k b (p : Int) (v : Int) (u : Int) (i : Int)) ((r.1 : Int), (r.2 : Int), true)) ∧
  (getG b p d i v = none → ∃ x y, Ev (fun k => z15.l0 k b (p : Int) (v : Int) (u : Int) (i : Int)) (x, y, false)) := by
 intro d
 induction d with
 | zero =>
  intro i v u hi hv hu
  refine ⟨fun r h => by simp [getG] at h, fun _ => ⟨_, _, Ev.step (fun k => z15.l0.eq_2 _ _ _ _ _ k) (Ev.ite_neg (by omega) (Ev.step (fun k => z15.j1.eq_2 _ _ _ _ _ _ k) (Ev.ite_neg (by simp) (Ev.now _))))⟩⟩
 | succ d ih =>
  intro i v u hi hv hu
  obtain ⟨p1, p2, p3⟩ := pow_small (i := i) (by omega)
  obtain rfl := hu (by omega)
  have hw : wrap64 ((p : Int) + (i : Int)) = ((p + i : Nat) : Int) := by rw [z1s (by omega) (by omega)]; omega
  obtain ⟨hc0, hc1⟩ := rd_isB hb ((p + i : Nat) : Int)
  obtain ⟨c, hc⟩ := Int.eq_ofNat_of_zero_le hc0
  unfold getG
  rw [hc, Int.toNat_natCast]
  have hcl : c < 256 := by omega
  have hm : c % 128 * 128 ^ i ≤ 127 * 128 ^ i := Nat.mul_le_mul_right _ (by omega)
  by_cases hin : p + i < b.length
  ·rw [if_pos hin]
   have step8 : i = 8 → ∀ {r : Int × Int × Bool}, Ev (fun k => z15.j2 k b (p : Int) (v : Int) ((128 ^ i : Nat) : Int) (i : Int) (c : Int) (decide ((c : Int) > 63))) r → Ev (fun k => z15.l0 k b (p : Int) (v : Int) ((128 ^ i : Nat) : Int) (i : Int)) r := fun h8 {r} h => by
    refine Ev.step (fun k => z15.l0.eq_2 _ _ _ _ _ k) (Ev.ite_pos (by omega) (Ev.step (fun k => z15.j1.eq_2 _ _ _ _ _ _ k) (Ev.ite_pos (by rw [hw]; simp; omega) (Ev.ite_pos (by rw [hw]; omega) (Ev.ite_pos (by rw [hw]; omega) (Ev.ite_pos (by omega) ?_))))))
    rw [hw, hc, z1s (x := (c : Int)) (by omega) (by omega)]
    exact h
   have stepn : i ≠ 8 → ∀ {r : Int × Int × Bool}, Ev (fun k => z15.j2 k b (p : Int) (v : Int) ((128 ^ i : Nat) : Int) (i : Int) (c : Int) false) r → Ev (fun k => z15.l0 k b (p : Int) (v : Int) ((128 ^ i : Nat) : Int) (i : Int)) r := fun h8 {r} h => by
    refine Ev.step (fun k => z15.l0.eq_2 _ _ _ _ _ k) (Ev.ite_pos (by omega) (Ev.step (fun k => z15.j1.eq_2 _ _ _ _ _ _ k) (Ev.ite_pos (by rw [hw]; simp; omega) (Ev.ite_pos (by rw [hw]; omega) (Ev.ite_pos (by rw [hw]; omega) (Ev.ite_neg (by omega) ?_))))))
    rw [hw, hc, z1s (x := (c : Int)) (by omega) (by omega)]
    exact h
   by_cases h8 : i = 8 ∧ 63 < c
   ·rw [if_pos h8]
    exact ⟨fun r h => by simp at h, fun _ => ⟨_, _, step8 h8.1 (Ev.step (fun k => z15.j2.eq_2 _ _ _ _ _ _ _ k) (Ev.ite_pos (by simp; omega) (Ev.now _)))⟩⟩
   ·rw [if_neg h8]
    have hv' : v + c % 128 * 128 ^ i ≤ 4611686018427387903 := by
     by_cases hi8 : i = 8
     ·subst hi8
      have : c % 128 * 128 ^ 8 ≤ 63 * 128 ^ 8 := Nat.mul_le_mul_right _ (by omega)
      omega
     ·have : 128 ^ i ≤ 128 ^ 7 := Nat.pow_le_pow_right (by omega) (by omega)
      omega
    have hval : wrap64 ((v : Int) + (wrap64 ((Int.tmod (c : Int) 128) * ((128 ^ i : Nat) : Int)))) = ((v + c % 128 * 128 ^ i : Nat) : Int) := by
     rw [Int.tmod_eq_emod_of_nonneg (by omega), show ((c : Int) % 128) * ((128 ^ i : Nat) : Int) = ((c % 128 * 128 ^ i : Nat) : Int) from by push_cast; rfl]
     rw [z1s (x := ((c % 128 * 128 ^ i : Nat) : Int)) (by omega) (by omega), z1s (by omega) (by omega)]
     omega
    have step : ∀ {r : Int × Int × Bool}, Ev (fun k => if (c : Int) < 128 then (if (i : Int) = 0 then (some (((v + c % 128 * 128 ^ i : Nat) : Int), wrap64 ((wrap64 ((p : Int) + (i : Int))) + 1), true)) else (some (((v + c % 128 * 128 ^ i : Nat) : Int), wrap64 ((wrap64 ((p : Int) + (i : Int))) + 1), decide ((c : Int) > 0)))) else (if (i : Int) < 8 then (z15.l0 k b (p : Int) (((v + c % 128 * 128 ^ i : Nat) : Int)) (wrap64 (((128 ^ i : Nat) : Int) * 128)) (wrap64 ((i : Int) + 1))) else (z15.l0 k b (p : Int) (((v + c % 128 * 128 ^ i : Nat) : Int)) ((128 ^ i : Nat) : Int) (wrap64 ((i : Int) + 1))))) r →
      Ev (fun k => z15.l0 k b (p : Int) (v : Int) ((128 ^ i : Nat) : Int) (i : Int)) r := fun {r} h => by
     by_cases hi8 : i = 8
     ·refine step8 hi8 (Ev.step (fun k => z15.j2.eq_2 _ _ _ _ _ _ _ k) (Ev.ite_neg (by simp; omega) ?_))
      rw [hval]
      exact h
     ·refine stepn hi8 (Ev.step (fun k => z15.j2.eq_2 _ _ _ _ _ _ _ k) (Ev.ite_neg (by simp) ?_))
      rw [hval]
      exact h
    by_cases hc7 : c < 128
    ·rw [if_pos hc7]
     have hn : wrap64 ((wrap64 ((p : Int) + (i : Int))) + 1) = ((p + i + 1 : Nat) : Int) := by rw [hw, z1s (by omega) (by omega)]; omega
     rw [hn] at step
     by_cases hz : i = 0 ∨ 0 < c
     ·rw [if_pos hz]
      refine ⟨fun r h => ?_, fun h => by simp at h⟩
      obtain rfl := Option.some.inj h
      refine step (Ev.ite_pos (by omega) ?_)
      by_cases hi0 : (i : Int) = 0
      ·exact Ev.ite_pos hi0 (Ev.now _)
      ·refine Ev.ite_neg hi0 (Ev.eq (Ev.now _) ?_)
       rw [decide_eq_true (show (c : Int) > 0 by omega)]
     ·rw [if_neg hz]
      refine ⟨fun r h => by simp at h, fun _ => ⟨_, _, step (Ev.ite_pos (by omega) (Ev.ite_neg (by omega) (Ev.eq (Ev.now _) (by rw [decide_eq_false (show ¬ (c : Int) > 0 by omega)]))))⟩⟩
    ·rw [if_neg hc7]
     have hi8 : i < 8 := by omega
     have h7 : 128 ^ i ≤ 128 ^ 7 := Nat.pow_le_pow_right (by omega) (by omega)
     have hu2 : wrap64 (((128 ^ i : Nat) : Int) * 128) = ((128 ^ (i + 1) : Nat) : Int) := by
      rw [p3]
      clear hval step hm hv hv' ih
      generalize 128 ^ i = u at *
      rw [z1s (by omega) (by omega)]
      omega
     have hlt : v + c % 128 * 128 ^ i < 128 ^ (i + 1) := by
      rw [p3]
      clear hval step hv' ih hu2
      generalize 128 ^ i = u at *
      generalize c % 128 * u = y at *
      omega
     have := ih (i + 1) (v + c % 128 * 128 ^ i) (128 ^ (i + 1)) (by clear hval step hm hv hv' ih hu2 hlt h7; omega) hlt (fun _ => rfl)
     rw [← wrap_succ (i := i) (by omega), ← hu2] at this
     exact ⟨fun r h => step (Ev.ite_neg (by omega) (Ev.ite_pos (by omega) (this.1 r h))), fun h => by
      obtain ⟨x, y, h⟩ := this.2 h
      exact ⟨x, y, step (Ev.ite_neg (by omega) (Ev.ite_pos (by omega) h))⟩⟩
  ·rw [if_neg hin]
   exact ⟨fun r h => by simp at h, fun _ => ⟨_, _, Ev.step (fun k => z15.l0.eq_2 _ _ _ _ _ k) (Ev.ite_pos (by omega) (Ev.step (fun k => z15.j1.eq_2 _ _ _ _ _ _ k) (Ev.ite_neg (by rw [hw]; simp; omega) (Ev.now _))))⟩⟩
theorem specGet_ev (hb : IsB b) (hl : b.length ≤ 1048576) (hp : p ≤ b.length) :
  (∀ r, getB b p = some r → Ev (fun k => z15.f k b (p : Int)) ((r.1 : Int), (r.2 : Int), true)) ∧ (getB b p = none → ∃ x y, Ev (fun k => z15.f k b (p : Int)) (x, y, false)) :=
 specGet_l0 b p hb hl hp 9 0 0 1 rfl (by simp) (fun _ => rfl)
theorem getG_le : ∀ (d i v : Nat) r, i + d = 9 → v < 128 ^ i → getG b p d i v = some r → r.1 ≤ 9223372036854775807 ∧ p < r.2 ∧ r.2 ≤ b.length := by
 intro d
 induction d with
 | zero => intro i v r hi hv h; simp [getG] at h
 | succ d ih =>
  intro i v r hi hv h
  obtain ⟨p1, p2, p3⟩ := pow_small (i := i) (by omega)
  unfold getG at h
  have hm : (rd b ((p + i : Nat) : Int)).toNat % 128 * 128 ^ i ≤ 127 * 128 ^ i := Nat.mul_le_mul_right _ (by omega)
  split at h
  ·split at h
   ·simp at h
   ·split at h
    ·split at h
     ·obtain rfl := Option.some.inj h
      exact ⟨by show v + _ ≤ _; omega, by show p < p + i + 1; omega, by show p + i + 1 ≤ _; omega⟩
     ·simp at h
    ·exact ih _ _ r (by omega) (by omega) h
  ·simp at h
theorem getB_le {r : Nat × Nat} (h : getB b p = some r) : r.1 ≤ 9223372036854775807 ∧ p < r.2 ∧ r.2 ≤ b.length := getG_le b p 9 0 0 r rfl (by simp) h
end
end Go.Proofs.Ytndjodgcemgpfaa.Q
end
section
namespace Go.Proofs.Ytndjodgcemgpfaa.Q
open Go.RowKit Go.Proofs.YtndjodgcemgpfaaW.PrintWords Go.Proofs.YtndjodgcemgpfaaW.PrintLast Go.Proofs.YtndjodgcemgpfaaW.PrintMore
section
variable (b : List Int)
def rdT (p : Nat) : Option (ByteArray × Nat) := (getB b p).bind fun r => if r.1 ≤ 65536 ∧ r.2 + r.1 ≤ b.length then some (strOfNums ((b.take (r.2 + r.1)).drop r.2), r.2 + r.1) else none
def rdC (p : Nat) : Option (Nat × Nat) := (getB b p).bind fun r => if r.1 ≤ 4096 then some r else none
def numV (n : Nat) : Int := if n % 2 = 1 then -(((n + 1) / 2 : Nat) : Int) else ((n / 2 : Nat) : Int)
def rdN (p : Nat) : Option (Int × Nat) := (getB b p).bind fun r => if r.1 ≤ 2000000000000 then some (numV r.1, r.2) else none
def rdTs : Nat → Nat → Option (List ByteArray × Nat)
 | 0, p => some ([], p)
 | m + 1, p => (rdT b p).bind fun r => (rdTs m r.2).bind fun s => some (r.1 :: s.1, s.2)
def rdNs : Nat → Nat → Option (List Int × Nat)
 | 0, p => some ([], p)
 | m + 1, p => (rdN b p).bind fun r => (rdNs m r.2).bind fun s => some (r.1 :: s.1, s.2)
def rdV (p : Nat) : Option (S84 × Nat) := (rdT b p).bind fun f => (rdC b f.2).bind fun c => (rdTs b c.1 c.2).bind fun ts => (rdC b ts.2).bind fun d => (rdNs b d.1 d.2).bind fun ns => some (⟨f.1, ts.1, ns.1⟩, ns.2)
def rdVs : Nat → Nat → Option (List S84 × Nat)
 | 0, p => some ([], p)
 | m + 1, p => (rdV b p).bind fun r => (rdVs m r.2).bind fun s => some (r.1 :: s.1, s.2)
def rdD : Option (ByteArray × List S84 × Nat) := (rdT b 0).bind fun f => (rdC b f.2).bind fun c => (rdVs b c.1 c.2).bind fun vs => some (f.1, vs.1, vs.2)
def rdR : ByteArray × List S84 × Int := match rdD b with
 | some r => if r.2.2 = b.length then (r.1, r.2.1, 0) else (ByteArray.empty, [], 15)
 | none => (ByteArray.empty, [], 15)
theorem opt_split {α : Type} (o : Option α) : o = none ∨ ∃ r, o = some r := by cases o <;> simp
theorem rdT_le {p : Nat} {r : ByteArray × Nat} (h : rdT b p = some r) : r.2 ≤ b.length := by
 unfold rdT at h
 obtain ⟨q, hq, h⟩ := ue.1 h
 split at h
 ·rename_i hh
  obtain rfl := Option.some.inj h
  exact hh.2
 ·simp at h
theorem rdC_le {p : Nat} {r : Nat × Nat} (h : rdC b p = some r) : r.1 ≤ 4096 ∧ r.2 ≤ b.length := by
 unfold rdC at h
 obtain ⟨q, hq, h⟩ := ue.1 h
 split at h
 ·rename_i hh
  obtain rfl := Option.some.inj h
  exact ⟨hh, (getB_le b p hq).2.2⟩
 ·simp at h
theorem rdN_le {p : Nat} {r : Int × Nat} (h : rdN b p = some r) : r.2 ≤ b.length := by
 unfold rdN at h
 obtain ⟨q, hq, h⟩ := ue.1 h
 split at h
 ·obtain rfl := Option.some.inj h
  exact (getB_le b p hq).2.2
 ·simp at h
theorem rdTs_le : ∀ (m p : Nat) (r : List ByteArray × Nat), p ≤ b.length → rdTs b m p = some r → r.2 ≤ b.length ∧ r.1.length = m
 | 0, p, r, hp, h => by
  obtain rfl := Option.some.inj h
  exact ⟨hp, rfl⟩
 | m + 1, p, r, hp, h => by
  unfold rdTs at h
  obtain ⟨q, hq, h⟩ := ue.1 h
  obtain ⟨s, hs, h⟩ := ue.1 h
  obtain rfl := Option.some.inj h
  have := rdTs_le m q.2 s (rdT_le b hq) hs
  exact ⟨this.1, by simp [this.2]⟩
theorem rdNs_le : ∀ (m p : Nat) (r : List Int × Nat), p ≤ b.length → rdNs b m p = some r → r.2 ≤ b.length ∧ r.1.length = m
 | 0, p, r, hp, h => by
  obtain rfl := Option.some.inj h
  exact ⟨hp, rfl⟩
 | m + 1, p, r, hp, h => by
  unfold rdNs at h
  obtain ⟨q, hq, h⟩ := ue.1 h
  obtain ⟨s, hs, h⟩ := ue.1 h
  obtain rfl := Option.some.inj h
  have := rdNs_le m q.2 s (rdN_le b hq) hs
  exact ⟨this.1, by simp [this.2]⟩
theorem rdV_le {p : Nat} {r : S84 × Nat} (h : rdV b p = some r) : r.2 ≤ b.length ∧ r.1.f1.length ≤ 4096 ∧ r.1.f2.length ≤ 4096 := by
 unfold rdV at h
 obtain ⟨f, hf, h⟩ := ue.1 h
 obtain ⟨c, hc, h⟩ := ue.1 h
 obtain ⟨ts, hts, h⟩ := ue.1 h
 obtain ⟨d, hd, h⟩ := ue.1 h
 obtain ⟨ns, hns, h⟩ := ue.1 h
 obtain rfl := Option.some.inj h
 have h1 := rdC_le b hc
 have h2 := rdC_le b hd
 have h3 := rdTs_le b _ _ _ h1.2 hts
 have h4 := rdNs_le b _ _ _ h2.2 hns
 exact ⟨h4.1, by rw [h3.2]; exact h1.1, by rw [h4.2]; exact h2.1⟩
theorem rdVs_le : ∀ (m p : Nat) (r : List S84 × Nat), p ≤ b.length → rdVs b m p = some r → r.2 ≤ b.length ∧ r.1.length = m ∧ ∀ x ∈ r.1, x.f1.length ≤ 4096 ∧ x.f2.length ≤ 4096
 | 0, p, r, hp, h => by
  obtain rfl := Option.some.inj h
  exact ⟨hp, rfl, by simp⟩
 | m + 1, p, r, hp, h => by
  unfold rdVs at h
  obtain ⟨q, hq, h⟩ := ue.1 h
  obtain ⟨s, hs, h⟩ := ue.1 h
  obtain rfl := Option.some.inj h
  have h0 := rdV_le b hq
  have := rdVs_le m q.2 s h0.1 hs
  exact ⟨this.1, by simp [this.2.1], fun x hx => (List.mem_cons.1 hx).elim (fun e => e ▸ h0.2) (this.2.2 x)⟩
theorem num_bad (p : Int) : Ev (fun k => z1h.f k b p true) (0, p, true) := Ev.ite_pos rfl (Ev.now _)
theorem count_bad (p : Int) : Ev (fun k => spec_l06Reader_count.f k b p true) (0, p, true) := Ev.bind (num_bad b p) (Ev.ite_neg (by simp) (Ev.now _))
variable (hb : IsB b) (hl : b.length ≤ 1048576)
include hb hl
theorem num_ev (p : Nat) (hp : p ≤ b.length) : (∀ r, getB b p = some r → Ev (fun k => z1h.f k b (p : Int) false) ((r.1 : Int), (r.2 : Int), false)) ∧ (getB b p = none → Ev (fun k => z1h.f k b (p : Int) false) (0, (p : Int), true)) := by
 have h := specGet_ev b p hb hl hp
 refine ⟨fun r hr => Ev.ite_neg (by simp) (Ev.bind (h.1 r hr) (Ev.ite_pos rfl (Ev.now _))), fun hr => ?_⟩
 obtain ⟨x, y, h⟩ := h.2 hr
 exact Ev.ite_neg (by simp) (Ev.bind h (Ev.ite_neg (by simp) (Ev.now _)))
theorem specT_ev (p : Nat) (hp : p ≤ b.length) : (∀ r, rdT b p = some r → Ev (fun k => z1i.f k b (p : Int) false) (r.1, (r.2 : Int), false)) ∧ (rdT b p = none → ∃ q, Ev (fun k => z1i.f k b (p : Int) false) (ByteArray.empty, q, true)) := by
 have h := num_ev b hb hl p hp
 unfold rdT
 rcases opt_split (getB b p) with hg | ⟨⟨v, n⟩, hg⟩
 ·rw [hg]
  exact ⟨fun r hr => by simp at hr, fun _ => ⟨_, Ev.bind (h.2 hg) (Ev.ite_pos rfl (Ev.now _))⟩⟩
 ·have hle := getB_le b p hg
  have hle1 : v ≤ 9223372036854775807 := hle.1
  have hle2 : n ≤ b.length := hle.2.2
  rw [hg]
  have w1 : wrap64 ((b.length : Int) - (n : Int)) = (b.length : Int) - (n : Int) := z1s (by omega) (by omega)
  by_cases h1 : v ≤ 65536 ∧ n + v ≤ b.length
  ·have e : (Option.bind (some (v, n)) fun r => if r.1 ≤ 65536 ∧ r.2 + r.1 ≤ b.length then some (strOfNums ((b.take (r.2 + r.1)).drop r.2), r.2 + r.1) else none) = some (strOfNums ((b.take (n + v)).drop n), n + v) := if_pos h1
   rw [e]
   refine ⟨fun r hr => ?_, fun hr => by simp at hr⟩
   obtain rfl := Option.some.inj hr
   refine Ev.bind (h.1 _ hg) (Ev.ite_neg (by simp) ?_)
   have w2 : wrap64 ((n : Int) + (v : Int)) = ((n + v : Nat) : Int) := by rw [z1s (by omega) (by omega)]; omega
   have w3 : wrap64 (((n + v : Nat) : Int) - (v : Int)) = (n : Int) := by rw [z1s (by omega) (by omega)]; omega
   show Ev (fun k => if (v : Int) > wrap64 ((b.length : Int) - (n : Int)) then _ else _) _
   rw [w1]
   refine Ev.ite_neg (by omega) (Ev.ite_neg (by show ¬ (v : Int) > 65536; omega) ?_)
   show Ev (fun k => if 0 ≤ wrap64 (wrap64 ((n : Int) + (v : Int)) - (v : Int)) ∧ wrap64 (wrap64 ((n : Int) + (v : Int)) - (v : Int)) ≤ wrap64 ((n : Int) + (v : Int)) ∧ wrap64 ((n : Int) + (v : Int)) ≤ (b.length : Int) then some (strOfNums ((b.take (wrap64 ((n : Int) + (v : Int))).toNat).drop (wrap64 (wrap64 ((n : Int) + (v : Int)) - (v : Int))).toNat), wrap64 ((n : Int) + (v : Int)), false) else none) _
   rw [w2, w3]
   exact Ev.ite_pos ⟨by omega, by omega, by omega⟩ (Ev.now _)
  ·have e : (Option.bind (some (v, n)) fun r => if r.1 ≤ 65536 ∧ r.2 + r.1 ≤ b.length then some (strOfNums ((b.take (r.2 + r.1)).drop r.2), r.2 + r.1) else none) = none := if_neg h1
   rw [e]
   refine ⟨fun r hr => by simp at hr, fun _ => ⟨(n : Int), Ev.bind (h.1 _ hg) (Ev.ite_neg (by simp) ?_)⟩⟩
   show Ev (fun k => if (v : Int) > wrap64 ((b.length : Int) - (n : Int)) then _ else _) _
   rw [w1]
   by_cases h2 : (v : Int) > (b.length : Int) - (n : Int)
   ·exact Ev.ite_pos h2 (Ev.now _)
   ·exact Ev.ite_neg h2 (Ev.ite_pos (by show (v : Int) > 65536; omega) (Ev.now _))
theorem specC_ev (p : Nat) (hp : p ≤ b.length) : (∀ r, rdC b p = some r → Ev (fun k => spec_l06Reader_count.f k b (p : Int) false) ((r.1 : Int), (r.2 : Int), false)) ∧ (rdC b p = none → ∃ q, Ev (fun k => spec_l06Reader_count.f k b (p : Int) false) (0, q, true)) := by
 have h := num_ev b hb hl p hp
 unfold rdC
 rcases opt_split (getB b p) with hg | ⟨⟨v, n⟩, hg⟩
 ·rw [hg]
  exact ⟨fun r hr => by simp at hr, fun _ => ⟨_, Ev.bind (h.2 hg) (Ev.ite_neg (by simp) (Ev.now _))⟩⟩
 ·rw [hg]
  by_cases h1 : v ≤ 4096
  ·refine ⟨fun r hr => ?_, fun hr => ?_⟩
   ·have e : r = (v, n) := by simpa [h1] using hr.symm
    subst e
    exact Ev.bind (h.1 _ hg) (Ev.ite_neg (by show ¬ (v : Int) > 4096; omega) (Ev.now _))
   ·simp [h1] at hr
  ·refine ⟨fun r hr => ?_, fun hr => ⟨_, Ev.bind (h.1 _ hg) (Ev.ite_pos (by show (v : Int) > 4096; omega) (Ev.now _))⟩⟩
   simp [h1] at hr
omit hb hl in
theorem numV_odd {v : Nat} (h : v % 2 = 1) (hv : v ≤ 2000000000000) : wrap64 (Int.tdiv (wrap64 (-(wrap64 ((v : Int) + 1)))) 2) = numV v := by
 unfold numV
 rw [if_pos h, z1s (x := (v : Int) + 1) (by omega) (by omega), z1s (x := -((v : Int) + 1)) (by omega) (by omega), Int.neg_tdiv, Int.tdiv_eq_ediv_of_nonneg (by omega), z1s (by omega) (by omega)]
 omega
omit hb hl in
theorem numV_even {v : Nat} (h : ¬ v % 2 = 1) (hv : v ≤ 2000000000000) : wrap64 (Int.tdiv (v : Int) 2) = numV v := by
 unfold numV
 rw [if_neg h, Int.tdiv_eq_ediv_of_nonneg (by omega), z1s (by omega) (by omega)]
 omega
omit hb hl in
theorem tmod_odd {v : Nat} : Int.tmod (v : Int) 2 = 1 ↔ v % 2 = 1 := by
 rw [Int.tmod_eq_emod_of_nonneg (by omega)]
 omega
theorem specN_ev (p : Nat) (hp : p ≤ b.length) : (∀ r, rdN b p = some r → Ev (fun k => spec_l06Reader_number.f k b (p : Int) false) (r.1, (r.2 : Int), false)) ∧ (rdN b p = none → ∃ x q, Ev (fun k => spec_l06Reader_number.f k b (p : Int) false) (x, q, true)) := by
 have h := num_ev b hb hl p hp
 unfold rdN
 rcases opt_split (getB b p) with hg | ⟨⟨v, n⟩, hg⟩
 ·rw [hg]
  exact ⟨fun r hr => by simp at hr, fun _ => ⟨_, _, Ev.bind (h.2 hg) (Ev.ite_neg (by simp) (Ev.ite_neg (by show ¬ Int.tmod 0 2 = 1; decide) (Ev.now _)))⟩⟩
 ·rw [hg]
  by_cases h1 : v ≤ 2000000000000
  ·refine ⟨fun r hr => ?_, fun hr => ?_⟩
   ·have e : r = (numV v, n) := by simpa [h1] using hr.symm
    subst e
    refine Ev.bind (h.1 _ hg) (Ev.ite_neg (by show ¬ (v : Int) > 2000000000000; omega) ?_)
    by_cases h2 : v % 2 = 1
    ·exact Ev.ite_pos (tmod_odd |>.2 h2) (Ev.eq (Ev.now _) (by rw [← numV_odd h2 h1]))
    ·exact Ev.ite_neg (fun h3 => h2 ((tmod_odd).1 h3)) (Ev.eq (Ev.now _) (by rw [← numV_even h2 h1]))
   ·simp [h1] at hr
  ·refine ⟨fun r hr => ?_, fun hr => ⟨_, _, Ev.bind (h.1 _ hg) (Ev.ite_pos (by show (v : Int) > 2000000000000; omega) (Ev.now _))⟩⟩
   simp [h1] at hr
omit hb hl in
theorem wrap_pred (m : Nat) (h : m ≤ 4096) : wrap64 (((m + 1 : Nat) : Int) - 1) = (m : Int) := by
 rw [z1s (by omega) (by omega)]
 omega
def Bad (g : Nat → Option (ByteArray × List S84 × Int × Bool)) : Prop := ∃ x y z, Ev g (x, y, z, true)
omit hb hl in
theorem badL0 (x4 p : Int) (id : ByteArray) (vs : List S84) : Bad (fun k => zx.l0 k x4 b p true id vs) := by
 refine ⟨id, vs, p, Ev.step (fun k => zx.l0.eq_2 _ _ _ _ _ _ k) ?_⟩
 by_cases h : x4 > 0
 ·exact Ev.ite_pos h (Ev.step (fun k => zx.j1.eq_2 _ _ _ _ _ _ _ k) (Ev.ite_neg (by simp) (Ev.now _)))
 ·exact Ev.ite_neg h (Ev.step (fun k => zx.j1.eq_2 _ _ _ _ _ _ _ k) (Ev.ite_neg (by simp) (Ev.now _)))
omit hb hl in
theorem Bad.step {g f : Nat → Option (ByteArray × List S84 × Int × Bool)} (h : ∀ k, g (k + 1) = f k) (k : Bad f) : Bad g := by
 obtain ⟨x, y, z, k⟩ := k
 exact ⟨x, y, z, Ev.step h k⟩
omit hb hl in
theorem Bad.of {g f : Nat → Option (ByteArray × List S84 × Int × Bool)} (h : ∀ r, Ev f r → Ev g r) (k : Bad f) : Bad g := by
 obtain ⟨x, y, z, k⟩ := k
 exact ⟨x, y, z, h _ k⟩
omit hb hl in
theorem badL2 (x4 x7 p : Int) (id f : ByteArray) (vs : List S84) (ts : List ByteArray) (ns : List Int) (hv : vs.length < 2199023255552) : Bad (fun k => zx.l2 k x4 x7 b p true id vs f ts ns) := by
 refine Bad.step (fun k => zx.l2.eq_2 _ _ _ _ _ _ _ _ _ _ k) (Bad.of (fun r h => ?_) (badL0 b (wrap64 (x4 - 1)) p id (vs ++ [⟨f, ts, ns⟩])))
 by_cases h7 : x7 > 0
 ·exact Ev.ite_pos h7 (Ev.ite_pos rfl (Ev.ite_pos hv h))
 ·exact Ev.ite_neg h7 (Ev.ite_pos hv h)
omit hb hl in
theorem badJ3 (x4 p : Int) (id f : ByteArray) (vs : List S84) (ts : List ByteArray) (hv : vs.length < 2199023255552) : Bad (fun k => zx.j3 k x4 b p true id vs f ts) :=
 Bad.step (fun k => zx.j3.eq_2 _ _ _ _ _ _ _ _ k) (Bad.of (fun r h => Ev.bind (count_bad b p) h) (badL2 b x4 0 p id f vs ts [] hv))
omit hb hl in
theorem badL1 (x4 x6 p : Int) (id f : ByteArray) (vs : List S84) (ts : List ByteArray) (hv : vs.length < 2199023255552) : Bad (fun k => zx.l1 k x4 x6 b p true id vs f ts) := by
 refine Bad.step (fun k => zx.l1.eq_2 _ _ _ _ _ _ _ _ _ k) (Bad.of (fun r h => ?_) (badJ3 b x4 p id f vs ts hv))
 by_cases h6 : x6 > 0
 ·exact Ev.ite_pos h6 (Ev.ite_pos rfl h)
 ·exact Ev.ite_neg h6 h
theorem spec_l2 (x4 : Int) (id f : ByteArray) (vs : List S84) (ts : List ByteArray) (hv : vs.length < 2199023255552) : ∀ (m p : Nat) (ns : List Int), m ≤ 4096 → p ≤ b.length → ns.length + m ≤ 4096 →
  (∀ r, rdNs b m p = some r → ∀ R, Ev (fun k => zx.l0 k (wrap64 (x4 - 1)) b (r.2 : Int) false id (vs ++ [⟨f, ts, ns ++ r.1⟩])) R → Ev (fun k => zx.l2 k x4 (m : Int) b (p : Int) false id vs f ts ns) R) ∧
  (rdNs b m p = none → Bad (fun k => zx.l2 k x4 (m : Int) b (p : Int) false id vs f ts ns)) := by
 intro m
 induction m with
 | zero =>
  intro p ns _ hp hn
  refine ⟨fun r hr R h => ?_, fun hr => by simp [rdNs] at hr⟩
  obtain rfl := Option.some.inj hr
  rw [List.append_nil] at h
  exact Ev.step (fun k => zx.l2.eq_2 _ _ _ _ _ _ _ _ _ _ k) (Ev.ite_neg (by omega) (Ev.ite_pos hv h))
 | succ m ih =>
  intro p ns hm hp hn
  have hN := specN_ev b hb hl p hp
  unfold rdNs
  rcases opt_split (rdN b p) with hg | ⟨⟨v, n⟩, hg⟩
  ·rw [hg]
   refine ⟨fun r hr => by simp at hr, fun _ => ?_⟩
   obtain ⟨x, q, hN⟩ := hN.2 hg
   exact Bad.step (fun k => zx.l2.eq_2 _ _ _ _ _ _ _ _ _ _ k) (Bad.of (fun r h => Ev.ite_pos (by omega) (Ev.ite_neg (by simp) (Ev.bind hN (Ev.ite_pos (by omega) h)))) (badL2 b x4 (wrap64 (((m + 1 : Nat) : Int) - 1)) q id f vs ts (ns ++ [x]) hv))
  ·have hle := rdN_le b hg
   have hi := ih n (ns ++ [v]) (by omega) hle (by simp; omega)
   rw [← wrap_pred m (by omega)] at hi
   have hst : ∀ R, Ev (fun k => zx.l2 k x4 (wrap64 (((m + 1 : Nat) : Int) - 1)) b (n : Int) false id vs f ts (ns ++ [v])) R → Ev (fun k => zx.l2 k x4 ((m + 1 : Nat) : Int) b (p : Int) false id vs f ts ns) R := fun R h =>
    Ev.step (fun k => zx.l2.eq_2 _ _ _ _ _ _ _ _ _ _ k) (Ev.ite_pos (by omega) (Ev.ite_neg (by simp) (Ev.bind (hN.1 _ hg) (Ev.ite_pos (by omega) h))))
   rw [hg]
   show (∀ r, ((rdNs b m n).bind fun s => some (v :: s.1, s.2)) = some r → _) ∧ (((rdNs b m n).bind fun s => some (v :: s.1, s.2)) = none → _)
   rcases opt_split (rdNs b m n) with hs | ⟨s, hs⟩
   ·rw [hs]
    exact ⟨fun r hr => by simp at hr, fun _ => Bad.of hst (hi.2 hs)⟩
   ·rw [hs]
    refine ⟨fun r hr R h => ?_, fun hr => by simp at hr⟩
    obtain rfl := Option.some.inj hr
    exact hst R (hi.1 s hs R (by rw [show ns ++ [v] ++ s.1 = ns ++ v :: s.1 from by simp]; exact h))
theorem spec_l1 (x4 : Int) (id f : ByteArray) (vs : List S84) (hv : vs.length < 2199023255552) : ∀ (m p : Nat) (ts : List ByteArray), m ≤ 4096 → p ≤ b.length → ts.length + m ≤ 4096 →
  (∀ r, rdTs b m p = some r → ∀ R, Ev (fun k => zx.j3 k x4 b (r.2 : Int) false id vs f (ts ++ r.1)) R → Ev (fun k => zx.l1 k x4 (m : Int) b (p : Int) false id vs f ts) R) ∧
  (rdTs b m p = none → Bad (fun k => zx.l1 k x4 (m : Int) b (p : Int) false id vs f ts)) := by
 intro m
 induction m with
 | zero =>
  intro p ts _ hp hn
  refine ⟨fun r hr R h => ?_, fun hr => by simp [rdTs] at hr⟩
  obtain rfl := Option.some.inj hr
  rw [List.append_nil] at h
  exact Ev.step (fun k => zx.l1.eq_2 _ _ _ _ _ _ _ _ _ k) (Ev.ite_neg (by omega) h)
 | succ m ih =>
  intro p ts hm hp hn
  have hN := specT_ev b hb hl p hp
  unfold rdTs
  rcases opt_split (rdT b p) with hg | ⟨⟨v, n⟩, hg⟩
  ·rw [hg]
   refine ⟨fun r hr => by simp at hr, fun _ => ?_⟩
   obtain ⟨q, hN⟩ := hN.2 hg
   exact Bad.step (fun k => zx.l1.eq_2 _ _ _ _ _ _ _ _ _ k) (Bad.of (fun r h => Ev.ite_pos (by omega) (Ev.ite_neg (by simp) (Ev.bind hN (Ev.ite_pos (by omega) h)))) (badL1 b x4 (wrap64 (((m + 1 : Nat) : Int) - 1)) q id f vs (ts ++ [ByteArray.empty]) hv))
  ·have hle := rdT_le b hg
   have hi := ih n (ts ++ [v]) (by omega) hle (by simp; omega)
   rw [← wrap_pred m (by omega)] at hi
   have hst : ∀ R, Ev (fun k => zx.l1 k x4 (wrap64 (((m + 1 : Nat) : Int) - 1)) b (n : Int) false id vs f (ts ++ [v])) R → Ev (fun k => zx.l1 k x4 ((m + 1 : Nat) : Int) b (p : Int) false id vs f ts) R := fun R h =>
    Ev.step (fun k => zx.l1.eq_2 _ _ _ _ _ _ _ _ _ k) (Ev.ite_pos (by omega) (Ev.ite_neg (by simp) (Ev.bind (hN.1 _ hg) (Ev.ite_pos (by omega) h))))
   rw [hg]
   show (∀ r, ((rdTs b m n).bind fun s => some (v :: s.1, s.2)) = some r → _) ∧ (((rdTs b m n).bind fun s => some (v :: s.1, s.2)) = none → _)
   rcases opt_split (rdTs b m n) with hs | ⟨s, hs⟩
   ·rw [hs]
    exact ⟨fun r hr => by simp at hr, fun _ => Bad.of hst (hi.2 hs)⟩
   ·rw [hs]
    refine ⟨fun r hr R h => ?_, fun hr => by simp at hr⟩
    obtain rfl := Option.some.inj hr
    exact hst R (hi.1 s hs R (by rw [show ts ++ [v] ++ s.1 = ts ++ v :: s.1 from by simp]; exact h))
theorem spec_l0 (id : ByteArray) : ∀ (m p : Nat) (vs : List S84), m ≤ 4096 → p ≤ b.length → vs.length + m ≤ 4096 →
  (∀ r, rdVs b m p = some r → Ev (fun k => zx.l0 k (m : Int) b (p : Int) false id vs) (id, vs ++ r.1, (r.2 : Int), false)) ∧
  (rdVs b m p = none → Bad (fun k => zx.l0 k (m : Int) b (p : Int) false id vs)) := by
 intro m
 induction m with
 | zero =>
  intro p vs _ hp hn
  refine ⟨fun r hr => ?_, fun hr => by simp [rdVs] at hr⟩
  obtain rfl := Option.some.inj hr
  rw [List.append_nil]
  exact Ev.step (fun k => zx.l0.eq_2 _ _ _ _ _ _ k) (Ev.ite_neg (by omega) (Ev.step (fun k => zx.j1.eq_2 _ _ _ _ _ _ _ k) (Ev.ite_neg (by simp) (Ev.now _))))
 | succ m ih =>
  intro p vs hm hp hn
  have hst : ∀ {g : Nat → Option (ByteArray × List S84 × Int × Bool)} (R : ByteArray × List S84 × Int × Bool), (∀ k, g k = ((z1i.f k b (p : Int) false).bind fun bt343 => ((spec_l06Reader_count.f k b bt343.2.1 bt343.2.2).bind fun bt347 => (zx.l1 k ((m + 1 : Nat) : Int) bt347.1 b bt347.2.1 bt347.2.2 id vs bt343.1 ([] : List ByteArray))))) → Ev g R → Ev (fun k => zx.l0 k ((m + 1 : Nat) : Int) b (p : Int) false id vs) R := fun {g} R hg h =>
   Ev.step (fun k => zx.l0.eq_2 _ _ _ _ _ _ k) (Ev.ite_pos (by omega) (Ev.step (fun k => zx.j1.eq_2 _ _ _ _ _ _ _ k) (Ev.ite_pos rfl (Ev.congr (fun k => (hg k).symm) h))))
  have hT := specT_ev b hb hl p hp
  unfold rdVs rdV
  rcases opt_split (rdT b p) with hg | ⟨⟨f, n⟩, hg⟩
  ·rw [hg]
   refine ⟨fun r hr => by simp at hr, fun _ => ?_⟩
   obtain ⟨q, hT⟩ := hT.2 hg
   exact Bad.of (fun r h => hst r (fun _ => rfl) (Ev.bind hT (Ev.bind (count_bad b q) h))) (badL1 b _ 0 q id _ vs [] (by omega))
  ·rw [hg]
   have hle := rdT_le b hg
   have hC := specC_ev b hb hl n hle
   rcases opt_split (rdC b n) with hg2 | ⟨⟨c, n2⟩, hg2⟩
   ·refine ⟨fun r hr => by simp [hg2] at hr, fun _ => ?_⟩
    obtain ⟨q, hC⟩ := hC.2 hg2
    exact Bad.of (fun r h => hst r (fun _ => rfl) (Ev.bind (hT.1 _ hg) (Ev.bind hC h))) (badL1 b _ 0 q id _ vs [] (by omega))
   ·have hle2 := rdC_le b hg2
    have h1 := spec_l1 b hb hl ((m + 1 : Nat) : Int) id f vs (by omega) c n2 [] hle2.1 hle2.2 (by simpa using hle2.1)
    have hst1 : ∀ R, Ev (fun k => zx.l1 k ((m + 1 : Nat) : Int) (c : Int) b (n2 : Int) false id vs f []) R → Ev (fun k => zx.l0 k ((m + 1 : Nat) : Int) b (p : Int) false id vs) R := fun R h => hst R (fun _ => rfl) (Ev.bind (hT.1 _ hg) (Ev.bind (hC.1 _ hg2) h))
    rcases opt_split (rdTs b c n2) with hg3 | ⟨⟨ts, n3⟩, hg3⟩
    ·exact ⟨fun r hr => by simp [hg2, hg3] at hr, fun _ => Bad.of hst1 (h1.2 hg3)⟩
    ·have hle3 := rdTs_le b _ _ _ hle2.2 hg3
     have hD := specC_ev b hb hl n3 hle3.1
     have hst2 : ∀ R, Ev (fun k => zx.j3 k ((m + 1 : Nat) : Int) b (n3 : Int) false id vs f ts) R → Ev (fun k => zx.l0 k ((m + 1 : Nat) : Int) b (p : Int) false id vs) R := fun R h => hst1 R (h1.1 _ hg3 R (by simpa using h))
     rcases opt_split (rdC b n3) with hg4 | ⟨⟨d, n4⟩, hg4⟩
     ·refine ⟨fun r hr => by simp [hg2, hg3, hg4] at hr, fun _ => ?_⟩
      obtain ⟨q, hD⟩ := hD.2 hg4
      exact Bad.of (fun r h => hst2 r (Ev.step (fun k => zx.j3.eq_2 _ _ _ _ _ _ _ _ k) (Ev.bind hD h))) (badL2 b ((m + 1 : Nat) : Int) 0 q id f vs ts [] (by omega))
     ·have hle4 := rdC_le b hg4
      have h2 := spec_l2 b hb hl ((m + 1 : Nat) : Int) id f vs ts (by omega) d n4 [] hle4.1 hle4.2 (by simpa using hle4.1)
      have hst3 : ∀ R, Ev (fun k => zx.l2 k ((m + 1 : Nat) : Int) (d : Int) b (n4 : Int) false id vs f ts []) R → Ev (fun k => zx.l0 k ((m + 1 : Nat) : Int) b (p : Int) false id vs) R := fun R h => hst2 R (Ev.step (fun k => zx.j3.eq_2 _ _ _ _ _ _ _ _ k) (Ev.bind (hD.1 _ hg4) h))
      rcases opt_split (rdNs b d n4) with hg5 | ⟨⟨ns, n5⟩, hg5⟩
      ·exact ⟨fun r hr => by simp [hg2, hg3, hg4, hg5] at hr, fun _ => Bad.of hst3 (h2.2 hg5)⟩
      ·have hle5 := rdNs_le b _ _ _ hle4.2 hg5
       have hi := ih n5 (vs ++ [⟨f, ts, ns⟩]) (by omega) hle5.1 (by simp; omega)
       rw [← wrap_pred m (by omega)] at hi
       have hst4 : ∀ R, Ev (fun k => zx.l0 k (wrap64 (((m + 1 : Nat) : Int) - 1)) b (n5 : Int) false id (vs ++ [⟨f, ts, ns⟩])) R → Ev (fun k => zx.l0 k ((m + 1 : Nat) : Int) b (p : Int) false id vs) R := fun R h => hst3 R (h2.1 _ hg5 R (by simpa using h))
       rcases opt_split (rdVs b m n5) with hs | ⟨s, hs⟩
       ·exact ⟨fun r hr => by simp [hg2, hg3, hg4, hg5, hs] at hr, fun _ => Bad.of hst4 (hi.2 hs)⟩
       ·refine ⟨fun r hr => ?_, fun hr => by simp [hg2, hg3, hg4, hg5, hs] at hr⟩
        have e : r = ((⟨f, ts, ns⟩ : S84) :: s.1, s.2) := by simpa [hg2, hg3, hg4, hg5, hs] using hr.symm
        subst e
        exact hst4 _ (Ev.eq (hi.1 s hs) (by simp))
theorem specDoc_ev : (∀ r, rdD b = some r → Ev (fun k => zx.f k b 0 false) (r.1, r.2.1, (r.2.2 : Int), false)) ∧ (rdD b = none → Bad (fun k => zx.f k b 0 false)) := by
 have hT := specT_ev b hb hl 0 (by omega)
 unfold rdD
 rcases opt_split (rdT b 0) with hg | ⟨⟨f, n⟩, hg⟩
 ·rw [hg]
  refine ⟨fun r hr => by simp at hr, fun _ => ?_⟩
  obtain ⟨q, hT⟩ := hT.2 hg
  exact Bad.of (fun r h => Ev.bind hT (Ev.bind (count_bad b q) h)) (badL0 b 0 q _ [])
 ·rw [hg]
  have hle := rdT_le b hg
  have hC := specC_ev b hb hl n hle
  rcases opt_split (rdC b n) with hg2 | ⟨⟨c, n2⟩, hg2⟩
  ·refine ⟨fun r hr => by simp [hg2] at hr, fun _ => ?_⟩
   obtain ⟨q, hC⟩ := hC.2 hg2
   exact Bad.of (fun r h => Ev.bind (hT.1 _ hg) (Ev.bind hC h)) (badL0 b 0 q _ [])
  ·have hle2 := rdC_le b hg2
   have h0 := spec_l0 b hb hl f c n2 [] hle2.1 hle2.2 (by simpa using hle2.1)
   have hst : ∀ R, Ev (fun k => zx.l0 k (c : Int) b (n2 : Int) false f []) R → Ev (fun k => zx.f k b 0 false) R := fun R h => Ev.bind (hT.1 _ hg) (Ev.bind (hC.1 _ hg2) h)
   rcases opt_split (rdVs b c n2) with hs | ⟨s, hs⟩
   ·exact ⟨fun r hr => by simp [hg2, hs] at hr, fun _ => Bad.of hst (h0.2 hs)⟩
   ·refine ⟨fun r hr => ?_, fun hr => by simp [hg2, hs] at hr⟩
    have e : r = (f, s.1, s.2) := by simpa [hg2, hs] using hr.symm
    subst e
    exact hst _ (h0.1 s hs)
theorem spec_ReadDoc_ev : Ev (fun k => spec_ReadDoc.f k b) (rdR b) := by
 have h := specDoc_ev b hb hl
 unfold rdR
 rcases opt_split (rdD b) with hg | ⟨⟨id, vs, n⟩, hg⟩
 ·rw [hg]
  obtain ⟨x, y, z, h⟩ := h.2 hg
  exact Ev.ite_neg (by omega) (Ev.bind h (Ev.ite_pos rfl (Ev.now _)))
 ·rw [hg]
  refine Ev.ite_neg (by omega) (Ev.bind (h.1 _ hg) (Ev.ite_neg (by simp) ?_))
  by_cases hn : n = b.length
  ·rw [show (match some (id, vs, n) with | some r => if r.2.2 = b.length then (r.1, r.2.1, (0 : Int)) else (ByteArray.empty, [], 15) | none => (ByteArray.empty, [], 15)) = (id, vs, 0) from if_pos hn]
   exact Ev.ite_pos (by show (n : Int) = _; omega) (Ev.now _)
  ·rw [show (match some (id, vs, n) with | some r => if r.2.2 = b.length then (r.1, r.2.1, (0 : Int)) else (ByteArray.empty, [], 15) | none => (ByteArray.empty, [], 15)) = (ByteArray.empty, [], 15) from if_neg hn]
   exact Ev.ite_neg (by show ¬ (n : Int) = _; omega) (Ev.now _)
end
end Go.Proofs.Ytndjodgcemgpfaa.Q
end
section
namespace Go.Proofs.Ytndjodgcemgpfaa.Q
open Go.RowKit Go.Proofs.YtndjodgcemgpfaaW.PrintWords Go.Proofs.YtndjodgcemgpfaaW.PrintLast Go.Proofs.YtndjodgcemgpfaaW.PrintMore
section
variable (b : List Int)
theorem int_bad (p m : Int) : Ev (fun k => z17.f k b p true m) (0, p, true) := Ev.ite_pos rfl (Ev.now _)
variable (hb : IsB b) (hl : b.length ≤ 1048576)
include hb hl
theorem int_ev (p m : Nat) (hp : p ≤ b.length) :
  (∀ r, getB b p = some r → r.1 ≤ m → Ev (fun k => z17.f k b (p : Int) false (m : Int)) ((r.1 : Int), (r.2 : Int), false)) ∧
  (∀ r, getB b p = some r → ¬ r.1 ≤ m → Ev (fun k => z17.f k b (p : Int) false (m : Int)) (0, (p : Int), true)) ∧
  (getB b p = none → Ev (fun k => z17.f k b (p : Int) false (m : Int)) (0, (p : Int), true)) := by
 have h := implGet_ev b p hb hl hp
 refine ⟨fun r hr hm => Ev.ite_neg (by simp) (Ev.bind (h.1 r hr) (Ev.ite_pos rfl (Ev.ite_neg (by show ¬ (r.1 : Int) > (m : Int); omega) (Ev.now _)))),
  fun r hr hm => Ev.ite_neg (by simp) (Ev.bind (h.1 r hr) (Ev.ite_pos rfl (Ev.ite_pos (by show (r.1 : Int) > (m : Int); omega) (Ev.now _)))),
  fun hr => Ev.ite_neg (by simp) (Ev.bind (h.2 hr) (Ev.ite_neg (by simp) (Ev.now _)))⟩
theorem implT_ev (p : Nat) (hp : p ≤ b.length) : (∀ r, rdT b p = some r → Ev (fun k => z18.f k b (p : Int) false) (r.1, (r.2 : Int), false)) ∧ (rdT b p = none → ∃ q, Ev (fun k => z18.f k b (p : Int) false) (ByteArray.empty, q, true)) := by
 have h := int_ev b hb hl p 65536 hp
 unfold rdT
 rcases opt_split (getB b p) with hg | ⟨⟨v, n⟩, hg⟩
 ·rw [hg]
  exact ⟨fun r hr => by simp at hr, fun _ => ⟨_, Ev.bind (h.2.2 hg) (Ev.ite_pos rfl (Ev.now _))⟩⟩
 ·have hle := getB_le b p hg
  have hle1 : v ≤ 9223372036854775807 := hle.1
  have hle2 : n ≤ b.length := hle.2.2
  rw [hg]
  by_cases hv : v ≤ 65536
  ·have w2 : wrap64 ((n : Int) + (v : Int)) = ((n + v : Nat) : Int) := by rw [z1s (by omega) (by omega)]; omega
   have w3 : wrap64 (((n + v : Nat) : Int) - (v : Int)) = (n : Int) := by rw [z1s (by omega) (by omega)]; omega
   have hst : ∀ R, Ev (fun _ : Nat => if wrap64 ((n : Int) + (v : Int)) > (b.length : Int) then some (ByteArray.empty, (n : Int), true) else if 0 ≤ wrap64 (wrap64 ((n : Int) + (v : Int)) - (v : Int)) ∧ wrap64 (wrap64 ((n : Int) + (v : Int)) - (v : Int)) ≤ wrap64 ((n : Int) + (v : Int)) then some (strOfNums ((b.take (wrap64 ((n : Int) + (v : Int))).toNat).drop (wrap64 (wrap64 ((n : Int) + (v : Int)) - (v : Int))).toNat), wrap64 ((n : Int) + (v : Int)), false) else none) R → Ev (fun k => z18.f k b (p : Int) false) R := fun R hR =>
    Ev.bind (h.1 _ hg hv) (Ev.ite_neg (by simp) hR)
   rw [w2, w3] at hst
   by_cases h1 : n + v ≤ b.length
   ·have e : (Option.bind (some (v, n)) fun r => if r.1 ≤ 65536 ∧ r.2 + r.1 ≤ b.length then some (strOfNums ((b.take (r.2 + r.1)).drop r.2), r.2 + r.1) else none) = some (strOfNums ((b.take (n + v)).drop n), n + v) := if_pos ⟨hv, h1⟩
    rw [e]
    refine ⟨fun r hr => ?_, fun hr => by simp at hr⟩
    obtain rfl := Option.some.inj hr
    exact hst _ (Ev.ite_neg (by omega) (Ev.ite_pos ⟨by omega, by omega⟩ (Ev.now _)))
   ·have e : (Option.bind (some (v, n)) fun r => if r.1 ≤ 65536 ∧ r.2 + r.1 ≤ b.length then some (strOfNums ((b.take (r.2 + r.1)).drop r.2), r.2 + r.1) else none) = none := if_neg (fun hh => h1 hh.2)
    rw [e]
    exact ⟨fun r hr => by simp at hr, fun _ => ⟨_, hst _ (Ev.ite_pos (by omega) (Ev.now _))⟩⟩
  ·have e : (Option.bind (some (v, n)) fun r => if r.1 ≤ 65536 ∧ r.2 + r.1 ≤ b.length then some (strOfNums ((b.take (r.2 + r.1)).drop r.2), r.2 + r.1) else none) = none := if_neg (fun hh => hv hh.1)
   rw [e]
   exact ⟨fun r hr => by simp at hr, fun _ => ⟨_, Ev.bind (h.2.1 _ hg hv) (Ev.ite_pos rfl (Ev.now _))⟩⟩
theorem implC_ev (p : Nat) (hp : p ≤ b.length) : (∀ r, rdC b p = some r → Ev (fun k => z17.f k b (p : Int) false 4096) ((r.1 : Int), (r.2 : Int), false)) ∧ (rdC b p = none → ∃ q, Ev (fun k => z17.f k b (p : Int) false 4096) (0, q, true)) := by
 have h := int_ev b hb hl p 4096 hp
 unfold rdC
 rcases opt_split (getB b p) with hg | ⟨⟨v, n⟩, hg⟩
 ·rw [hg]
  exact ⟨fun r hr => by simp at hr, fun _ => ⟨_, h.2.2 hg⟩⟩
 ·rw [hg]
  by_cases h1 : v ≤ 4096
  ·refine ⟨fun r hr => ?_, fun hr => by simp [h1] at hr⟩
   have e : r = (v, n) := by simpa [h1] using hr.symm
   subst e
   exact h.1 _ hg h1
  ·exact ⟨fun r hr => by simp [h1] at hr, fun hr => ⟨_, h.2.1 _ hg h1⟩⟩
omit hb hl in
theorem ibadL2 (x10 x11 p : Int) (id f : ByteArray) (vs : List S84) (ts : List ByteArray) (ns : List Int) (hv : vs.length < 2199023255552) : Bad (fun k => zy.l2 k x10 x11 0 0 b p true id vs f ts ns) :=
 ⟨_, _, _, Ev.step (fun k => zy.l2.eq_2 _ _ _ _ _ _ _ _ _ _ _ _ k) (Ev.ite_neg (by omega) (Ev.ite_pos hv (Ev.some_bind (Ev.ite_pos rfl (Ev.now _)))))⟩
omit hb hl in
theorem ibadL1 (x10 x11 p : Int) (id f : ByteArray) (vs : List S84) (ts : List ByteArray) (hv : vs.length < 2199023255552) : Bad (fun k => zy.l1 k x10 x11 0 0 b p true id vs f ts) :=
 Bad.step (fun k => zy.l1.eq_2 _ _ _ _ _ _ _ _ _ _ _ k) (Bad.of (fun r h => Ev.ite_neg (by omega) (Ev.bind (int_bad b p 4096) h)) (ibadL2 b x10 x11 p id f vs ts [] hv))
theorem rimpl_l2 (x10 x11 : Int) (id f : ByteArray) (vs : List S84) (ts : List ByteArray) (hv : vs.length < 2199023255552) (n : Nat) (hn : n ≤ 4096) : ∀ (m i p : Nat) (ns : List Int), i + m = n → p ≤ b.length → ns.length + m ≤ 4096 →
  (∀ r, rdNs b m p = some r → ∀ R, Ev (fun k => zy.l0 k x10 (wrap64 (x11 + 1)) b (r.2 : Int) false id (vs ++ [⟨f, ts, ns ++ r.1⟩])) R → Ev (fun k => zy.l2 k x10 x11 (n : Int) (i : Int) b (p : Int) false id vs f ts ns) R) ∧
  (rdNs b m p = none → Bad (fun k => zy.l2 k x10 x11 (n : Int) (i : Int) b (p : Int) false id vs f ts ns)) := by
 intro m
 induction m with
 | zero =>
  intro i p ns hi hp hns
  refine ⟨fun r hr R h => ?_, fun hr => by simp [rdNs] at hr⟩
  obtain rfl := Option.some.inj hr
  rw [List.append_nil] at h
  exact Ev.step (fun k => zy.l2.eq_2 _ _ _ _ _ _ _ _ _ _ _ _ k) (Ev.ite_neg (by omega) (Ev.ite_pos hv (Ev.some_bind (Ev.ite_neg (by simp) h))))
 | succ m ih =>
  intro i p ns hi hp hns
  have hN := int_ev b hb hl p 2000000000000 hp
  have hbad : ∀ q : Int, Ev (fun k => z17.f k b (p : Int) false 2000000000000) (0, q, true) → Bad (fun k => zy.l2 k x10 x11 (n : Int) (i : Int) b (p : Int) false id vs f ts ns) := fun q h =>
   ⟨_, _, _, Ev.step (fun k => zy.l2.eq_2 _ _ _ _ _ _ _ _ _ _ _ _ k) (Ev.ite_pos (by omega) (Ev.bind h (Ev.ite_neg (by show ¬ Int.tmod 0 2 = 1; decide) (Ev.ite_pos (by omega) (Ev.ite_pos rfl (Ev.now _))))))⟩
  unfold rdNs rdN
  rcases opt_split (getB b p) with hg | ⟨⟨v, q⟩, hg⟩
  ·rw [hg]
   exact ⟨fun r hr => by simp at hr, fun _ => hbad _ (hN.2.2 hg)⟩
  ·rw [hg]
   by_cases hm : v ≤ 2000000000000
   ·have hle : q ≤ b.length := (getB_le b p hg).2.2
    have hi' := ih (i + 1) q (ns ++ [numV v]) (by omega) hle (by simp; omega)
    rw [← wrap_succ (i := i) (by omega)] at hi'
    have hst : ∀ R, Ev (fun k => zy.l2 k x10 x11 (n : Int) (wrap64 ((i : Int) + 1)) b (q : Int) false id vs f ts (ns ++ [numV v])) R → Ev (fun k => zy.l2 k x10 x11 (n : Int) (i : Int) b (p : Int) false id vs f ts ns) R := fun R h => by
     refine Ev.step (fun k => zy.l2.eq_2 _ _ _ _ _ _ _ _ _ _ _ _ k) (Ev.ite_pos (by omega) (Ev.bind (hN.1 _ hg hm) ?_))
     by_cases h2 : v % 2 = 1
     ·rw [← numV_odd h2 hm] at h
      exact Ev.ite_pos (tmod_odd.2 h2) (Ev.ite_pos (by omega) (Ev.ite_neg (by simp) h))
     ·rw [← numV_even h2 hm] at h
      exact Ev.ite_neg (fun h3 => h2 (tmod_odd.1 h3)) (Ev.ite_pos (by omega) (Ev.ite_neg (by simp) h))
    have e : ((some (v, q)).bind fun r => if r.1 ≤ 2000000000000 then some (numV r.1, r.2) else none) = some (numV v, q) := if_pos hm
    rw [e]
    show (∀ r, ((rdNs b m q).bind fun s => some (numV v :: s.1, s.2)) = some r → _) ∧ (((rdNs b m q).bind fun s => some (numV v :: s.1, s.2)) = none → _)
    rcases opt_split (rdNs b m q) with hs | ⟨s, hs⟩
    ·rw [hs]
     exact ⟨fun r hr => by simp at hr, fun _ => Bad.of hst (hi'.2 hs)⟩
    ·rw [hs]
     refine ⟨fun r hr R h => ?_, fun hr => by simp at hr⟩
     obtain rfl := Option.some.inj hr
     exact hst R (hi'.1 s hs R (by rw [show ns ++ [numV v] ++ s.1 = ns ++ numV v :: s.1 from by simp]; exact h))
   ·have e : ((some (v, q)).bind fun r => if r.1 ≤ 2000000000000 then some (numV r.1, r.2) else none) = none := if_neg hm
    rw [e]
    exact ⟨fun r hr => by simp at hr, fun _ => hbad _ (hN.2.1 _ hg hm)⟩
theorem rimpl_l1 (x10 x11 : Int) (id f : ByteArray) (vs : List S84) (hv : vs.length < 2199023255552) (n : Nat) (hn : n ≤ 4096) : ∀ (m i p : Nat) (ts : List ByteArray), i + m = n → p ≤ b.length → ts.length + m ≤ 4096 →
  (∀ r, rdTs b m p = some r → ∀ R, Ev (fun k => (z17.f k b (r.2 : Int) false 4096).bind fun bt408 => zy.l2 k x10 x11 bt408.1 0 b bt408.2.1 bt408.2.2 id vs f (ts ++ r.1) ([] : List Int)) R → Ev (fun k => zy.l1 k x10 x11 (n : Int) (i : Int) b (p : Int) false id vs f ts) R) ∧
  (rdTs b m p = none → Bad (fun k => zy.l1 k x10 x11 (n : Int) (i : Int) b (p : Int) false id vs f ts)) := by
 intro m
 induction m with
 | zero =>
  intro i p ts hi hp hts
  refine ⟨fun r hr R h => ?_, fun hr => by simp [rdTs] at hr⟩
  obtain rfl := Option.some.inj hr
  rw [List.append_nil] at h
  exact Ev.step (fun k => zy.l1.eq_2 _ _ _ _ _ _ _ _ _ _ _ k) (Ev.ite_neg (by omega) h)
 | succ m ih =>
  intro i p ts hi hp hts
  have hT := implT_ev b hb hl p hp
  unfold rdTs
  rcases opt_split (rdT b p) with hg | ⟨⟨v, q⟩, hg⟩
  ·rw [hg]
   refine ⟨fun r hr => by simp at hr, fun _ => ?_⟩
   obtain ⟨q, hT⟩ := hT.2 hg
   exact ⟨_, _, _, Ev.step (fun k => zy.l1.eq_2 _ _ _ _ _ _ _ _ _ _ _ k) (Ev.ite_pos (by omega) (Ev.bind hT (Ev.ite_pos (by omega) (Ev.ite_pos rfl (Ev.now _)))))⟩
  ·have hle := rdT_le b hg
   have hi' := ih (i + 1) q (ts ++ [v]) (by omega) hle (by simp; omega)
   rw [← wrap_succ (i := i) (by omega)] at hi'
   have hst : ∀ R, Ev (fun k => zy.l1 k x10 x11 (n : Int) (wrap64 ((i : Int) + 1)) b (q : Int) false id vs f (ts ++ [v])) R → Ev (fun k => zy.l1 k x10 x11 (n : Int) (i : Int) b (p : Int) false id vs f ts) R := fun R h =>
    Ev.step (fun k => zy.l1.eq_2 _ _ _ _ _ _ _ _ _ _ _ k) (Ev.ite_pos (by omega) (Ev.bind (hT.1 _ hg) (Ev.ite_pos (by omega) (Ev.ite_neg (by simp) h))))
   rw [hg]
   show (∀ r, ((rdTs b m q).bind fun s => some (v :: s.1, s.2)) = some r → _) ∧ (((rdTs b m q).bind fun s => some (v :: s.1, s.2)) = none → _)
   rcases opt_split (rdTs b m q) with hs | ⟨s, hs⟩
   ·rw [hs]
    exact ⟨fun r hr => by simp at hr, fun _ => Bad.of hst (hi'.2 hs)⟩
   ·rw [hs]
    refine ⟨fun r hr R h => ?_, fun hr => by simp at hr⟩
    obtain rfl := Option.some.inj hr
    exact hst R (hi'.1 s hs R (by rw [show ts ++ [v] ++ s.1 = ts ++ v :: s.1 from by simp]; exact h))
theorem rimpl_l0 (id : ByteArray) (n0 : Nat) (hn : n0 ≤ 4096) : ∀ (m i p : Nat) (vs : List S84), i + m = n0 → p ≤ b.length → vs.length + m ≤ 4096 →
  (∀ r, rdVs b m p = some r → Ev (fun k => zy.l0 k (n0 : Int) (i : Int) b (p : Int) false id vs) (id, vs ++ r.1, (r.2 : Int), false)) ∧
  (rdVs b m p = none → Bad (fun k => zy.l0 k (n0 : Int) (i : Int) b (p : Int) false id vs)) := by
 intro m
 induction m with
 | zero =>
  intro i p vs hi hp hvs
  refine ⟨fun r hr => ?_, fun hr => by simp [rdVs] at hr⟩
  obtain rfl := Option.some.inj hr
  rw [List.append_nil]
  exact Ev.step (fun k => zy.l0.eq_2 _ _ _ _ _ _ _ k) (Ev.ite_neg (by omega) (Ev.now _))
 | succ m ih =>
  intro i p vs hi hp hvs
  have hst : ∀ {g : Nat → Option (ByteArray × List S84 × Int × Bool)} (R : ByteArray × List S84 × Int × Bool), (∀ k, g k = ((z18.f k b (p : Int) false).bind fun bt395 => ((z17.f k b bt395.2.1 bt395.2.2 4096).bind fun bt399 => (zy.l1 k (n0 : Int) (i : Int) bt399.1 0 b bt399.2.1 bt399.2.2 id vs bt395.1 ([] : List ByteArray))))) → Ev g R → Ev (fun k => zy.l0 k (n0 : Int) (i : Int) b (p : Int) false id vs) R := fun {g} R hg h =>
   Ev.step (fun k => zy.l0.eq_2 _ _ _ _ _ _ _ k) (Ev.ite_pos (by omega) (Ev.congr (fun k => (hg k).symm) h))
  have hT := implT_ev b hb hl p hp
  unfold rdVs rdV
  rcases opt_split (rdT b p) with hg | ⟨⟨f, n⟩, hg⟩
  ·rw [hg]
   refine ⟨fun r hr => by simp at hr, fun _ => ?_⟩
   obtain ⟨q, hT⟩ := hT.2 hg
   exact Bad.of (fun r h => hst r (fun _ => rfl) (Ev.bind hT (Ev.bind (int_bad b q 4096) h))) (ibadL1 b _ _ q id _ vs [] (by omega))
  ·rw [hg]
   have hle := rdT_le b hg
   have hC := implC_ev b hb hl n hle
   rcases opt_split (rdC b n) with hg2 | ⟨⟨c, n2⟩, hg2⟩
   ·refine ⟨fun r hr => by simp [hg2] at hr, fun _ => ?_⟩
    obtain ⟨q, hC⟩ := hC.2 hg2
    exact Bad.of (fun r h => hst r (fun _ => rfl) (Ev.bind (hT.1 _ hg) (Ev.bind hC h))) (ibadL1 b _ _ q id _ vs [] (by omega))
   ·have hle2 := rdC_le b hg2
    have h1 := rimpl_l1 b hb hl (n0 : Int) (i : Int) id f vs (by omega) c hle2.1 c 0 n2 [] (by omega) hle2.2 (by simpa using hle2.1)
    have hst1 : ∀ R, Ev (fun k => zy.l1 k (n0 : Int) (i : Int) (c : Int) ((0 : Nat) : Int) b (n2 : Int) false id vs f []) R → Ev (fun k => zy.l0 k (n0 : Int) (i : Int) b (p : Int) false id vs) R := fun R h => hst R (fun _ => rfl) (Ev.bind (hT.1 _ hg) (Ev.bind (hC.1 _ hg2) h))
    rcases opt_split (rdTs b c n2) with hg3 | ⟨⟨ts, n3⟩, hg3⟩
    ·exact ⟨fun r hr => by simp [hg2, hg3] at hr, fun _ => Bad.of hst1 (h1.2 hg3)⟩
    ·have hle3 := rdTs_le b _ _ _ hle2.2 hg3
     have hD := implC_ev b hb hl n3 hle3.1
     have hst2 : ∀ R, Ev (fun k => (z17.f k b (n3 : Int) false 4096).bind fun bt408 => zy.l2 k (n0 : Int) (i : Int) bt408.1 0 b bt408.2.1 bt408.2.2 id vs f ts ([] : List Int)) R → Ev (fun k => zy.l0 k (n0 : Int) (i : Int) b (p : Int) false id vs) R := fun R h => hst1 R (h1.1 _ hg3 R (by simpa using h))
     rcases opt_split (rdC b n3) with hg4 | ⟨⟨d, n4⟩, hg4⟩
     ·refine ⟨fun r hr => by simp [hg2, hg3, hg4] at hr, fun _ => ?_⟩
      obtain ⟨q, hD⟩ := hD.2 hg4
      exact Bad.of (fun r h => hst2 r (Ev.bind hD h)) (ibadL2 b (n0 : Int) (i : Int) q id f vs ts [] (by omega))
     ·have hle4 := rdC_le b hg4
      have h2 := rimpl_l2 b hb hl (n0 : Int) (i : Int) id f vs ts (by omega) d hle4.1 d 0 n4 [] (by omega) hle4.2 (by simpa using hle4.1)
      have hst3 : ∀ R, Ev (fun k => zy.l2 k (n0 : Int) (i : Int) (d : Int) ((0 : Nat) : Int) b (n4 : Int) false id vs f ts []) R → Ev (fun k => zy.l0 k (n0 : Int) (i : Int) b (p : Int) false id vs) R := fun R h => hst2 R (Ev.bind (hD.1 _ hg4) h)
      rcases opt_split (rdNs b d n4) with hg5 | ⟨⟨ns, n5⟩, hg5⟩
      ·exact ⟨fun r hr => by simp [hg2, hg3, hg4, hg5] at hr, fun _ => Bad.of hst3 (h2.2 hg5)⟩
      ·have hle5 := rdNs_le b _ _ _ hle4.2 hg5
       have hi' := ih (i + 1) n5 (vs ++ [⟨f, ts, ns⟩]) (by omega) hle5.1 (by simp; omega)
       rw [← wrap_succ (i := i) (by omega)] at hi'
       have hst4 : ∀ R, Ev (fun k => zy.l0 k (n0 : Int) (wrap64 ((i : Int) + 1)) b (n5 : Int) false id (vs ++ [⟨f, ts, ns⟩])) R → Ev (fun k => zy.l0 k (n0 : Int) (i : Int) b (p : Int) false id vs) R := fun R h => hst3 R (h2.1 _ hg5 R (by simpa using h))
       rcases opt_split (rdVs b m n5) with hs | ⟨s, hs⟩
       ·exact ⟨fun r hr => by simp [hg2, hg3, hg4, hg5, hs] at hr, fun _ => Bad.of hst4 (hi'.2 hs)⟩
       ·refine ⟨fun r hr => ?_, fun hr => by simp [hg2, hg3, hg4, hg5, hs] at hr⟩
        have e : r = ((⟨f, ts, ns⟩ : S84) :: s.1, s.2) := by simpa [hg2, hg3, hg4, hg5, hs] using hr.symm
        subst e
        exact hst4 _ (Ev.eq (hi'.1 s hs) (by simp))
theorem implDoc_ev : (∀ r, rdD b = some r → Ev (fun k => zy.f k b 0 false) (r.1, r.2.1, (r.2.2 : Int), false)) ∧ (rdD b = none → Bad (fun k => zy.f k b 0 false)) := by
 have hT := implT_ev b hb hl 0 (by omega)
 have l0bad : ∀ (q : Int) (id : ByteArray), Bad (fun k => zy.l0 k 0 0 b q true id []) := fun q id => ⟨_, _, _, Ev.step (fun k => zy.l0.eq_2 _ _ _ _ _ _ _ k) (Ev.ite_neg (by omega) (Ev.now _))⟩
 unfold rdD
 rcases opt_split (rdT b 0) with hg | ⟨⟨f, n⟩, hg⟩
 ·rw [hg]
  refine ⟨fun r hr => by simp at hr, fun _ => ?_⟩
  obtain ⟨q, hT⟩ := hT.2 hg
  exact Bad.of (fun r h => Ev.bind hT (Ev.bind (int_bad b q 4096) h)) (l0bad q _)
 ·rw [hg]
  have hle := rdT_le b hg
  have hC := implC_ev b hb hl n hle
  rcases opt_split (rdC b n) with hg2 | ⟨⟨c, n2⟩, hg2⟩
  ·refine ⟨fun r hr => by simp [hg2] at hr, fun _ => ?_⟩
   obtain ⟨q, hC⟩ := hC.2 hg2
   exact Bad.of (fun r h => Ev.bind (hT.1 _ hg) (Ev.bind hC h)) (l0bad q _)
  ·have hle2 := rdC_le b hg2
   have h0 := rimpl_l0 b hb hl f c hle2.1 c 0 n2 [] (by omega) hle2.2 (by simpa using hle2.1)
   have hst : ∀ R, Ev (fun k => zy.l0 k (c : Int) ((0 : Nat) : Int) b (n2 : Int) false f []) R → Ev (fun k => zy.f k b 0 false) R := fun R h => Ev.bind (hT.1 _ hg) (Ev.bind (hC.1 _ hg2) h)
   rcases opt_split (rdVs b c n2) with hs | ⟨s, hs⟩
   ·exact ⟨fun r hr => by simp [hg2, hs] at hr, fun _ => Bad.of hst (h0.2 hs)⟩
   ·refine ⟨fun r hr => ?_, fun hr => by simp [hg2, hs] at hr⟩
    have e : r = (f, s.1, s.2) := by simpa [hg2, hs] using hr.symm
    subst e
    exact hst _ (h0.1 s hs)
omit hb hl in
theorem rdR_none (hg : rdD b = none) : rdR b = (ByteArray.empty, [], 15) := by
 unfold rdR
 rw [hg]
omit hb hl in
theorem rdR_some {r : ByteArray × List S84 × Nat} (hg : rdD b = some r) : rdR b = if r.2.2 = b.length then (r.1, r.2.1, 0) else (ByteArray.empty, [], 15) := by
 unfold rdR
 rw [hg]
theorem impl_ReadDoc_ev : Ev (fun k => impl_ReadDoc.f k b) (rdR b) := by
 have h := implDoc_ev b hb hl
 rcases opt_split (rdD b) with hg | ⟨⟨id, vs, n⟩, hg⟩
 ·rw [rdR_none b hg]
  obtain ⟨x, y, z, h⟩ := h.2 hg
  exact Ev.ite_neg (by omega) (Ev.bind h (Ev.ite_pos rfl (Ev.now _)))
 ·rw [rdR_some b hg]
  refine Ev.ite_neg (by omega) (Ev.bind (h.1 _ hg) (Ev.ite_neg (by simp) ?_))
  by_cases hn : n = b.length
  ·rw [if_pos hn]
   exact Ev.ite_pos (by show (n : Int) = _; omega) (Ev.now _)
  ·rw [if_neg hn]
   exact Ev.ite_neg (by show ¬ (n : Int) = _; omega) (Ev.now _)
end
end Go.Proofs.Ytndjodgcemgpfaa.Q
end
section
namespace Go.Proofs.Ytndjodgcemgpfaa.Q
open Go.RowKit Go.Proofs.YtndjodgcemgpfaaW.PrintWords Go.Proofs.YtndjodgcemgpfaaW.PrintLast Go.Proofs.YtndjodgcemgpfaaW.PrintMore
theorem rd_drop (b : List Int) (p i : Nat) : rd (b.drop p) (i : Int) = rd b ((p + i : Nat) : Int) := by
 unfold rd
 rw [List.getD_eq_getElem?_getD, List.getD_eq_getElem?_getD, Int.toNat_natCast, Int.toNat_natCast, List.getElem?_drop]
theorem getG_drop (b : List Int) (p : Nat) : ∀ d i v, getG (b.drop p) 0 d i v = (getG b p d i v).map fun r => (r.1, r.2 - p)
 | 0, _, _ => rfl
 | d + 1, i, v => by
  have e : i < (b.drop p).length ↔ p + i < b.length := by rw [uf]; omega
  simp only [getG, Nat.zero_add]
  rw [rd_drop, getG_drop b p d]
  by_cases h1 : p + i < b.length
  ·rw [if_pos h1, if_pos (e.2 h1)]
   split
   ·rfl
   ·split
    ·split
     ·show some _ = some _
      congr 2
      omega
     ·rfl
    ·rfl
  ·rw [if_neg h1, if_neg (fun h => h1 (e.1 h))]
   rfl
theorem getB_drop (b : List Int) (p : Nat) : getB (b.drop p) 0 = (getB b p).map fun r => (r.1, r.2 - p) := getG_drop b p 9 0 0
theorem drop_cons {b : List Int} {q : Nat} {x : Int} {r : List Int} (h : b.drop q = x :: r) : q < b.length ∧ rd b (q : Int) = x ∧ b.drop (q + 1) = r := by
 have hl : q < b.length := by
  rcases Nat.lt_or_ge q b.length with h1 | h1
  ·exact h1
  ·rw [List.drop_of_length_le h1] at h
   simp at h
 have e := List.drop_eq_getElem_cons hl
 rw [h] at e
 injection e with e1 e2
 refine ⟨hl, ?_, e2.symm⟩
 unfold rd
 rw [List.getD_eq_getElem?_getD, Int.toNat_natCast, List.getElem?_eq_getElem hl, e1]
 rfl
theorem getG_put (b : List Int) (p : Nat) : ∀ (d i v n : Nat) (rest : List Int), i + d = 9 → b.drop (p + i) = putL n ++ rest → n * 128 ^ i ≤ 4611686018427387903 → (i = 0 ∨ 0 < n) →
  getG b p d i v = some (v + n * 128 ^ i, p + i + (putL n).length)
 | 0, i, v, n, rest, hi, _, hb, hn => by
  exfalso
  obtain rfl : i = 9 := by omega
  omega
 | d + 1, i, v, n, rest, hi, hd, hb, hn => by
  have h63 : i = 8 → n ≤ 63 := fun e => by subst e; omega
  by_cases h : n < 128
  ·rw [putL_small h] at hd
   obtain ⟨h1, h2, h3⟩ := drop_cons hd
   simp only [getG]
   rw [h2, if_pos h1, Int.toNat_natCast, if_neg (fun hh => by have := h63 hh.1; omega), if_pos h, if_pos (by omega), Nat.mod_eq_of_lt h, putL_small h]
   rfl
  ·rw [putL_big h] at hd
   obtain ⟨h1, h2, h3⟩ := drop_cons hd
   have hi8 : i ≠ 8 := fun e => by have := h63 e; omega
   simp only [getG]
   rw [h2, if_pos h1, Int.toNat_natCast, if_neg (fun hh => hi8 hh.1), if_neg (by omega)]
   have hp : 128 ^ (i + 1) = 128 * 128 ^ i := by rw [Nat.pow_succ, Nat.mul_comm]
   have hm : n / 128 * 128 ^ (i + 1) + n % 128 * 128 ^ i = n * 128 ^ i := by
    rw [hp, ← Nat.mul_assoc, ← Nat.add_mul]
    congr 1
    omega
   rw [getG_put b p d (i + 1) _ (n / 128) rest (by omega) h3 (by omega) (Or.inr (by omega)), putL_big h]
   have h4 : (128 + n % 128) % 128 = n % 128 := by omega
   rw [h4, List.length_cons]
   congr 2
   ·omega
   ·omega
theorem getB_put (n : Nat) (hn : n ≤ 4611686018427387903) (rest : List Int) : getB (putL n ++ rest) 0 = some (n, (putL n).length) := by
 unfold getB
 rw [getG_put (putL n ++ rest) 0 9 0 0 n rest rfl rfl (by omega) (Or.inl rfl)]
 simp
theorem bytes_strOf (xs : List Int) (h : IsB xs) : bytesOf (strOfNums xs) = xs := by
 unfold strOfNums bytesOf
 show List.map _ (List.map _ xs) = xs
 rw [List.map_map]
 conv => rhs; rw [← List.map_id xs]
 refine List.map_congr_left fun x hx => ?_
 have := h x hx
 show (((UInt8.ofNat x.toNat).toNat : Nat) : Int) = x
 rw [UInt8.toNat_ofNat']
 omega
theorem strOf_size (xs : List Int) : (strOfNums xs).size = xs.length := by
 unfold strOfNums
 show (List.map _ xs).toArray.size = _
 simp
theorem strOf_inj {xs ys : List Int} (h1 : IsB xs) (h2 : IsB ys) (h : (strOfNums xs).toList = (strOfNums ys).toList) : xs = ys := by
 have e : strOfNums xs = strOfNums ys := by
  have h3 : (strOfNums xs).data.toList = (strOfNums ys).data.toList := by rw [ByteArray.toList_eq, ByteArray.toList_eq] at h; exact h
  have h4 : (strOfNums xs).data = (strOfNums ys).data := Array.toList_inj.1 h3
  cases hx : strOfNums xs
  cases hy : strOfNums ys
  rw [hx, hy] at h4
  exact congrArg _ h4
 rw [← bytes_strOf xs h1, ← bytes_strOf ys h2, e]
end Go.Proofs.Ytndjodgcemgpfaa.Q
end
section
namespace Go.Proofs.Ytndjodgcemgpfaa.Q
open Go.RowKit Go.Proofs.YtndjodgcemgpfaaW.PrintWords Go.Proofs.YtndjodgcemgpfaaW.PrintLast Go.Proofs.YtndjodgcemgpfaaW.PrintMore
abbrev RecT := Int × Int × ByteArray × ByteArray × List S84
def zRec : RecT := (0, 0, ⟨#[]⟩, ⟨#[]⟩, [])
def partAt (b : List Int) (n at_ : Nat) : List Int := (b.take (at_ + n)).drop at_
def Roomy (b : List Int) (n at_ : Nat) : Prop := 2 ≤ n ∧ n + at_ + 4 ≤ b.length
instance (b : List Int) (n at_ : Nat) : Decidable (Roomy b n at_) := by unfold Roomy; infer_instance
theorem partAt_length {b : List Int} {n at_ : Nat} (h : Roomy b n at_) : (partAt b n at_).length = n := by
 have := h.2
 unfold partAt
 rw [uf, ug]
 omega
theorem isB_take {b : List Int} (h : IsB b) (n : Nat) : IsB (b.take n) := fun x hx => h x (List.mem_of_mem_take hx)
theorem isB_drop {b : List Int} (h : IsB b) (n : Nat) : IsB (b.drop n) := fun x hx => h x (List.mem_of_mem_drop hx)
theorem partAt_isB {b : List Int} (h : IsB b) (n at_ : Nat) : IsB (partAt b n at_) := isB_drop (isB_take h _) _
noncomputable def oFin (b : List Int) (r : RecT) : RecT × Int :=
 if (recR r.1 r.2.1 r.2.2.1 r.2.2.2.1 r.2.2.2.2).2 = 0 ∧ (recR r.1 r.2.1 r.2.2.1 r.2.2.2.1 r.2.2.2.2).1.length ≤ b.length ∧ (recR r.1 r.2.1 r.2.2.1 r.2.2.2.1 r.2.2.2.2).1 = b.take (recR r.1 r.2.1 r.2.2.1 r.2.2.2.1 r.2.2.2.2).1.length
 then (r, ((recR r.1 r.2.1 r.2.2.1 r.2.2.2.1 r.2.2.2.2).1.length : Int)) else (zRec, 0)
noncomputable def oBody (part : List Int) (seq k : Nat) : Option RecT :=
 if rd part 0 = 1 then (if (rdR (part.drop k)).2.2 = 0 then some (rd part 0, (seq : Int), ⟨#[]⟩, (rdR (part.drop k)).1, (rdR (part.drop k)).2.1) else none)
 else if rd part 0 = 2 then some (rd part 0, (seq : Int), strOfNums (part.drop k), ⟨#[]⟩, []) else some (rd part 0, (seq : Int), ⟨#[]⟩, ⟨#[]⟩, [])
noncomputable def oRec (b : List Int) : RecT × Int :=
 match getB b 0 with
 | none => (zRec, 0)
 | some (n, at_) => if Roomy b n at_ then (match getB (partAt b n at_) 1 with
  | none => (zRec, 0)
  | some (seq, k) => (match oBody (partAt b n at_) seq k with
   | none => (zRec, 0)
   | some r => oFin b r)) else (zRec, 0)
theorem oRec_none {b : List Int} (h : getB b 0 = none) : oRec b = (zRec, 0) := by unfold oRec; rw [h]
theorem oRec_small {b : List Int} {n at_ : Nat} (h : getB b 0 = some (n, at_)) (h1 : ¬ Roomy b n at_) : oRec b = (zRec, 0) := by
 unfold oRec
 rw [h]
 exact if_neg h1
theorem oRec_noseq {b : List Int} {n at_ : Nat} (h : getB b 0 = some (n, at_)) (h1 : Roomy b n at_) (h2 : getB (partAt b n at_) 1 = none) : oRec b = (zRec, 0) := by
 unfold oRec
 rw [h]
 show (if _ then _ else _) = _
 rw [if_pos h1, h2]
theorem oRec_nobody {b : List Int} {n at_ seq k : Nat} (h : getB b 0 = some (n, at_)) (h1 : Roomy b n at_) (h2 : getB (partAt b n at_) 1 = some (seq, k)) (h3 : oBody (partAt b n at_) seq k = none) : oRec b = (zRec, 0) := by
 unfold oRec
 rw [h]
 show (if _ then _ else _) = _
 rw [if_pos h1, h2]
 show (match oBody (partAt b n at_) seq k with | none => _ | some r => _) = _
 rw [h3]
theorem oRec_some {b : List Int} {n at_ seq k : Nat} {r : RecT} (h : getB b 0 = some (n, at_)) (h1 : Roomy b n at_) (h2 : getB (partAt b n at_) 1 = some (seq, k)) (h3 : oBody (partAt b n at_) seq k = some r) : oRec b = oFin b r := by
 unfold oRec
 rw [h]
 show (if _ then _ else _) = _
 rw [if_pos h1, h2]
 show (match oBody (partAt b n at_) seq k with | none => _ | some r => _) = _
 rw [h3]
noncomputable def lBody (part : List Int) (seq : Int) (k : Nat) : RecT × Bool :=
 if rd part 0 = 1 then (if (rdR (part.drop k)).2.2 = 0 then ((rd part 0, seq, ⟨#[]⟩, (rdR (part.drop k)).1, (rdR (part.drop k)).2.1), true) else ((rd part 0, seq, ⟨#[]⟩, ⟨#[]⟩, []), false))
 else ((rd part 0, seq, strOfNums (part.drop k), ⟨#[]⟩, []), true)
noncomputable def recB (r : RecT) : List Int := if r.1 = 1 then recL (partL r.1 r.2.1.toNat (docL r.2.2.2.1 r.2.2.2.2)) else recL (partL r.1 r.2.1.toNat (bytesOf r.2.2.1))
noncomputable def lFin (b : List Int) (p e : Nat) (r : RecT) : RecT × Int × Bool :=
 if recOk r.1 r.2.1 r.2.2.1 r.2.2.2.1 r.2.2.2.2 = true ∧ recB r = (b.take e).drop p then (r, (e : Int), true) else (r, 0, false)
noncomputable def lNext (b : List Int) (p : Nat) (s : Int) : RecT × Int × Bool :=
 match getB b p with
 | none => (zRec, 0, false)
 | some (n, at_) => if Roomy b n at_ then (match getB (partAt b n at_) 1 with
  | none => ((rd (partAt b n at_) 0, 0, ⟨#[]⟩, ⟨#[]⟩, []), 0, false)
  | some (seq, k) => if (seq : Int) = s then (if (lBody (partAt b n at_) s k).2 = true then lFin b p (at_ + n + 4) (lBody (partAt b n at_) s k).1 else ((lBody (partAt b n at_) s k).1, 0, false))
   else ((rd (partAt b n at_) 0, 0, ⟨#[]⟩, ⟨#[]⟩, []), 0, false)) else (zRec, 0, false)
section
variable (b : List Int)
theorem rdT_size {p : Nat} {r : ByteArray × Nat} (h : rdT b p = some r) : r.1.size ≤ 65536 := by
 unfold rdT at h
 obtain ⟨q, hq, h⟩ := ue.1 h
 split at h
 ·rename_i hh
  obtain rfl := Option.some.inj h
  show (strOfNums _).size ≤ _
  rw [strOf_size, uf, ug]
  omega
 ·simp at h
theorem rdN_okN {p : Nat} {r : Int × Nat} (h : rdN b p = some r) : OkN r.1 := by
 unfold rdN at h
 obtain ⟨q, hq, h⟩ := ue.1 h
 split at h
 ·obtain rfl := Option.some.inj h
  show OkN (numV q.1)
  unfold numV OkN
  split <;> omega
 ·simp at h
theorem rdTs_fit : ∀ (m p : Nat) (r : List ByteArray × Nat), rdTs b m p = some r → ∀ t ∈ r.1, FitT t
 | 0, p, r, h => by
  obtain rfl := Option.some.inj h
  simp
 | m + 1, p, r, h => by
  unfold rdTs at h
  obtain ⟨q, hq, h⟩ := ue.1 h
  obtain ⟨s, hs, h⟩ := ue.1 h
  obtain rfl := Option.some.inj h
  intro t ht
  rcases List.mem_cons.1 ht with rfl | ht
  ·exact rdT_size b hq
  ·exact rdTs_fit m q.2 s hs t ht
theorem rdNs_fit : ∀ (m p : Nat) (r : List Int × Nat), rdNs b m p = some r → ∀ t ∈ r.1, OkN t
 | 0, p, r, h => by
  obtain rfl := Option.some.inj h
  simp
 | m + 1, p, r, h => by
  unfold rdNs at h
  obtain ⟨q, hq, h⟩ := ue.1 h
  obtain ⟨s, hs, h⟩ := ue.1 h
  obtain rfl := Option.some.inj h
  intro t ht
  rcases List.mem_cons.1 ht with rfl | ht
  ·exact rdN_okN b hq
  ·exact rdNs_fit m q.2 s hs t ht
theorem rdV_fit {p : Nat} {r : S84 × Nat} (h : rdV b p = some r) : FitV r.1 := by
 have hl := rdV_le b h
 unfold rdV at h
 obtain ⟨f, hf, h⟩ := ue.1 h
 obtain ⟨c, hc, h⟩ := ue.1 h
 obtain ⟨ts, hts, h⟩ := ue.1 h
 obtain ⟨d, hd, h⟩ := ue.1 h
 obtain ⟨ns, hns, h⟩ := ue.1 h
 obtain rfl := Option.some.inj h
 exact ⟨rdT_size b hf, hl.2.1, hl.2.2, rdTs_fit b _ _ _ hts, rdNs_fit b _ _ _ hns⟩
theorem rdVs_fit : ∀ (m p : Nat) (r : List S84 × Nat), rdVs b m p = some r → ∀ t ∈ r.1, FitV t
 | 0, p, r, h => by
  obtain rfl := Option.some.inj h
  simp
 | m + 1, p, r, h => by
  unfold rdVs at h
  obtain ⟨q, hq, h⟩ := ue.1 h
  obtain ⟨s, hs, h⟩ := ue.1 h
  obtain rfl := Option.some.inj h
  intro t ht
  rcases List.mem_cons.1 ht with rfl | ht
  ·exact rdV_fit b hq
  ·exact rdVs_fit m q.2 s hs t ht
theorem fitD_nil : FitD ByteArray.empty [] := ⟨Nat.zero_le _, Nat.zero_le _, fun x hx => by simp at hx⟩
theorem rdR_fit : FitD (rdR b).1 (rdR b).2.1 := by
 rcases opt_split (rdD b) with hg | ⟨r, hg⟩
 ·rw [rdR_none b hg]
  exact fitD_nil
 ·rw [rdR_some b hg]
  split
  ·unfold rdD at hg
   obtain ⟨f, hf, hg⟩ := ue.1 hg
   obtain ⟨c, hc, hg⟩ := ue.1 hg
   obtain ⟨vs, hvs, hg⟩ := ue.1 hg
   obtain rfl := Option.some.inj hg
   have hcl := rdC_le b hc
   exact ⟨rdT_size b hf, by show vs.1.length ≤ _; rw [(rdVs_le b _ _ _ hcl.2 hvs).2.1]; exact hcl.1, rdVs_fit b _ _ _ hvs⟩
  ·exact fitD_nil
end
theorem flatMap_le' {α : Type} (f : α → List Int) (c : Nat) : ∀ (xs : List α), (∀ x ∈ xs, (f x).length ≤ c) → (xs.flatMap f).length ≤ xs.length * c
 | [], _ => by simp
 | x :: xs, h => by
  rw [List.flatMap_cons, ul, List.length_cons, Nat.add_mul]
  have h1 := h x (by simp)
  have h2 := flatMap_le' f c xs (fun y hy => h y (by simp [hy]))
  omega
theorem valL_fit {x : S84} (h : FitV x) : (valL x).length ≤ 268600000 := by
 obtain ⟨h0, h1, h2, h3, h4⟩ := h
 have a0 := txtL_le x.f0 (by omega)
 have a1 := putL_len x.f1.length (by omega)
 have a2 := putL_len x.f2.length (by omega)
 have a3 := flatMap_le' txtL 65545 x.f1 (fun t ht => by have := txtL_le t (by have := h3 t ht; unfold FitT at this; omega); have := h3 t ht; unfold FitT at this; omega)
 have a4 := flatMap_le' numL 9 x.f2 (fun n hn => numL_le n (by have := h4 n hn; unfold OkN at this; unfold numN; split <;> omega))
 unfold valL
 simp only [ul]
 have b3 : x.f1.length * 65545 ≤ 4096 * 65545 := Nat.mul_le_mul_right _ h1
 have b4 : x.f2.length * 9 ≤ 4096 * 9 := Nat.mul_le_mul_right _ h2
 omega
theorem docL_fit {id : ByteArray} {ds : List S84} (h : FitD id ds) : (docL id ds).length < 140737488350000 := by
 obtain ⟨h0, h1, h2⟩ := h
 have a0 := txtL_le id (by omega)
 have a1 := putL_len ds.length (by omega)
 have a2 := flatMap_le' valL 268600000 ds (fun x hx => valL_fit (h2 x hx))
 have b2 : ds.length * 268600000 ≤ 4096 * 268600000 := Nat.mul_le_mul_right _ h1
 unfold docL
 simp only [ul]
 omega
end Go.Proofs.Ytndjodgcemgpfaa.Q
end
section
namespace Go.Proofs.Ytndjodgcemgpfaa.Q
open Go.RowKit Go.Proofs.YtndjodgcemgpfaaW.PrintWords Go.Proofs.YtndjodgcemgpfaaW.PrintLast Go.Proofs.YtndjodgcemgpfaaW.PrintMore
attribute [local go_sem] max2_int min2_int max_two min_two max_three min_three max_four min_four
def bytes_Equal.f (l0 : List Int) (l1 : List Int) : Option (Bool) := some ((strOfNums l0).toList == (strOfNums l1).toList)
set_option maxHeartbeats 8000000 in
set_option maxRecDepth 100000 in
theorem bytes_Equal.calls (A0 : Option Addr) (c0 : Nat) (l0 : List Int) (A1 : Option Addr) (c1 : Nat) (l1 : List Int) (r : Bool) (w : World) (hr0 : Kd.C (Kd.int .u8) w A0 l0.length l0) (hc0 : l0.length ≤ c0) (hr1 : Kd.C (Kd.int .u8) w A1 l1.length l1) (hc1 : l1.length ≤ c1) (h : bytes_Equal.f l0 l1 = some r) :
  Calls Try.prog 114 #[.slice A0 l0.length c0, .slice A1 l1.length c1] w fun e w' => e = .returned (.bool r) ∧ Drawn0 w w' := by
 have HR0 := z1o.mk hr0
 have HC0 := z1o.mk hc0
 clear hr0 hc0
 have HR1 := z1o.mk hr1
 have HC1 := z1o.mk hc1
 clear hr1 hc1
 have H : (some ((strOfNums l0).toList == (strOfNums l1).toList)) = some r := h
 clear h
 obtain rfl := Option.some.inj H
 have hcv3 := Kd.C_string (P := Try.prog) (A := A0) (c := c0) Try.underlying26 Try.underlying5 Try.underlying9 HR0.out
 have hcv4 := Kd.C_string (P := Try.prog) (A := A1) (c := c1) Try.underlying26 Try.underlying5 Try.underlying9 HR1.out
 go_enter Try.func114, Try.ntmps114
 go_wp2
 go_ret
 exact ⟨by first | rfl | (simp; done) | (simp [*]; done), yb⟩
end Go.Proofs.Ytndjodgcemgpfaa.Q
end
section
namespace Go.Proofs.Ytndjodgcemgpfaa.Q
open Go.RowKit Go.Proofs.YtndjodgcemgpfaaW.PrintWords Go.Proofs.YtndjodgcemgpfaaW.PrintLast Go.Proofs.YtndjodgcemgpfaaW.PrintMore
def RecPost (w : World) (r : RecT × Int) (e : Ending) (w' : World) : Prop := ∃ v : Value, e = .returned (.tuple #[.agg #[.int .i64 r.1.1, .int .i64 r.1.2.1, .string r.1.2.2.1, .string r.1.2.2.2.1, v], .int .i64 r.2]) ∧ Kd.S k84 84 w' w.heap.size (fun _ => True) v r.1.2.2.2.2 ∧ Below w.heap.size w w'
theorem getInt_some {A : Option Addr} {c : Nat} {b : List Int} {p n q : Nat} {w : World} (hg : getB b p = some (n, q)) (hr : Kd.C (Kd.int .u8) w A b.length b) (hc : b.length ≤ c) (hb : IsB b) (hl : b.length ≤ 1048576) (hp : p ≤ b.length) :
  Calls Try.prog 113 #[.slice A b.length c, .int .i64 (p : Int)] w fun e w' => e = .returned (.tuple #[.int .i64 (n : Int), .int .i64 (q : Int), .int .i64 0]) ∧ Drawn0 w w' := by
 obtain ⟨K, e⟩ := (implGet_ev b p hb hl hp).1 _ hg
 exact z1e.calls K A c b p _ _ _ w hr hc (e K (um _))
theorem getInt_none {A : Option Addr} {c : Nat} {b : List Int} {p : Nat} {w : World} (hg : getB b p = none) (hr : Kd.C (Kd.int .u8) w A b.length b) (hc : b.length ≤ c) (hb : IsB b) (hl : b.length ≤ 1048576) (hp : p ≤ b.length) :
  Calls Try.prog 113 #[.slice A b.length c, .int .i64 (p : Int)] w fun e w' => e = .returned (.tuple #[.int .i64 0, .int .i64 0, .int .i64 3]) ∧ Drawn0 w w' := by
 obtain ⟨K, e⟩ := (implGet_ev b p hb hl hp).2 hg
 exact z1e.calls K A c b p _ _ _ w hr hc (e K (um _))
theorem getInt_some' {A : Option Addr} {c : Nat} {b : List Int} {p n q m : Nat} {w : World} (hm : b.length = m) (hg : getB b p = some (n, q)) (hr : Kd.C (Kd.int .u8) w A b.length b) (hc : m ≤ c) (hb : IsB b) (hl : m ≤ 1048576) (hp : p ≤ m) :
  Calls Try.prog 113 #[.slice A m c, .int .i64 (p : Int)] w fun e w' => e = .returned (.tuple #[.int .i64 (n : Int), .int .i64 (q : Int), .int .i64 0]) ∧ Drawn0 w w' := by
 subst hm
 exact getInt_some hg hr hc hb hl hp
theorem getInt_none' {A : Option Addr} {c : Nat} {b : List Int} {p m : Nat} {w : World} (hm : b.length = m) (hg : getB b p = none) (hr : Kd.C (Kd.int .u8) w A b.length b) (hc : m ≤ c) (hb : IsB b) (hl : m ≤ 1048576) (hp : p ≤ m) :
  Calls Try.prog 113 #[.slice A m c, .int .i64 (p : Int)] w fun e w' => e = .returned (.tuple #[.int .i64 0, .int .i64 0, .int .i64 3]) ∧ Drawn0 w w' := by
 subst hm
 exact getInt_none hg hr hc hb hl hp
theorem readDoc_p {A : Option Addr} {c m : Nat} {b : List Int} {did : ByteArray} {ds : List S84} {rc : Int} {w : World} (hm : b.length = m) (hg : rdR b = (did, ds, rc)) (hr : Kd.C (Kd.int .u8) w A b.length b) (hc : m ≤ c) (hb : IsB b) (hl : m ≤ 1048576) :
  Calls Try.prog 20 #[.slice A m c] w fun e w' => ∃ v : Value, e = .returned (.tuple #[.agg #[.string did, v], .int .i64 rc]) ∧ Kd.S k84 84 w' w.heap.size (fun _ => True) v ds ∧ Below w.heap.size w w' := by
 subst hm
 obtain ⟨K, e⟩ := impl_ReadDoc_ev b hb hl
 have e1 := e K (um _)
 rw [hg] at e1
 exact impl_ReadDoc.calls K A c b _ _ _ w hr hc e1
theorem recBytes_p {A : Option Addr} {c : Nat} {kind seq : Int} {id did : ByteArray} {ds : List S84} {xb : List Int} {xc : Int} {w : World} (hg : recR kind seq id did ds = (xb, xc)) (hid : id.size ≤ 1048576) (hf : FitD did ds) (hr : Kd.C k84 w A ds.length ds) (hc : ds.length ≤ c) :
  Calls Try.prog 25 #[.agg #[.int .i64 kind, .int .i64 seq, .string id, .string did, .slice A ds.length c]] w fun e w' => ∃ v : Value, e = .returned (.tuple #[v, .int .i64 xc]) ∧ Kd.R (Kd.int .u8) 5 w' w.heap.size (fun _ => True) v xb ∧ Below w.heap.size w w' := by
 obtain ⟨h0, h1, h2⟩ := hf
 obtain ⟨K, e⟩ := impl_RecordBytes_ev kind seq id did ds hid (by omega) (fun x hx => ⟨by have := (h2 x hx).2.1; omega, by have := (h2 x hx).2.2.1; omega⟩) (docL_fit ⟨h0, h1, h2⟩)
 have e1 := e K (um _)
 rw [hg] at e1
 exact z12.calls K kind seq id did A c ds xb xc w hr hc e1
theorem recL_isB {p : List Int} (h : IsB p) : IsB (recL p) := isB_append (isB_append (putL_isB _) h) (fourL_isB _)
theorem recR_isB (kind seq : Int) (id did : ByteArray) (ds : List S84) : IsB (recR kind seq id did ds).1 := by
 have hf : ∀ p, IsB p → IsB (finR p).1 := fun p h => by
  unfold finR
  split
  ·exact recL_isB h
  ·exact fun x hx => by simp at hx
 have hn : IsB ([] : List Int) := fun x hx => by simp at hx
 unfold recR
 repeat' split
 all_goals first | exact hn | exact hf _ (partL_isB _ _ (docL_isB _ _)) | exact hf _ (partL_isB _ _ (bytesOf_isB _))
theorem bytesEqual_p {A0 A1 : Option Addr} {c0 c1 m0 m1 : Nat} {l0 l1 : List Int} {r : Bool} {w : World} (h0 : l0.length = m0) (h1 : l1.length = m1) (hr0 : Kd.C (Kd.int .u8) w A0 l0.length l0) (hc0 : m0 ≤ c0) (hr1 : Kd.C (Kd.int .u8) w A1 l1.length l1) (hc1 : m1 ≤ c1) (hb0 : IsB l0) (hb1 : IsB l1) (h : decide (l0 = l1) = r) :
  Calls Try.prog 114 #[.slice A0 m0 c0, .slice A1 m1 c1] w fun e w' => e = .returned (.bool r) ∧ Drawn0 w w' := by
 subst h0 h1
 refine bytes_Equal.calls A0 c0 l0 A1 c1 l1 r w hr0 hc0 hr1 hc1 ?_
 unfold bytes_Equal.f
 rw [← h]
 congr 1
 by_cases e : l0 = l1
 ·rw [decide_eq_true e, e]
  simp
 ·rw [decide_eq_false e]
  simp only [beq_eq_false_iff_ne, ne_eq]
  exact fun h => e (strOf_inj hb0 hb1 h)
def zCells : Array Value := #[.int .i64 0, .int .i64 0, .string ⟨#[]⟩, .string ⟨#[]⟩, .slice none 0 0]
theorem zPut {w : World} {g : Nat} (h : w.heap[g]? = some (.cells zCells 47 (0, 0))) :
  (((((w.setCell ⟨g, 0, none⟩ (.int .i64 0)).setCell ⟨g, 1, none⟩ (.int .i64 0)).setCell ⟨g, 2, none⟩ (.string ⟨#[]⟩)).setCell ⟨g, 3, none⟩ (.string ⟨#[]⟩)).setCell ⟨g, 4, none⟩ (.slice none 0 0)).heap[g]? = some (.cells zCells 47 (0, 0)) :=
 zd (zd (zd (zd (zd h 0 _ rfl) 1 _ rfl) 2 _ rfl) 3 _ rfl) 4 _ rfl
theorem bk5 {w : World} {g : Nat} {t : TypeId} {v0 v1 v2 v3 v4 : Value} (h : w.heap[g]? = some (.cells #[v0, v1, v2, v3, v4] t (0, 0))) : w.cell? ⟨g, 0, none⟩ = some v0 ∧ w.cell? ⟨g, 1, none⟩ = some v1 ∧ w.cell? ⟨g, 2, none⟩ = some v2 ∧ w.cell? ⟨g, 3, none⟩ = some v3 ∧ w.cell? ⟨g, 4, none⟩ = some v4 := ⟨(z6 h 0).trans rfl, (z6 h 1).trans rfl, (z6 h 2).trans rfl, (z6 h 3).trans rfl, (z6 h 4).trans rfl⟩
theorem bkz {w : World} {g : Nat} (h : w.heap[g]? = some (.cells zCells 47 (0, 0))) : w.cell? ⟨g, 0, none⟩ = some (.int .i64 0) ∧ w.cell? ⟨g, 1, none⟩ = some (.int .i64 0) ∧ w.cell? ⟨g, 2, none⟩ = some (.string ⟨#[]⟩) ∧ w.cell? ⟨g, 3, none⟩ = some (.string ⟨#[]⟩) ∧ w.cell? ⟨g, 4, none⟩ = some (.slice none 0 0) := bk5 h
theorem set5 {w W : World} {a b c d e : Value} (h : Below w.heap.size w W) : Below w.heap.size w (((((W.setCell ⟨w.heap.size, 0, none⟩ a).setCell ⟨w.heap.size, 1, none⟩ b).setCell ⟨w.heap.size, 2, none⟩ c).setCell ⟨w.heap.size, 3, none⟩ d).setCell ⟨w.heap.size, 4, none⟩ e) := z4 (z4 (z4 (z4 (z4 h (um _)) (um _)) (um _)) (um _)) (um _)
theorem put5 {w : World} {g : Nat} (h : w.heap[g]? = some (.cells zCells 47 (0, 0))) (a b c d e : Value) : (((((w.setCell ⟨g, 0, none⟩ a).setCell ⟨g, 1, none⟩ b).setCell ⟨g, 2, none⟩ c).setCell ⟨g, 3, none⟩ d).setCell ⟨g, 4, none⟩ e).heap[g]? = some (.cells #[a, b, c, d, e] 47 (0, 0)) := zd (zd (zd (zd (zd h 0 _ rfl) 1 _ rfl) 2 _ rfl) 3 _ rfl) 4 _ rfl
theorem far5 {ds : List S84} {w W : World} {v : Value} {N M : Nat} (h : Kd.S k84 84 W w.heap.size (fun k_ => N ≤ k_ ∧ k_ < M) v ds) (hN : w.heap.size < N) (a b c d e : Value) : Kd.S k84 84 (((((W.setCell ⟨w.heap.size, 0, none⟩ a).setCell ⟨w.heap.size, 1, none⟩ b).setCell ⟨w.heap.size, 2, none⟩ c).setCell ⟨w.heap.size, 3, none⟩ d).setCell ⟨w.heap.size, 4, none⟩ e) w.heap.size (fun _ => True) v ds :=
 have hf : ∀ k_, (N ≤ k_ ∧ k_ < M) → k_ ≠ w.heap.size := fun k_ hk_ => by have := hk_.1; omega
 Kd.S_mono (Kd.S_far (p := ⟨w.heap.size, 4, none⟩) (Kd.S_far (p := ⟨w.heap.size, 3, none⟩) (Kd.S_far (p := ⟨w.heap.size, 2, none⟩) (Kd.S_far (p := ⟨w.heap.size, 1, none⟩) (Kd.S_far (p := ⟨w.heap.size, 0, none⟩) h hf a) hf b) hf c) hf d) hf e) (fun _ _ => trivial)
theorem recR_odd {kind seq : Int} {id did : ByteArray} {ds : List S84} (h : kind ≠ 1 ∧ kind ≠ 2) : recR kind seq id did ds = ([], 1) := by
 unfold recR
 rw [if_neg h.1, if_neg h.2]
 split <;> rfl
theorem oFin_a {b : List Int} {r : RecT} {xb : List Int} {xc : Int} (h : recR r.1 r.2.1 r.2.2.1 r.2.2.2.1 r.2.2.2.2 = (xb, xc)) (h1 : xc ≠ 0 ∨ b.length < xb.length ∨ ¬ xb = b.take xb.length) : oFin b r = (zRec, 0) := by
 unfold oFin
 rw [h]
 exact if_neg (fun hh => by
  rcases h1 with h1 | h1 | h1
  ·exact h1 hh.1
  ·have h3 : xb.length ≤ b.length := hh.2.1
   omega
  ·exact h1 hh.2.2)
theorem oFin_d {b : List Int} {r : RecT} {xb : List Int} (h : recR r.1 r.2.1 r.2.2.1 r.2.2.2.1 r.2.2.2.2 = (xb, 0)) (h1 : xb.length ≤ b.length) (h2 : xb = b.take xb.length) : oFin b r = (r, (xb.length : Int)) := by
 unfold oFin
 rw [h]
 exact if_pos ⟨rfl, h1, h2⟩
theorem cutPart (A0 : Option Addr) (c0 : Nat) (b : List Int) (n q : Nat) (w : World) (hr0 : Kd.C (Kd.int .u8) w A0 b.length b) (hc0 : b.length ≤ c0) (h1 : Roomy b n q) :
  ∃ (A1 : Option Addr) (ad : Addr), (∀ W : World, (Instr.slice 26 (.slice A0 b.length c0) (some (.int .i64 (q : Int))) (some (.int .i64 ((q : Int) + (n : Int)))) none).run Try.prog W = .ok (.slice (some ad) n (c0 - q)) W) ∧ n ≤ c0 - q ∧ Kd.C (Kd.int .u8) w (some ad) (partAt b n q).length (partAt b n q) ∧ w.cell? ad = some (.int .u8 (rd (partAt b n q) 0)) := by
 have h2 := h1.1
 have h3 := h1.2
 obtain ⟨i0, hi0, -, hsz, -⟩ := info_parts info5
 obtain ⟨A1, hcut, hA, hC⟩ := z1t (P := Try.prog) (Value.int .u8) 0 26 5 .i64 .i64 Try.underlying26 hi0 hsz A0 c0 b (q : Int) ((q : Int) + (n : Int)) (by omega) (by omega) (by omega) hc0
 have ep : (b.take ((q : Int) + (n : Int)).toNat).drop ((q : Int)).toNat = partAt b n q := by unfold partAt; rw [show ((q : Int) + (n : Int)).toNat = q + n from by omega, Int.toNat_natCast]
 rw [ep] at hcut hA hC
 rw [Int.toNat_natCast] at hcut hC
 rw [partAt_length h1] at hcut hC
 have hR : Kd.C (Kd.int .u8) w A1 (partAt b n q).length (partAt b n q) := Kd.C_of_reads (h1 := fun _ => rfl) (hA w (Kd.reads_of_C hr0))
 obtain ⟨ad, e1, hx⟩ := Kd.at_int hR 0 (Int.le_refl _) (by rw [partAt_length h1]; omega)
 subst e1
 rw [show ((0 : Int)).toNat = 0 from rfl, Addr.add_zero'] at hx
 exact ⟨some ad, ad, hcut, hC, hR, hx⟩
theorem cutRest (A0 : Option Addr) (c0 : Nat) (b : List Int) (n q k : Nat) (w : World) (ad : Addr) {part : List Int} (hr : Kd.C (Kd.int .u8) w (some ad) part.length part) (hpl : part.length = n) (hc : n ≤ c0 - q) (hk : k ≤ n) :
  ∃ A3 : Option Addr, (∀ W : World, (Instr.slice 26 (.slice (some ad) n (c0 - q)) (some (.int .i64 (k : Int))) none none).run Try.prog W = .ok (.slice A3 (n - k) (c0 - q - k)) W) ∧ n - k ≤ c0 - q - k ∧ Kd.C (Kd.int .u8) w A3 (part.drop k).length (part.drop k) := by
 obtain ⟨i0, hi0, -, hsz, -⟩ := info_parts info5
 obtain ⟨A3, hcut3, hA3, hC3⟩ := z1u (P := Try.prog) (Value.int .u8) 0 26 5 .i64 Try.underlying26 hi0 hsz (some ad) (c0 - q) part (k : Int) (by omega) (by omega) (by omega)
 have el : (part.drop ((k : Int)).toNat).length = n - k := by rw [Int.toNat_natCast, uf, hpl]
 rw [el, hpl] at hcut3
 rw [el] at hC3
 rw [Int.toNat_natCast] at hcut3 hC3 hA3
 exact ⟨A3, hcut3, hC3, Kd.C_of_reads (h1 := fun _ => rfl) (hA3 w (Kd.reads_of_C hr))⟩
theorem cutHead (A0 : Option Addr) (c0 : Nat) (b : List Int) (m : Nat) (w : World) (hr0 : Kd.C (Kd.int .u8) w A0 b.length b) (hc0 : b.length ≤ c0) (hm : m ≤ b.length) :
  (∀ W : World, (Instr.slice 26 (.slice A0 b.length c0) none (some (.int .i64 (m : Int))) none).run Try.prog W = .ok (.slice A0 m c0) W) ∧ m ≤ c0 ∧ Kd.C (Kd.int .u8) w A0 (b.take m).length (b.take m) ∧ (b.take m).length = m := by
 obtain ⟨i0, hi0, -, hsz, -⟩ := info_parts info5
 obtain ⟨hcut6, hA6, hC6⟩ := z1v (P := Try.prog) (Value.int .u8) 0 26 5 .i64 Try.underlying26 hi0 hsz A0 c0 b (m : Int) (by omega) (by omega) hc0
 have e6 : (b.take ((m : Int)).toNat).length = m := by rw [Int.toNat_natCast, ug]; omega
 rw [e6] at hcut6 hC6
 rw [Int.toNat_natCast] at hA6 e6
 exact ⟨hcut6, hC6, Kd.C_of_reads (h1 := fun _ => rfl) (hA6 w (Kd.reads_of_C hr0)), e6⟩
set_option maxHeartbeats 16000000 in
set_option maxRecDepth 100000 in
theorem oRecord_all (A0 : Option Addr) (c0 : Nat) (b : List Int) (w : World) (hr0 : Kd.C (Kd.int .u8) w A0 b.length b) (hc0 : b.length ≤ c0) (hb : IsB b) (hl : b.length ≤ 1048576) :
  Calls Try.prog 72 #[.slice A0 b.length c0] w (RecPost w (oRec b)) := by
 have hu47 := Try.underlying47
 have hu31 := Try.underlying31
 have HR := z1o.mk hr0
 have HC := z1o.mk hc0
 have HIB := z1o.mk hb
 have HB := z1o.mk (Below.refl w.heap.size w)
 clear hr0 hc0 hb
 go_enter Try.func72, Try.ntmps72
 go_wp2_with fail
 go_at_call 113
 rcases opt_split (getB b 0) with hg | ⟨⟨n, q⟩, hg⟩
 ·have EQ := z1o.mk (oRec_none hg)
  refine (getInt_none (p := 0) hg (Kd.C_below HR.out (z2 HB.out _)) HC.out HIB.out hl (Nat.zero_le _)).mono ?_
  rintro e w1 ⟨rfl, hd⟩
  have hbl := hd.below
  have K0 := z1o.mk (zb (blk_new w (.cells zCells 47)) hbl)
  have HB1 := z1o.mk (za (z2 HB.out _) hbl)
  clear hd hbl
  clear hg
  obtain ⟨a_0, a_1, a_2, a_3, a_4⟩ := bkz K0.out
  have fa_ := z5 K0.out
  go_wp2_with fail
  refine bodyPost_ret (results_ct rfl _ _ w.heap.size 47 zCells (0, 0) _ rfl (zPut K0.out) Try.underlying47 rfl (by kernel_rfl)) rfl ?_
  rw [EQ.out]
  exact ⟨_, rfl, Kd.S_nil _ _ _ _ _, set5 HB1.out⟩
 ·have hle := getB_le b 0 hg
  have hn := hle.1
  have hq := hle.2.2
  clear hle
  refine (getInt_some (p := 0) hg (Kd.C_below HR.out (z2 HB.out _)) HC.out HIB.out hl (Nat.zero_le _)).mono ?_
  rintro e w1 ⟨rfl, hd⟩
  have hbl := hd.below
  have K0 := z1o.mk (zb (blk_new w (.cells zCells 47)) hbl)
  have HB1 := z1o.mk (za (z2 HB.out _) hbl)
  clear hd hbl
  obtain ⟨a_0, a_1, a_2, a_3, a_4⟩ := bkz K0.out
  have fa_ := z5 K0.out
  by_cases h1 : Roomy b n q
  case neg =>
   have EQ := z1o.mk (oRec_small hg h1)
   clear hg
   by_cases h2 : n < 2
   ·have k1 : decide ((n : Int) < 2) = true := decide_eq_true (by omega)
    clear h1 h2
    go_wp2_with fail
    refine bodyPost_ret (results_ct rfl _ _ w.heap.size 47 zCells (0, 0) _ rfl (zPut K0.out) Try.underlying47 rfl (by kernel_rfl)) rfl ?_
    rw [EQ.out]
    exact ⟨_, rfl, Kd.S_nil _ _ _ _ _, set5 HB1.out⟩
   ·have k1 : decide ((n : Int) < 2) = false := decide_eq_false (by omega)
    have k2 : decide ((b.length : Int) - (q : Int) - 4 < (n : Int)) = true := decide_eq_true (by have : ¬ n + q + 4 ≤ b.length := fun h => h1 ⟨by omega, h⟩; omega)
    clear h1 h2
    go_wp2_with fail
    refine bodyPost_ret (results_ct rfl _ _ w.heap.size 47 zCells (0, 0) _ rfl (zPut K0.out) Try.underlying47 rfl (by kernel_rfl)) rfl ?_
    rw [EQ.out]
    exact ⟨_, rfl, Kd.S_nil _ _ _ _ _, set5 HB1.out⟩
  have h2 := h1.1
  have h3 := h1.2
  have H1 := z1o.mk h1
  clear h1
  have k1 : decide ((n : Int) < 2) = false := decide_eq_false (by omega)
  have k2 : decide ((b.length : Int) - (q : Int) - 4 < (n : Int)) = false := decide_eq_false (by omega)
  obtain ⟨part, hP⟩ : ∃ x, x = partAt b n q := ⟨_, rfl⟩
  have hpl : part.length = n := by rw [hP]; exact partAt_length H1.out
  have hpb : IsB part := by rw [hP]; exact partAt_isB HIB.out n q
  obtain ⟨kd, hkd⟩ : ∃ kd, kd = rd part 0 := ⟨_, rfl⟩
  have hkb : 0 ≤ kd ∧ kd < 256 := by rw [hkd]; exact rd_isB hpb 0
  obtain ⟨A1, ad, hcut, hC, HRPa, hxa⟩ := cutPart A0 c0 b n q w HR.out HC.out H1.out
  rw [← hP] at HRPa hxa
  rw [← hkd] at hxa
  have HP := z1o.mk hP
  have HKD := z1o.mk hkd
  have HPL := z1o.mk hpl
  have HPB := z1o.mk hpb
  have HRP := z1o.mk HRPa
  have HCP := z1o.mk hC
  have HG := z1o.mk hg
  have hx1 : ∀ o, (w1.alloc o).cell? ad = some (.int .u8 kd) := fun o => ((z2 HB1.out o).cell (ua w _ hxa)).trans hxa
  have hkw : (0 : Int) < (n : Int) := by omega
  clear hP hkd hpl hpb HRPa hC hg hxa
  go_wp2_with fail
  go_at_call 113
  rcases opt_split (getB part 1) with h4 | ⟨⟨seq, k⟩, h4⟩
  ·have EQ : z1o (oRec b = (zRec, 0)) := z1o.mk (oRec_noseq HG.out H1.out (by rw [← HP.out]; exact h4))
   refine (getInt_none' (p := 1) HPL.out h4 (Kd.C_below (Kd.C_below HRP.out HB1.out) (z2 (Below.refl _ _) _)) HCP.out HPB.out (by omega) (by omega)).mono ?_
   rintro e w2 ⟨rfl, hd2⟩
   have hbl2 := hd2.below
   have L0 := z1o.mk (zb (z7 K0.out (.cells #[.int .i64 kd, .int .i64 0, .string ⟨#[]⟩, .string ⟨#[]⟩, .slice none 0 0] 47)) hbl2)
   have L1 := z1o.mk (zb (blk_new w1 (.cells #[.int .i64 kd, .int .i64 0, .string ⟨#[]⟩, .string ⟨#[]⟩, .slice none 0 0] 47)) hbl2)
   have HB2 := z1o.mk (za (z2 HB1.out _) hbl2)
   have NE := z1o.mk (show w.heap.size ≠ w1.heap.size from Nat.ne_of_lt (zg K0.out))
   have GE1 := z1o.mk HB1.out.size
   clear hd2 hbl2 fa_ a_0 a_1 a_2 a_3 a_4 hx1
   clear h4
   obtain ⟨d_0, d_1, d_2, d_3, d_4⟩ := bkz L0.out
   have fd_ := z5 L0.out
   go_wp2_with fail
   refine bodyPost_ret (results_ct rfl _ _ w.heap.size 47 zCells (0, 0) _ rfl (zPut L0.out) Try.underlying47 rfl (by kernel_rfl)) rfl ?_
   rw [EQ.out]
   exact ⟨_, rfl, Kd.S_nil _ _ _ _ _, set5 HB2.out⟩
  ·have hle4 := getB_le part 1 h4
   have hk0 := hle4.2.1
   have hk1 := hle4.2.2
   have hs := hle4.1
   clear hle4
   refine (getInt_some' (p := 1) HPL.out h4 (Kd.C_below (Kd.C_below HRP.out HB1.out) (z2 (Below.refl _ _) _)) HCP.out HPB.out (by omega) (by omega)).mono ?_
   rintro e w2 ⟨rfl, hd2⟩
   have hbl2 := hd2.below
   have L0 := z1o.mk (zb (z7 K0.out (.cells #[.int .i64 kd, .int .i64 0, .string ⟨#[]⟩, .string ⟨#[]⟩, .slice none 0 0] 47)) hbl2)
   have L1 := z1o.mk (zb (blk_new w1 (.cells #[.int .i64 kd, .int .i64 0, .string ⟨#[]⟩, .string ⟨#[]⟩, .slice none 0 0] 47)) hbl2)
   have HB2 := z1o.mk (za (z2 HB1.out _) hbl2)
   have NE := z1o.mk (show w.heap.size ≠ w1.heap.size from Nat.ne_of_lt (zg K0.out))
   have GE1 := z1o.mk HB1.out.size
   clear hd2 hbl2 fa_ a_0 a_1 a_2 a_3 a_4 hx1
   have H4 := z1o.mk h4
   rw [HPL.out] at hk1
   clear h4
   obtain ⟨d_0, d_1, d_2, d_3, d_4⟩ := bkz L0.out
   have fd_ := z5 L0.out
   obtain ⟨g_0, g_1, g_2, g_3, g_4⟩ := bk5 (w := w2) L1.out
   have fg_ := z5 L1.out
   obtain ⟨A3, hcut3, hC3, HRDa⟩ := cutRest A0 c0 b n q k w ad HRP.out HPL.out HCP.out hk1
   have HRD := z1o.mk HRDa
   have HCD := z1o.mk hC3
   have HLD := z1o.mk (show (part.drop k).length = n - k by rw [uf, HPL.out])
   have HBD := z1o.mk (isB_drop HPB.out k)
   have LT2 := z1o.mk (show w.heap.size < w2.heap.size from zg L0.out)
   clear hC3 HRDa
   have hk2 : (k : Int) ≤ (n : Int) := by omega
   have h4' : getB (partAt b n q) 1 = some (seq, k) := by rw [← HP.out]; exact H4.out
   have H4' := z1o.mk h4'
   clear h4' H4
   by_cases k1' : kd = 1
   case pos =>
    obtain ⟨⟨did, ds, rc⟩, h5⟩ : ∃ z, rdR (part.drop k) = z := ⟨_, rfl⟩
    have K1 := z1o.mk k1'
    have k3 : (kd == 1) = true := beq_iff_eq.mpr k1'
    clear k1'
    go_wp2_with fail
    go_at_call 20
    refine (readDoc_p HLD.out h5 (Kd.C_below HRD.out (z4 HB2.out GE1.out)) HCD.out HBD.out (by omega)).mono ?_
    rintro e w3 ⟨v3, rfl, hS, hB3⟩
    have HB3 := z1o.mk (za (z4 HB2.out GE1.out) hB3)
    have M0 := z1o.mk (zb (ze L0.out NE.out (p := ⟨w1.heap.size, 1, none⟩) (.int .i64 (seq : Int))) hB3)
    have M1 : z1o (w3.heap[w1.heap.size]? = some (.cells #[.int .i64 kd, .int .i64 (seq : Int), .string ⟨#[]⟩, .string ⟨#[]⟩, .slice none 0 0] 47 (0, 0))) := z1o.mk (zb (zd L1.out 1 (.int .i64 (seq : Int)) rfl) hB3)
    have LT1 := z1o.mk (zg L1.out)
    have HS := z1o.mk (Kd.S_mono (ok' := fun k_ => w2.heap.size ≤ k_ ∧ k_ < w3.heap.size) (Kd.S_span hS (show w.heap.size ≤ (w2.setCell _ _).heap.size by have := HB2.out.size; simpa using this)) (fun k_ hk_ => by simpa using hk_))
    obtain ⟨A4, c4, e4⟩ := Kd.S_slice HS.out
    subst e4
    have H5 := z1o.mk h5
    clear hS hB3 h5
    clear d_0 g_0 d_1 g_1 d_2 g_2 d_3 g_3 d_4 g_4
    have M0a := z1o.mk (z7 M0.out (.cells #[.string did, .slice A4 ds.length c4] 31))
    have M1a := z1o.mk (z7 M1.out (.cells #[.string did, .slice A4 ds.length c4] 31))
    obtain ⟨d_0, d_1, d_2, d_3, d_4⟩ := bkz M0a.out
    have fd_ := z5 M0a.out
    obtain ⟨g_0, g_1, g_2, g_3, g_4⟩ := bk5 (w := _) M1a.out
    have fg_ := z5 M1a.out
    by_cases h6 : rc = 0
    case neg =>
     have EQ : z1o (oRec b = (zRec, 0)) := z1o.mk (oRec_nobody HG.out H1.out H4'.out (by rw [← HP.out]; unfold oBody; rw [← HKD.out, if_pos K1.out, H5.out]; exact if_neg h6))
     have k6 : (rc != 0) = true := bne_iff_ne.mpr h6
     clear h6
     go_wp2_with fail
     refine bodyPost_ret (results_ct rfl _ _ w.heap.size 47 zCells (0, 0) _ rfl (zPut (z7 M0.out _)) Try.underlying47 rfl (by kernel_rfl)) rfl ?_
     rw [EQ.out]
     exact ⟨_, rfl, Kd.S_nil _ _ _ _ _, set5 (z2 HB3.out _)⟩
    subst h6
    have HF := z1o.mk (show FitD did ds by have := rdR_fit (part.drop k); rw [H5.out] at this; exact this)
    have HBO : z1o (oBody part seq k = some (kd, (seq : Int), (⟨#[]⟩ : ByteArray), did, ds)) := z1o.mk (by unfold oBody; rw [← HKD.out, if_pos K1.out, H5.out]; exact if_pos rfl)
    have EF : z1o (oRec b = oFin b (kd, (seq : Int), (⟨#[]⟩ : ByteArray), did, ds)) := z1o.mk (oRec_some HG.out H1.out H4'.out (by rw [← HP.out]; exact HBO.out))
    obtain ⟨⟨xb, xc⟩, h7⟩ : ∃ z, recR kd (seq : Int) ((⟨#[]⟩ : ByteArray)) (did) ds = z := ⟨_, rfl⟩
    have HX := z1o.mk (show IsB xb by have := recR_isB kd (seq : Int) ((⟨#[]⟩ : ByteArray)) (did) ds; rw [h7] at this; exact this)
    go_wp2_with fail
    go_at_call 25
    refine (recBytes_p (kind := kd) (seq := (seq : Int)) (id := (⟨#[]⟩ : ByteArray)) (did := did) (ds := ds) h7 (Nat.zero_le _) HF.out (Kd.S_reads' (Kd.S_far (p := ⟨w1.heap.size, 4, none⟩) (Kd.S_far (p := ⟨w1.heap.size, 3, none⟩) (Kd.S_alloc HS.out _) (fun k_ hk_ => by have := LT1.out; have := hk_.1; show k_ ≠ w1.heap.size; omega) _) (fun k_ hk_ => by have := LT1.out; have := hk_.1; show k_ ≠ w1.heap.size; omega) _)).2.2 (Kd.S_reads' HS.out).2.1).mono ?_
    rintro e w4 ⟨v5, rfl, hR, hB4⟩
    have H7 := z1o.mk h7
    clear h7
    have HB4 := z1o.mk (za (z4 (z4 (z2 HB3.out _) GE1.out) GE1.out) hB4)
    have N0 : z1o (w4.heap[w.heap.size]? = some (.cells zCells 47 (0, 0))) := z1o.mk (zb (ze (ze (z7 M0.out _) NE.out _) NE.out _) hB4)
    have N1 : z1o (w4.heap[w1.heap.size]? = some (.cells #[.int .i64 kd, .int .i64 (seq : Int), .string ((⟨#[]⟩ : ByteArray)), .string (did), .slice A4 ds.length c4] 47 (0, 0))) := z1o.mk (zb (zd (zd (z7 M1.out _) 3 _ rfl) 4 _ rfl) hB4)
    have HS4 := z1o.mk (Kd.S_below (Kd.S_far (p := ⟨w1.heap.size, 4, none⟩) (Kd.S_far (p := ⟨w1.heap.size, 3, none⟩) (Kd.S_alloc HS.out _) (fun k_ hk_ => by have := LT1.out; have := hk_.1; show k_ ≠ w1.heap.size; omega) _) (fun k_ hk_ => by have := LT1.out; have := hk_.1; show k_ ≠ w1.heap.size; omega) _) hB4)
    have HR5 := z1o.mk (Kd.R_lower hR ((z4 (z4 (z2 HB3.out _) GE1.out) GE1.out)).size)
    obtain ⟨A5, c5, e5⟩ := Kd.R_slice HR5.out
    subst e5
    clear hR hB4
    obtain ⟨u_0, u_1, u_2, u_3, u_4⟩ := bkz N0.out
    have fu_ := z5 N0.out
    obtain ⟨v_0, v_1, v_2, v_3, v_4⟩ := bk5 (w := w4) N1.out
    have fv_ := z5 N1.out
    by_cases h8 : xc = 0
    case neg =>
     have EQ := z1o.mk (EF.out.trans (oFin_a H7.out (Or.inl h8)))
     have k8 : (xc != 0) = true := bne_iff_ne.mpr h8
     clear h8
     go_wp2_with fail
     refine bodyPost_ret (results_ct rfl _ _ w.heap.size 47 zCells (0, 0) _ rfl (zPut N0.out) Try.underlying47 rfl (by kernel_rfl)) rfl ?_
     rw [EQ.out]
     exact ⟨_, rfl, Kd.S_nil _ _ _ _ _, set5 HB4.out⟩
    subst h8
    by_cases h9 : b.length < xb.length
    case pos =>
     have EQ := z1o.mk (EF.out.trans (oFin_a H7.out (Or.inr (Or.inl h9))))
     have k8 : decide (b.length < xb.length) = true := decide_eq_true h9
     clear h9
     go_wp2_with fail
     refine bodyPost_ret (results_ct rfl _ _ w.heap.size 47 zCells (0, 0) _ rfl (zPut N0.out) Try.underlying47 rfl (by kernel_rfl)) rfl ?_
     rw [EQ.out]
     exact ⟨_, rfl, Kd.S_nil _ _ _ _ _, set5 HB4.out⟩
    have k8 : decide (b.length < xb.length) = false := decide_eq_false h9
    obtain ⟨hcut6, hC6, HR6a, e6⟩ := cutHead A0 c0 b xb.length w HR.out HC.out (by omega)
    have HR6 := z1o.mk HR6a
    have E6 := z1o.mk e6
    have HC6 := z1o.mk hC6
    have H9 := z1o.mk h9
    clear HR6a e6 hC6 h9
    go_wp2_with fail
    go_at_call 114
    by_cases h10 : xb = b.take xb.length
    case neg =>
     have EQ := z1o.mk (EF.out.trans (oFin_a H7.out (Or.inr (Or.inr h10))))
     refine (bytesEqual_p (r := false) rfl E6.out (Kd.R_reads' HR5.out).2.2 (Kd.R_reads' HR5.out).2.1 (Kd.C_below HR6.out HB4.out) HC6.out HX.out (isB_take HIB.out _) (decide_eq_false h10)).mono ?_
     rintro e w5 ⟨rfl, hd5⟩
     have hB5 := hd5.below
     have HB5 := z1o.mk (za HB4.out hB5)
     have P0 := z1o.mk (zb N0.out hB5)
     have P1 := z1o.mk (zb N1.out hB5)
     have HS5 := z1o.mk (Kd.S_below HS4.out hB5)
     clear hd5 hB5 h10 u_0 v_0 u_1 v_1 u_2 v_2 u_3 v_3 u_4 v_4
     obtain ⟨u_0, u_1, u_2, u_3, u_4⟩ := bkz P0.out
     have fu_ := z5 P0.out
     obtain ⟨v_0, v_1, v_2, v_3, v_4⟩ := bk5 (w := w5) P1.out
     have fv_ := z5 P1.out
     go_wp2_with fail
     refine bodyPost_ret (results_ct rfl _ _ w.heap.size 47 zCells (0, 0) _ rfl (zPut P0.out) Try.underlying47 rfl (by kernel_rfl)) rfl ?_
     rw [EQ.out]
     exact ⟨_, rfl, Kd.S_nil _ _ _ _ _, set5 HB5.out⟩
    have EQ := z1o.mk (EF.out.trans (oFin_d H7.out (by have := H9.out; omega) h10))
    refine (bytesEqual_p (r := true) rfl E6.out (Kd.R_reads' HR5.out).2.2 (Kd.R_reads' HR5.out).2.1 (Kd.C_below HR6.out HB4.out) HC6.out HX.out (isB_take HIB.out _) (decide_eq_true h10)).mono ?_
    rintro e w5 ⟨rfl, hd5⟩
    have hB5 := hd5.below
    have HB5 := z1o.mk (za HB4.out hB5)
    have P0 := z1o.mk (zb N0.out hB5)
    have P1 := z1o.mk (zb N1.out hB5)
    have HS5 := z1o.mk (Kd.S_below HS4.out hB5)
    clear hd5 hB5 h10 u_0 v_0 u_1 v_1 u_2 v_2 u_3 v_3 u_4 v_4
    obtain ⟨u_0, u_1, u_2, u_3, u_4⟩ := bkz P0.out
    have fu_ := z5 P0.out
    obtain ⟨v_0, v_1, v_2, v_3, v_4⟩ := bk5 (w := w5) P1.out
    have fv_ := z5 P1.out
    go_wp2_with fail
    refine bodyPost_ret (results_ct rfl _ _ w.heap.size 47 #[.int .i64 kd, .int .i64 (seq : Int), .string ((⟨#[]⟩ : ByteArray)), .string (did), .slice A4 ds.length c4] (0, 0) _ rfl (put5 P0.out _ _ _ _ _) Try.underlying47 rfl (by kernel_rfl)) rfl ?_
    rw [EQ.out]
    exact ⟨_, rfl, far5 HS5.out LT2.out _ _ _ _ _, set5 HB5.out⟩
   have k3 : (kd == 1) = false := beq_eq_false_iff_ne.mpr k1'
   by_cases k2' : kd = 2
   case pos =>
    have HBO : z1o (oBody part seq k = some (kd, (seq : Int), strOfNums (part.drop k), (⟨#[]⟩ : ByteArray), [])) := z1o.mk (by unfold oBody; rw [← HKD.out, if_neg k1', if_pos k2'])
    have k3b : (kd == 2) = true := beq_iff_eq.mpr k2'
    clear k1' k2'
    have hcv := Kd.C_string (P := Try.prog) (A := A3) (c := c0 - q - k) Try.underlying26 Try.underlying5 Try.underlying9 (Kd.C_below HRD.out (z4 (j := 1) (v := .int .i64 (seq : Int)) HB2.out GE1.out))
    rw [HLD.out] at hcv
    have HID := z1o.mk (show (strOfNums (part.drop k)).size ≤ 1048576 by rw [strOf_size, HLD.out]; omega)
    have EF : z1o (oRec b = oFin b (kd, (seq : Int), strOfNums (part.drop k), (⟨#[]⟩ : ByteArray), ([] : List S84))) := z1o.mk (oRec_some HG.out H1.out H4'.out (by rw [← HP.out]; exact HBO.out))
    obtain ⟨⟨xb, xc⟩, h7⟩ : ∃ z, recR kd (seq : Int) (strOfNums (part.drop k)) ((⟨#[]⟩ : ByteArray)) ([] : List S84) = z := ⟨_, rfl⟩
    have HX := z1o.mk (show IsB xb by have := recR_isB kd (seq : Int) (strOfNums (part.drop k)) ((⟨#[]⟩ : ByteArray)) ([] : List S84); rw [h7] at this; exact this)
    go_wp2_with fail
    go_at_call 25
    refine (recBytes_p (kind := kd) (seq := (seq : Int)) (id := strOfNums (part.drop k)) (did := (⟨#[]⟩ : ByteArray)) (ds := ([] : List S84)) h7 HID.out (show FitD (⟨#[]⟩ : ByteArray) [] from ⟨Nat.zero_le _, Nat.zero_le _, fun x hx => by simp at hx⟩) (Kd.C_nil k84 _) (um _)).mono ?_
    rintro e w4 ⟨v5, rfl, hR, hB4⟩
    have H7 := z1o.mk h7
    clear h7
    have HB4 := z1o.mk (za (z4 (z4 HB2.out GE1.out) GE1.out) hB4)
    have N0 : z1o (w4.heap[w.heap.size]? = some (.cells zCells 47 (0, 0))) := z1o.mk (zb (ze (ze L0.out NE.out _) NE.out _) hB4)
    have N1 : z1o (w4.heap[w1.heap.size]? = some (.cells #[.int .i64 kd, .int .i64 (seq : Int), .string (strOfNums (part.drop k)), .string ((⟨#[]⟩ : ByteArray)), .slice none 0 0] 47 (0, 0))) := z1o.mk (zb (zd (zd L1.out 1 _ rfl) 2 _ rfl) hB4)
    have HS4 := z1o.mk (Kd.S_below (Kd.S_nil k84 84 _ w.heap.size (fun k_ => w2.heap.size ≤ k_ ∧ k_ < w2.heap.size)) hB4)
    have HR5 := z1o.mk (Kd.R_lower hR ((z4 (z4 HB2.out GE1.out) GE1.out)).size)
    obtain ⟨A5, c5, e5⟩ := Kd.R_slice HR5.out
    subst e5
    clear hR hB4
    obtain ⟨u_0, u_1, u_2, u_3, u_4⟩ := bkz N0.out
    have fu_ := z5 N0.out
    obtain ⟨v_0, v_1, v_2, v_3, v_4⟩ := bk5 (w := w4) N1.out
    have fv_ := z5 N1.out
    by_cases h8 : xc = 0
    case neg =>
     have EQ := z1o.mk (EF.out.trans (oFin_a H7.out (Or.inl h8)))
     have k8 : (xc != 0) = true := bne_iff_ne.mpr h8
     clear h8
     go_wp2_with fail
     refine bodyPost_ret (results_ct rfl _ _ w.heap.size 47 zCells (0, 0) _ rfl (zPut N0.out) Try.underlying47 rfl (by kernel_rfl)) rfl ?_
     rw [EQ.out]
     exact ⟨_, rfl, Kd.S_nil _ _ _ _ _, set5 HB4.out⟩
    subst h8
    by_cases h9 : b.length < xb.length
    case pos =>
     have EQ := z1o.mk (EF.out.trans (oFin_a H7.out (Or.inr (Or.inl h9))))
     have k8 : decide (b.length < xb.length) = true := decide_eq_true h9
     clear h9
     go_wp2_with fail
     refine bodyPost_ret (results_ct rfl _ _ w.heap.size 47 zCells (0, 0) _ rfl (zPut N0.out) Try.underlying47 rfl (by kernel_rfl)) rfl ?_
     rw [EQ.out]
     exact ⟨_, rfl, Kd.S_nil _ _ _ _ _, set5 HB4.out⟩
    have k8 : decide (b.length < xb.length) = false := decide_eq_false h9
    obtain ⟨hcut6, hC6, HR6a, e6⟩ := cutHead A0 c0 b xb.length w HR.out HC.out (by omega)
    have HR6 := z1o.mk HR6a
    have E6 := z1o.mk e6
    have HC6 := z1o.mk hC6
    have H9 := z1o.mk h9
    clear HR6a e6 hC6 h9
    go_wp2_with fail
    go_at_call 114
    by_cases h10 : xb = b.take xb.length
    case neg =>
     have EQ := z1o.mk (EF.out.trans (oFin_a H7.out (Or.inr (Or.inr h10))))
     refine (bytesEqual_p (r := false) rfl E6.out (Kd.R_reads' HR5.out).2.2 (Kd.R_reads' HR5.out).2.1 (Kd.C_below HR6.out HB4.out) HC6.out HX.out (isB_take HIB.out _) (decide_eq_false h10)).mono ?_
     rintro e w5 ⟨rfl, hd5⟩
     have hB5 := hd5.below
     have HB5 := z1o.mk (za HB4.out hB5)
     have P0 := z1o.mk (zb N0.out hB5)
     have P1 := z1o.mk (zb N1.out hB5)
     have HS5 := z1o.mk (Kd.S_below HS4.out hB5)
     clear hd5 hB5 h10 u_0 v_0 u_1 v_1 u_2 v_2 u_3 v_3 u_4 v_4
     obtain ⟨u_0, u_1, u_2, u_3, u_4⟩ := bkz P0.out
     have fu_ := z5 P0.out
     obtain ⟨v_0, v_1, v_2, v_3, v_4⟩ := bk5 (w := w5) P1.out
     have fv_ := z5 P1.out
     go_wp2_with fail
     refine bodyPost_ret (results_ct rfl _ _ w.heap.size 47 zCells (0, 0) _ rfl (zPut P0.out) Try.underlying47 rfl (by kernel_rfl)) rfl ?_
     rw [EQ.out]
     exact ⟨_, rfl, Kd.S_nil _ _ _ _ _, set5 HB5.out⟩
    have EQ := z1o.mk (EF.out.trans (oFin_d H7.out (by have := H9.out; omega) h10))
    refine (bytesEqual_p (r := true) rfl E6.out (Kd.R_reads' HR5.out).2.2 (Kd.R_reads' HR5.out).2.1 (Kd.C_below HR6.out HB4.out) HC6.out HX.out (isB_take HIB.out _) (decide_eq_true h10)).mono ?_
    rintro e w5 ⟨rfl, hd5⟩
    have hB5 := hd5.below
    have HB5 := z1o.mk (za HB4.out hB5)
    have P0 := z1o.mk (zb N0.out hB5)
    have P1 := z1o.mk (zb N1.out hB5)
    have HS5 := z1o.mk (Kd.S_below HS4.out hB5)
    clear hd5 hB5 h10 u_0 v_0 u_1 v_1 u_2 v_2 u_3 v_3 u_4 v_4
    obtain ⟨u_0, u_1, u_2, u_3, u_4⟩ := bkz P0.out
    have fu_ := z5 P0.out
    obtain ⟨v_0, v_1, v_2, v_3, v_4⟩ := bk5 (w := w5) P1.out
    have fv_ := z5 P1.out
    go_wp2_with fail
    refine bodyPost_ret (results_ct rfl _ _ w.heap.size 47 #[.int .i64 kd, .int .i64 (seq : Int), .string (strOfNums (part.drop k)), .string ((⟨#[]⟩ : ByteArray)), .slice none 0 0] (0, 0) _ rfl (put5 P0.out _ _ _ _ _) Try.underlying47 rfl (by kernel_rfl)) rfl ?_
    rw [EQ.out]
    exact ⟨_, rfl, far5 HS5.out LT2.out _ _ _ _ _, set5 HB5.out⟩
   have HBO : z1o (oBody part seq k = some (kd, (seq : Int), (⟨#[]⟩ : ByteArray), (⟨#[]⟩ : ByteArray), [])) := z1o.mk (by unfold oBody; rw [← HKD.out, if_neg k1', if_neg k2'])
   have k3b : (kd == 2) = false := beq_eq_false_iff_ne.mpr k2'
   have K12 := z1o.mk (show kd ≠ 1 ∧ kd ≠ 2 from ⟨k1', k2'⟩)
   clear k1' k2'
   have EF : z1o (oRec b = oFin b (kd, (seq : Int), (⟨#[]⟩ : ByteArray), (⟨#[]⟩ : ByteArray), ([] : List S84))) := z1o.mk (oRec_some HG.out H1.out H4'.out (by rw [← HP.out]; exact HBO.out))
   obtain ⟨⟨xb, xc⟩, h7⟩ : ∃ z, recR kd (seq : Int) ((⟨#[]⟩ : ByteArray)) ((⟨#[]⟩ : ByteArray)) ([] : List S84) = z := ⟨_, rfl⟩
   have HX := z1o.mk (show IsB xb by have := recR_isB kd (seq : Int) ((⟨#[]⟩ : ByteArray)) ((⟨#[]⟩ : ByteArray)) ([] : List S84); rw [h7] at this; exact this)
   go_wp2_with fail
   go_at_call 25
   refine (recBytes_p (kind := kd) (seq := (seq : Int)) (id := (⟨#[]⟩ : ByteArray)) (did := (⟨#[]⟩ : ByteArray)) (ds := ([] : List S84)) h7 (Nat.zero_le _) (show FitD (⟨#[]⟩ : ByteArray) [] from ⟨Nat.zero_le _, Nat.zero_le _, fun x hx => by simp at hx⟩) (Kd.C_nil k84 _) (um _)).mono ?_
   rintro e w4 ⟨v5, rfl, hR, hB4⟩
   have H7 := z1o.mk h7
   clear h7
   have HB4 := z1o.mk (za (z4 HB2.out GE1.out) hB4)
   have N0 : z1o (w4.heap[w.heap.size]? = some (.cells zCells 47 (0, 0))) := z1o.mk (zb (ze L0.out NE.out _) hB4)
   have N1 : z1o (w4.heap[w1.heap.size]? = some (.cells #[.int .i64 kd, .int .i64 (seq : Int), .string ((⟨#[]⟩ : ByteArray)), .string ((⟨#[]⟩ : ByteArray)), .slice none 0 0] 47 (0, 0))) := z1o.mk (zb (zd L1.out 1 _ rfl) hB4)
   have HS4 := z1o.mk (Kd.S_below (Kd.S_nil k84 84 _ w.heap.size (fun k_ => w2.heap.size ≤ k_ ∧ k_ < w2.heap.size)) hB4)
   have HR5 := z1o.mk (Kd.R_lower hR ((z4 HB2.out GE1.out)).size)
   obtain ⟨A5, c5, e5⟩ := Kd.R_slice HR5.out
   subst e5
   clear hR hB4
   obtain ⟨u_0, u_1, u_2, u_3, u_4⟩ := bkz N0.out
   have fu_ := z5 N0.out
   obtain ⟨v_0, v_1, v_2, v_3, v_4⟩ := bk5 (w := w4) N1.out
   have fv_ := z5 N1.out
   have e8 : xc = 1 := by have := H7.out; rw [recR_odd K12.out] at this; exact (congrArg Prod.snd this).symm
   subst e8
   have EQ := z1o.mk (EF.out.trans (oFin_a H7.out (Or.inl (by decide))))
   go_wp2_with fail
   refine bodyPost_ret (results_ct rfl _ _ w.heap.size 47 zCells (0, 0) _ rfl (zPut N0.out) Try.underlying47 rfl (by kernel_rfl)) rfl ?_
   rw [EQ.out]
   exact ⟨_, rfl, Kd.S_nil _ _ _ _ _, set5 HB4.out⟩
end Go.Proofs.Ytndjodgcemgpfaa.Q
end
