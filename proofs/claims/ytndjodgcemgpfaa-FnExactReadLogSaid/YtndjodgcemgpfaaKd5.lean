/- A part of the proof: the texts Qxf90, Qxf92, Qxf50, Qxf52, Qxf53, Qxf54, Qxf12, packed. -/
import Derived.Test.YtndjodgcemgpfaaKd4

open Go.World renaming block_lt_of_cell? → ua
open List renaming setIfInBounds_toArray → ub, set_cons_zero → uc, set_cons_succ → ud, length_drop → uf, length_take → ug, map_toArray → uh, map_cons → ui, map_nil → uj
open Option renaming bind_eq_some_iff → ue, bind_some → uk
open Nat renaming le_refl → um
set_option linter.unusedVariables false
set_option linter.unusedSimpArgs false
section
namespace Go.Proofs.Ytndjodgcemgpfaa.Q
open Go.RowKit Go.Proofs.YtndjodgcemgpfaaW.PrintWords Go.Proofs.YtndjodgcemgpfaaW.PrintLast Go.Proofs.YtndjodgcemgpfaaW.PrintMore
attribute [local go_sem] max2_int min2_int max_two min_two max_three min_three max_four min_four
def spec_l06PutText.f (k : Nat) (l0 : List Int) (a1 : ByteArray) : Option (List Int) := (z16.f k (a1.size : Int)).bind fun t127 => (if l0.length + t127.length < 140737488355328 then ((some (l0 ++ t127 : List Int)).bind fun y130 => (if y130.length + a1.size < 140737488355328 then (some (y130 ++ bytesOf a1)) else (none))) else (none))
set_option maxHeartbeats 8000000 in
set_option maxRecDepth 100000 in
theorem spec_l06PutText.calls (k : Nat) (P0_ : Nat → Prop) (u9000_ : Value) (l0 : List Int) (a1 : ByteArray) (r : List Int) (w0 w : World) (hB : Below w0.heap.size w0 w) (ho0 : Kd.R (Kd.int .u8) 5 w w0.heap.size P0_ u9000_ l0) (h : spec_l06PutText.f k l0 a1 = some r) :
  Calls Try.prog 90 #[u9000_, .string a1] w fun e w' => ∃ v0_ : Value, e = .returned (v0_) ∧ Kd.R (Kd.int .u8) 5 w' w0.heap.size (fun k_ => (P0_ k_ ∨ w.heap.size ≤ k_)) v0_ r ∧ Below w0.heap.size w0 w' ∧ Kept w w' (fun k_ => P0_ k_) := by
 have HO0 := z1o.mk (show Kd.R (Kd.int .u8) 5 w w0.heap.size (fun k_ => (P0_ k_ ∨ w.heap.size ≤ k_)) u9000_ l0 from Kd.R_mono ho0 (fun k_ hk => (.inl hk)))
 have HK := z1o.mk (Kept.refl w (fun k_ => P0_ k_))
 have HW0 := z1o.mk hB.size
 have HB := z1o.mk hB
 clear hB
 have H : ((z16.f k (a1.size : Int)).bind fun t127 => (if l0.length + t127.length < 140737488355328 then ((some (l0 ++ t127 : List Int)).bind fun y130 => (if y130.length + a1.size < 140737488355328 then (some (y130 ++ bytesOf a1)) else (none))) else (none))) = some r := h
 clear h
 replace H := ue.mp H
 obtain ⟨t127, A30, H⟩ := H
 replace H : (if l0.length + t127.length < 140737488355328 then ((some (l0 ++ t127 : List Int)).bind fun y130 => (if y130.length + a1.size < 140737488355328 then (some (y130 ++ bytesOf a1)) else (none))) else (none)) = some r := H
 have A3 := z1o.mk A30
 clear A30
 by_cases c4 : l0.length + t127.length < 140737488355328
 ·rw [if_pos c4] at H
  have LMc4 := z1o.mk c4
  clear c4
  obtain ⟨y130, hy130⟩ : ∃ y_ : List Int, y_ = (l0 ++ t127) := ⟨_, rfl⟩
  replace H : (if y130.length + a1.size < 140737488355328 then (some (y130 ++ bytesOf a1)) else (none)) = some r := by first | (rw [hy130]; with_reducible exact H) | (have H2_ := (uk _ _).symm.trans H; rw [hy130]; with_reducible exact H2_) | (have H2_ := (uk _ _).symm.trans H; with_reducible exact H2_) | with_reducible exact H | (rw [hy130]; exact H) | exact H
  have Ny130 := z1o.mk hy130
  clear hy130
  by_cases c5 : y130.length + a1.size < 140737488355328
  ·rw [if_pos c5] at H
   have LMc5 := z1o.mk c5
   clear c5
   obtain ⟨y133, hy133⟩ : ∃ y_ : List Int, y_ = (y130 ++ bytesOf a1) := ⟨_, rfl⟩
   replace H : (some y133) = some r := by first | (rw [hy133]; with_reducible exact H) | (have H2_ := (uk _ _).symm.trans H; rw [hy133]; with_reducible exact H2_) | (have H2_ := (uk _ _).symm.trans H; with_reducible exact H2_) | with_reducible exact H | (rw [hy133]; exact H) | exact H
   have Ny133 := z1o.mk hy133
   clear hy133
   obtain rfl := Option.some.inj H
   go_enter Try.func90, Try.ntmps90
   go_wp2_with (first | ((with_reducible refine zp (f := 91) rfl ?_); refine goesL_ (some 8) rfl rfl Try.func91 (by kernel_rfl) rfl #[.int .i64 (a1.size : Int)] rfl (by (try simp only [uh, ui, uj]); first | done | rfl | (simp only [uf, ug]; rfl)) ?_; (with_reducible refine (z16.calls k (a1.size : Int) t127 _ A3.out).mono ?_); rintro e w6 ⟨v128, rfl, ho0, hb⟩; refine ⟨_, rfl, ?_⟩; have n0_ := z1o.mk (Kd.R_elder' y1a (Kd.R_base ho0) hb); have n1_ := z1o.mk (Kd.R_lower (Kd.R_new' (Kd.R_newM (M := fun k_ => (P0_ k_ ∨ w.heap.size ≤ k_)) ho0 (by first | exact HK.out.1 | exact (show Kept w _ (fun k_ => P0_ k_) from y7).1) (fun k_ h_ => .inr h_)) (Kd.R_lt y1a)) (zc y0)); have n2_ := z1o.mk (Kept.below (S := (fun k_ => P0_ k_)) y7 hb); have n3_ := z1o.mk (za y0 hb); clear HO0; clear HK; clear HB; have HO0 := n0_; have HO129 := n1_; have HK := n2_; have HB := n3_; clear n0_ n1_ n2_ n3_; (try clear hb); (try clear hb2); (try clear hk); (try clear hi); (try clear ho0); obtain ⟨Ao8, co8, eo8⟩ := Kd.R_slice HO129.out; subst eo8) | ((with_reducible refine zr (b := .append) (xs := #[.tmp 5, .tmp 8]) rfl ?_); at_builtin; refine Kd.R_append_rows (Kd.int .u8) (w0 := w0) w0.heap.size rfl (.tmp 5) (.tmp 8) 26 5 (.int .u8 0) 1 rfl Try.underlying26 info5 rfl (by decide) (by omega) u9000_ l0 t127 _ _ _ (fun k_ => (P0_ k_ ∨ w.heap.size ≤ k_) ∧ some k_ ≠ (.slice Ao8 t127.length co8 : Value).ownBlock) (fun _ => False) rfl rfl ?aO ?aR (fun _ _ h => h) (fun _ h => h.elim) ?aF ?aB ?aS ?aL ?_; (case aR => repeat (first | exact (Kd.R_reads' HO129.out).2.2 | (with_reducible refine Kd.C_alloc ?_ _) | (with_reducible refine Kd.C_drewN ?_ _) | (with_reducible refine Kd.C_drew ?_))); (case aB => exact y0); (case aF => exact (fun k_ hk => ⟨(.inr (Nat.le_trans (by first | exact HK.out.1 | exact (show Kept w _ (fun k_ => P0_ k_) from y7).1) hk)), Kd.fresh' (Kd.R_lt y2j) k_ hk⟩)); (case aO => exact y1a); (case aS => exact (zc y0)); (case aL => have := LMc4.out; omega); intro v131 w7 ho hb hg hat; rw [← Ny130.out] at ho; have n0_ := z1o.mk (Kd.R_after (ok := (fun k_ => (P0_ k_ ∨ w.heap.size ≤ k_))) (by (with_reducible repeat (first | apply Kd.R_alloc | apply Kd.R_drewN | apply Kd.R_drew)); exact Kd.R_mono HO129.out (fun _ hk => ⟨hk.1.1, hk.2⟩)) hg hat); have n1_ := z1o.mk (hb); have n2_ := z1o.mk (Kept.of_grown (S := (fun k_ => P0_ k_)) hg y7 (fun k_ e_ => (HO0.out.1 k_ e_).1)); have n3_ := z1o.mk (ho); clear HO129; clear HB; clear HK; clear HO0; have HO129 := n0_; have HB := n1_; have HK := n2_; have HO132 := n3_; clear n0_ n1_ n2_ n3_; clear ho hb hg hat) | ((with_reducible refine zr (b := .append) (xs := #[.tmp 9, .tmp 10]) rfl ?_); at_builtin; refine Kd.R_append_str (w0 := w0) w0.heap.size rfl (.tmp 9) (.tmp 10) 26 9 5 rfl Try.underlying26 Try.underlying9 info5 v131 y130 a1 (fun k_ => (P0_ k_ ∨ w.heap.size ≤ k_) ∧ some k_ ≠ (.slice Ao8 t127.length co8 : Value).ownBlock) rfl rfl ?aF ?aO ?aB ?aS ?aL ?_; (case aB => exact y0); (case aF => exact (fun k_ hk => ⟨(.inr (Nat.le_trans (by first | exact HK.out.1 | exact (show Kept w _ (fun k_ => P0_ k_) from y7).1) hk)), Kd.fresh' (Kd.R_lt y2j) k_ hk⟩)); (case aO => exact (by (with_reducible repeat (first | apply Kd.R_alloc | apply Kd.R_drewN | apply Kd.R_drew)); exact HO132.out)); (case aS => exact (zc y0)); (case aL => have := LMc5.out; omega); intro v134 w9 ho hb hg hat; rw [← Ny133.out] at ho; have n0_ := z1o.mk (Kd.R_after (ok := (fun k_ => (P0_ k_ ∨ w.heap.size ≤ k_))) y2j hg hat); have n1_ := z1o.mk (hb); have n2_ := z1o.mk (Kept.of_grown (S := (fun k_ => P0_ k_)) hg y7 (fun k_ e_ => (HO132.out.1 k_ e_).1)); have n3_ := z1o.mk (ho); clear HO129; clear HB; clear HK; clear HO132; have HO129 := n0_; have HB := n1_; have HK := n2_; have HO135 := n3_; clear n0_ n1_ n2_ n3_; clear ho hb hg hat))
   go_ret
   exact ⟨_, by first | rfl | (simp [zm, zl] <;> rfl) | (simp [*, zm, zl] <;> rfl), by (with_reducible repeat (first | apply Kd.R_alloc | apply Kd.R_drewN | apply Kd.R_drew)); exact Kd.R_mono HO135.out (fun _ hk => hk.1), y0, y7⟩
  ·rw [if_neg c5] at H
   exact absurd H (by simp)
 ·rw [if_neg c4] at H
  exact absurd H (by simp)
def spec_l06PutNumber.f (k : Nat) (l0 : List Int) (a1 : Int) : Option (List Int) := if a1 < 0 then ((z16.f k (wrap64 ((wrap64 ((-2) * a1)) - 1))).bind fun t136 => (if l0.length + t136.length < 140737488355328 then (some (l0 ++ t136)) else (none))) else ((z16.f k (wrap64 (2 * a1))).bind fun t142 => (if l0.length + t142.length < 140737488355328 then (some (l0 ++ t142)) else (none)))
set_option maxHeartbeats 8000000 in
set_option maxRecDepth 100000 in
theorem spec_l06PutNumber.calls (k : Nat) (P0_ : Nat → Prop) (u9000_ : Value) (l0 : List Int) (a1 : Int) (r : List Int) (w0 w : World) (hB : Below w0.heap.size w0 w) (ho0 : Kd.R (Kd.int .u8) 5 w w0.heap.size P0_ u9000_ l0) (h : spec_l06PutNumber.f k l0 a1 = some r) :
  Calls Try.prog 92 #[u9000_, .int .i64 a1] w fun e w' => ∃ v0_ : Value, e = .returned (v0_) ∧ Kd.R (Kd.int .u8) 5 w' w0.heap.size (fun k_ => (P0_ k_ ∨ w.heap.size ≤ k_)) v0_ r ∧ Below w0.heap.size w0 w' ∧ Kept w w' (fun k_ => P0_ k_) := by
 have HO0 := z1o.mk (show Kd.R (Kd.int .u8) 5 w w0.heap.size (fun k_ => (P0_ k_ ∨ w.heap.size ≤ k_)) u9000_ l0 from Kd.R_mono ho0 (fun k_ hk => (.inl hk)))
 have HK := z1o.mk (Kept.refl w (fun k_ => P0_ k_))
 have HW0 := z1o.mk hB.size
 have HB := z1o.mk hB
 clear hB
 have H : (if a1 < 0 then ((z16.f k (wrap64 ((wrap64 ((-2) * a1)) - 1))).bind fun t136 => (if l0.length + t136.length < 140737488355328 then (some (l0 ++ t136)) else (none))) else ((z16.f k (wrap64 (2 * a1))).bind fun t142 => (if l0.length + t142.length < 140737488355328 then (some (l0 ++ t142)) else (none)))) = some r := h
 clear h
 by_cases c3 : a1 < 0
 ·rw [if_pos c3] at H
  have c3b0 : decide (a1 < 0) = true := decide_eq_true c3
  clear c3
  replace H := ue.mp H
  obtain ⟨t136, A40, H⟩ := H
  replace H : (if l0.length + t136.length < 140737488355328 then (some (l0 ++ t136)) else (none)) = some r := H
  have A4 := z1o.mk A40
  clear A40
  by_cases c5 : l0.length + t136.length < 140737488355328
  ·rw [if_pos c5] at H
   have LMc5 := z1o.mk c5
   clear c5
   obtain ⟨y139, hy139⟩ : ∃ y_ : List Int, y_ = (l0 ++ t136) := ⟨_, rfl⟩
   replace H : (some y139) = some r := by first | (rw [hy139]; with_reducible exact H) | (have H2_ := (uk _ _).symm.trans H; rw [hy139]; with_reducible exact H2_) | (have H2_ := (uk _ _).symm.trans H; with_reducible exact H2_) | with_reducible exact H | (rw [hy139]; exact H) | exact H
   have Ny139 := z1o.mk hy139
   clear hy139
   obtain rfl := Option.some.inj H
   go_enter Try.func92, Try.ntmps92
   go_wp2_with (first | ((with_reducible refine zp (f := 91) rfl ?_); refine goesL_ (some 11) rfl rfl Try.func91 (by kernel_rfl) rfl #[.int .i64 (wrap64 ((wrap64 ((-2) * a1)) - 1))] rfl (by (try simp only [uh, ui, uj]); first | done | rfl | (simp only [uf, ug]; rfl)) ?_; (with_reducible refine (z16.calls k (wrap64 ((wrap64 ((-2) * a1)) - 1)) t136 _ A4.out).mono ?_); rintro e w6 ⟨v137, rfl, ho0, hb⟩; refine ⟨_, rfl, ?_⟩; have n0_ := z1o.mk (Kd.R_elder' y1a (Kd.R_base ho0) hb); have n1_ := z1o.mk (Kd.R_lower (Kd.R_new' (Kd.R_newM (M := fun k_ => (P0_ k_ ∨ w.heap.size ≤ k_)) ho0 (by first | exact HK.out.1 | exact (show Kept w _ (fun k_ => P0_ k_) from y7).1) (fun k_ h_ => .inr h_)) (Kd.R_lt y1a)) (zc y0)); have n2_ := z1o.mk (Kept.below (S := (fun k_ => P0_ k_)) y7 hb); have n3_ := z1o.mk (za y0 hb); clear HO0; clear HK; clear HB; have HO0 := n0_; have HO138 := n1_; have HK := n2_; have HB := n3_; clear n0_ n1_ n2_ n3_; (try clear hb); (try clear hb2); (try clear hk); (try clear hi); (try clear ho0); obtain ⟨Ao8, co8, eo8⟩ := Kd.R_slice HO138.out; subst eo8) | ((with_reducible refine zr (b := .append) (xs := #[.tmp 7, .tmp 11]) rfl ?_); at_builtin; refine Kd.R_append_rows (Kd.int .u8) (w0 := w0) w0.heap.size rfl (.tmp 7) (.tmp 11) 26 5 (.int .u8 0) 1 rfl Try.underlying26 info5 rfl (by decide) (by omega) u9000_ l0 t136 _ _ _ (fun k_ => (P0_ k_ ∨ w.heap.size ≤ k_) ∧ some k_ ≠ (.slice Ao8 t136.length co8 : Value).ownBlock) (fun _ => False) rfl rfl ?aO ?aR (fun _ _ h => h) (fun _ h => h.elim) ?aF ?aB ?aS ?aL ?_; (case aR => repeat (first | exact (Kd.R_reads' HO138.out).2.2 | (with_reducible refine Kd.C_alloc ?_ _) | (with_reducible refine Kd.C_drewN ?_ _) | (with_reducible refine Kd.C_drew ?_))); (case aB => exact y0); (case aF => exact (fun k_ hk => ⟨(.inr (Nat.le_trans (by first | exact HK.out.1 | exact (show Kept w _ (fun k_ => P0_ k_) from y7).1) hk)), Kd.fresh' (Kd.R_lt (by (with_reducible repeat (first | apply Kd.R_alloc | apply Kd.R_drewN | apply Kd.R_drew)); exact HO138.out)) k_ hk⟩)); (case aO => exact y1a); (case aS => exact (zc y0)); (case aL => have := LMc5.out; omega); intro v140 w7 ho hb hg hat; rw [← Ny139.out] at ho; have n0_ := z1o.mk (Kd.R_after (ok := (fun k_ => (P0_ k_ ∨ w.heap.size ≤ k_))) (by (with_reducible repeat (first | apply Kd.R_alloc | apply Kd.R_drewN | apply Kd.R_drew)); exact Kd.R_mono HO138.out (fun _ hk => ⟨hk.1.1, hk.2⟩)) hg hat); have n1_ := z1o.mk (hb); have n2_ := z1o.mk (Kept.of_grown (S := (fun k_ => P0_ k_)) hg y7 (fun k_ e_ => (HO0.out.1 k_ e_).1)); have n3_ := z1o.mk (ho); clear HO138; clear HB; clear HK; clear HO0; have HO138 := n0_; have HB := n1_; have HK := n2_; have HO141 := n3_; clear n0_ n1_ n2_ n3_; clear ho hb hg hat))
   go_ret
   exact ⟨_, by first | rfl | (simp [zm, zl] <;> rfl) | (simp [*, zm, zl] <;> rfl), by (with_reducible repeat (first | apply Kd.R_alloc | apply Kd.R_drewN | apply Kd.R_drew)); exact Kd.R_mono HO141.out (fun _ hk => hk.1), y0, y7⟩
  ·rw [if_neg c5] at H
   exact absurd H (by simp)
 ·rw [if_neg c3] at H
  have c3b0 : decide (a1 < 0) = false := decide_eq_false c3
  clear c3
  replace H := ue.mp H
  obtain ⟨t142, A90, H⟩ := H
  replace H : (if l0.length + t142.length < 140737488355328 then (some (l0 ++ t142)) else (none)) = some r := H
  have A9 := z1o.mk A90
  clear A90
  by_cases c10 : l0.length + t142.length < 140737488355328
  ·rw [if_pos c10] at H
   have LMc10 := z1o.mk c10
   clear c10
   obtain ⟨y145, hy145⟩ : ∃ y_ : List Int, y_ = (l0 ++ t142) := ⟨_, rfl⟩
   replace H : (some y145) = some r := by first | (rw [hy145]; with_reducible exact H) | (have H2_ := (uk _ _).symm.trans H; rw [hy145]; with_reducible exact H2_) | (have H2_ := (uk _ _).symm.trans H; with_reducible exact H2_) | with_reducible exact H | (rw [hy145]; exact H) | exact H
   have Ny145 := z1o.mk hy145
   clear hy145
   obtain rfl := Option.some.inj H
   go_enter Try.func92, Try.ntmps92
   go_wp2_with (first | ((with_reducible refine zp (f := 91) rfl ?_); refine goesL_ (some 16) rfl rfl Try.func91 (by kernel_rfl) rfl #[.int .i64 (wrap64 (2 * a1))] rfl (by (try simp only [uh, ui, uj]); first | done | rfl | (simp only [uf, ug]; rfl)) ?_; (with_reducible refine (z16.calls k (wrap64 (2 * a1)) t142 _ A9.out).mono ?_); rintro e w11 ⟨v143, rfl, ho0, hb⟩; refine ⟨_, rfl, ?_⟩; have n0_ := z1o.mk (Kd.R_elder' y1a (Kd.R_base ho0) hb); have n1_ := z1o.mk (Kd.R_lower (Kd.R_new' (Kd.R_newM (M := fun k_ => (P0_ k_ ∨ w.heap.size ≤ k_)) ho0 (by first | exact HK.out.1 | exact (show Kept w _ (fun k_ => P0_ k_) from y7).1) (fun k_ h_ => .inr h_)) (Kd.R_lt y1a)) (zc y0)); have n2_ := z1o.mk (Kept.below (S := (fun k_ => P0_ k_)) y7 hb); have n3_ := z1o.mk (za y0 hb); clear HO0; clear HK; clear HB; have HO0 := n0_; have HO144 := n1_; have HK := n2_; have HB := n3_; clear n0_ n1_ n2_ n3_; (try clear hb); (try clear hb2); (try clear hk); (try clear hi); (try clear ho0); obtain ⟨Ao13, co13, eo13⟩ := Kd.R_slice HO144.out; subst eo13) | ((with_reducible refine zr (b := .append) (xs := #[.tmp 13, .tmp 16]) rfl ?_); at_builtin; refine Kd.R_append_rows (Kd.int .u8) (w0 := w0) w0.heap.size rfl (.tmp 13) (.tmp 16) 26 5 (.int .u8 0) 1 rfl Try.underlying26 info5 rfl (by decide) (by omega) u9000_ l0 t142 _ _ _ (fun k_ => (P0_ k_ ∨ w.heap.size ≤ k_) ∧ some k_ ≠ (.slice Ao13 t142.length co13 : Value).ownBlock) (fun _ => False) rfl rfl ?aO ?aR (fun _ _ h => h) (fun _ h => h.elim) ?aF ?aB ?aS ?aL ?_; (case aR => repeat (first | exact (Kd.R_reads' HO144.out).2.2 | (with_reducible refine Kd.C_alloc ?_ _) | (with_reducible refine Kd.C_drewN ?_ _) | (with_reducible refine Kd.C_drew ?_))); (case aB => exact y0); (case aF => exact (fun k_ hk => ⟨(.inr (Nat.le_trans (by first | exact HK.out.1 | exact (show Kept w _ (fun k_ => P0_ k_) from y7).1) hk)), Kd.fresh' (Kd.R_lt (by (with_reducible repeat (first | apply Kd.R_alloc | apply Kd.R_drewN | apply Kd.R_drew)); exact HO144.out)) k_ hk⟩)); (case aO => exact y1a); (case aS => exact (zc y0)); (case aL => have := LMc10.out; omega); intro v146 w12 ho hb hg hat; rw [← Ny145.out] at ho; have n0_ := z1o.mk (Kd.R_after (ok := (fun k_ => (P0_ k_ ∨ w.heap.size ≤ k_))) (by (with_reducible repeat (first | apply Kd.R_alloc | apply Kd.R_drewN | apply Kd.R_drew)); exact Kd.R_mono HO144.out (fun _ hk => ⟨hk.1.1, hk.2⟩)) hg hat); have n1_ := z1o.mk (hb); have n2_ := z1o.mk (Kept.of_grown (S := (fun k_ => P0_ k_)) hg y7 (fun k_ e_ => (HO0.out.1 k_ e_).1)); have n3_ := z1o.mk (ho); clear HO144; clear HB; clear HK; clear HO0; have HO144 := n0_; have HB := n1_; have HK := n2_; have HO147 := n3_; clear n0_ n1_ n2_ n3_; clear ho hb hg hat))
   go_ret
   exact ⟨_, by first | rfl | (simp [zm, zl] <;> rfl) | (simp [*, zm, zl] <;> rfl), by (with_reducible repeat (first | apply Kd.R_alloc | apply Kd.R_drewN | apply Kd.R_drew)); exact Kd.R_mono HO147.out (fun _ hk => hk.1), y0, y7⟩
  ·rw [if_neg c10] at H
   exact absurd H (by simp)
mutual
def z11.l0 : Nat → List Int → Int → ByteArray → List (S84) → Option (List Int)
 | 0, _, _, _, _ => none
 | k + 1, x3, x4, x149000, x149001 => if x4 < (x149001.length : Int) then (if 0 ≤ x4 then ((spec_l06PutText.f k x3 ((rd_T84 x149001 x4).f0)).bind fun t163 => ((z16.f k (((rd_T84 x149001 x4).f1).length : Int)).bind fun t166 => (if t163.length + t166.length < 140737488355328 then (z11.l1 k (t163 ++ t166) x4 0 x149000 x149001 ((rd_T84 x149001 x4).f0) ((rd_T84 x149001 x4).f1) ((rd_T84 x149001 x4).f2)) else (none)))) else (none)) else (some x3)
def z11.l1 : Nat → List Int → Int → Int → ByteArray → List (S84) → ByteArray → List ByteArray → List Int → Option (List Int)
 | 0, _, _, _, _, _, _, _, _ => none
 | k + 1, x3, x4, x6, x149000, x149001, x163000, x163001, x163002 => if x6 < (x163001.length : Int) then (if 0 ≤ x6 then ((spec_l06PutText.f k x3 (rdOf ByteArray.empty x163001 x6)).bind fun t173 => (z11.l1 k t173 x4 (wrap64 (x6 + 1)) x149000 x149001 x163000 x163001 x163002)) else (none)) else ((z16.f k (x163002.length : Int)).bind fun t176 => (if x3.length + t176.length < 140737488355328 then (z11.l2 k (x3 ++ t176) x4 0 x149000 x149001 x163000 x163001 x163002) else (none)))
def z11.l2 : Nat → List Int → Int → Int → ByteArray → List (S84) → ByteArray → List ByteArray → List Int → Option (List Int)
 | 0, _, _, _, _, _, _, _, _ => none
 | k + 1, x3, x4, x7, x149000, x149001, x163000, x163001, x163002 => if x7 < (x163002.length : Int) then (if 0 ≤ x7 then ((spec_l06PutNumber.f k x3 (rd x163002 x7)).bind fun t183 => (z11.l2 k t183 x4 (wrap64 (x7 + 1)) x149000 x149001 x163000 x163001 x163002)) else (none)) else (z11.l0 k x3 (wrap64 (x4 + 1)) x149000 x149001)
end
def z11.f (k : Nat) (a0_0 : ByteArray) (l0_1 : List (S84)) : Option (List Int) := (spec_l06PutText.f k (([] : List Int)) a0_0).bind fun t152 => ((z16.f k (l0_1.length : Int)).bind fun t155 => (if t152.length + t155.length < 140737488355328 then (z11.l0 k (t152 ++ t155) 0 a0_0 l0_1) else (none)))
set_option maxHeartbeats 8000000 in
set_option maxRecDepth 100000 in
theorem z11.calls (k : Nat) (a0_0 : ByteArray) (A0_1 : Option Addr) (c0_1 : Nat) (l0_1 : List (S84)) (r : List Int) (w : World) (hr0_1 : Kd.C k84 w A0_1 l0_1.length l0_1) (hc0_1 : l0_1.length ≤ c0_1) (h : z11.f k a0_0 l0_1 = some r) :
  Calls Try.prog 50 #[.agg #[.string a0_0, .slice A0_1 l0_1.length c0_1]] w fun e w' => ∃ v0_ : Value, e = .returned (v0_) ∧ Kd.R (Kd.int .u8) 5 w' w.heap.size (fun _ => True) v0_ r ∧ Below w.heap.size w w' := by
 have hu31 := Try.underlying31
 have hu84 := Try.underlying84
 have HR0_1 := z1o.mk hr0_1
 have HC0_1 := z1o.mk hc0_1
 clear hr0_1 hc0_1
 have HB := z1o.mk (Below.refl w.heap.size w)
 have H : ((spec_l06PutText.f k (([] : List Int)) a0_0).bind fun t152 => ((z16.f k (l0_1.length : Int)).bind fun t155 => (if t152.length + t155.length < 140737488355328 then (z11.l0 k (t152 ++ t155) 0 a0_0 l0_1) else (none)))) = some r := h
 clear h
 obtain ⟨y149, hy149⟩ : ∃ y_ : List Int, y_ = (([] : List Int)) := ⟨_, rfl⟩
 replace H : ((spec_l06PutText.f k y149 a0_0).bind fun t152 => ((z16.f k (l0_1.length : Int)).bind fun t155 => (if t152.length + t155.length < 140737488355328 then (z11.l0 k (t152 ++ t155) 0 a0_0 l0_1) else (none)))) = some r := by first | (rw [hy149]; with_reducible exact H) | (have H2_ := (uk _ _).symm.trans H; rw [hy149]; with_reducible exact H2_) | (have H2_ := (uk _ _).symm.trans H; with_reducible exact H2_) | with_reducible exact H | (rw [hy149]; exact H) | exact H
 have Ny149 := z1o.mk hy149
 clear hy149
 replace H := ue.mp H
 obtain ⟨t152, A20, H⟩ := H
 replace H : ((z16.f k (l0_1.length : Int)).bind fun t155 => (if t152.length + t155.length < 140737488355328 then (z11.l0 k (t152 ++ t155) 0 a0_0 l0_1) else (none))) = some r := H
 have A2 := z1o.mk A20
 clear A20
 replace H := ue.mp H
 obtain ⟨t155, A30, H⟩ := H
 replace H : (if t152.length + t155.length < 140737488355328 then (z11.l0 k (t152 ++ t155) 0 a0_0 l0_1) else (none)) = some r := H
 have A3 := z1o.mk A30
 clear A30
 by_cases c4 : t152.length + t155.length < 140737488355328
 ·rw [if_pos c4] at H
  have LMc4 := z1o.mk c4
  clear c4
  obtain ⟨y158, hy158⟩ : ∃ y_ : List Int, y_ = (t152 ++ t155) := ⟨_, rfl⟩
  replace H : (z11.l0 k y158 0 a0_0 l0_1) = some r := by first | (rw [hy158]; with_reducible exact H) | (have H2_ := (uk _ _).symm.trans H; rw [hy158]; with_reducible exact H2_) | (have H2_ := (uk _ _).symm.trans H; with_reducible exact H2_) | with_reducible exact H | (rw [hy158]; exact H) | exact H
  have Ny158 := z1o.mk hy158
  clear hy158
  have H' := z1o.mk H
  clear H
  go_enter Try.func50, Try.ntmps50
  go_wp2_with (first | ((with_reducible refine zq (N := 1) rfl ?_); refine zv ?hg (N := 1) ?hd (cs := #[.string a0_0, .slice A0_1 l0_1.length c0_1]) (t := 31) ?hr ?_; (case hd => rfl); (case hg => rfl); (case hr => first | (go_simp; done) | (go_simp; rfl)); intro gb148 hg w5 hbox hb; have n0_ := z1o.mk (za y0 hb); have n1_ := z1o.mk (hbox); have n2_ := z1o.mk ((by rw [hg]; exact (zc y0) : w.heap.size ≤ gb148)); have n3_ := z1o.mk ((by rw [hg]; exact (zc y0) : w.heap.size ≤ gb148)); clear HB; have HB := n0_; have BK148 := n1_; have GW148 := n2_; have GE148 := n3_; clear n0_ n1_ n2_ n3_; clear hb hbox hg) | ((with_reducible refine zq (N := 8) rfl ?_); refine Kd.R_lit (Kd.int .u8) _ 5 ?hg (N := 8) ?hd (xs := ([] : List Int)) (inner := []) (ok := fun _ => True) (okp := fun _ => True) ?hr ?hp (fun _ hk => hk) trivial (Below.refl _ _) (um _) (by simp) ?_; (case hd => rfl); (case hg => rfl); (case hr => first | (go_simp; done) | (go_simp; rfl)); (case hp => exact (Reps.none _ _)); intro v150 w6 ho7 hb hg_ hnew_; clear hg_ hnew_; (first | rw [← Ny149.out] at ho7 | (simp only [Int.reduceToNat] at ho7; rw [← Ny149.out] at ho7)); have n0_ := z1o.mk (Kd.R_lower ho7 (zc yy)); have n1_ := z1o.mk (zb (g := gb148) (o := .cells #[.string a0_0, .slice A0_1 l0_1.length c0_1] 31 (0, 0)) ym hb); have n2_ := z1o.mk (za yy hb); clear BK148; clear HB; have HO151 := n0_; have BK148 := n1_; have HB := n2_; clear n0_ n1_ n2_; clear hb ho7; obtain ⟨hcz8_0, hcz8_1⟩ := cbk2 BK148.out; obtain ⟨hfz8_0, hfz8_1⟩ := cbf2 BK148.out; obtain ⟨Ao9, co9, eo9⟩ := Kd.R_slice HO151.out; subst eo9) | ((with_reducible refine zp (f := 90) rfl ?_); refine goesL_ (some 11) rfl rfl Try.func90 (by kernel_rfl) rfl #[.slice Ao9 y149.length co9, .string a0_0] rfl (by (try simp only [uh, ui, uj]); first | done | rfl | (simp only [uf, ug]; rfl)) ?_; (with_reducible refine (spec_l06PutText.calls k (fun k_ => some k_ = (.slice Ao9 y149.length co9 : Value).ownBlock) (.slice Ao9 y149.length co9) y149 a0_0 t152 w _ ?side1 ?side2 A2.out).mono ?_); (case side1 => exact yy); (case side2 => exact Kd.R_tight rfl HO151.out); rintro e w10 ⟨v153, rfl, ho0, hb, hkp⟩; refine ⟨_, rfl, ?_⟩; have n0_ := z1o.mk (blk_kept ym hkp (fun hs_ => (fun e_ => (Kd.R_ne HO151.out BK148.out (by decide)) e_) hs_)); have n1_ := z1o.mk (Kd.R_mono (ok' := fun k_ => True) ho0 (fun k_ hk_ => trivial)); have n2_ := z1o.mk (hb); clear BK148; clear HB; clear HO151; have BK148 := n0_; have HO154 := n1_; have HB := n2_; clear n0_ n1_ n2_; (try clear hb); (try clear hkp); (try clear ho0); obtain ⟨hcz11_0, hcz11_1⟩ := cbk2 BK148.out; obtain ⟨hfz11_0, hfz11_1⟩ := cbf2 BK148.out) | ((with_reducible refine zp (f := 91) rfl ?_); refine goesL_ (some 16) rfl rfl Try.func91 (by kernel_rfl) rfl #[.int .i64 (l0_1.length : Int)] rfl (by (try simp only [uh, ui, uj]); first | done | rfl | (simp only [uf, ug]; rfl)) ?_; (with_reducible refine (z16.calls k (l0_1.length : Int) t155 _ A3.out).mono ?_); rintro e w12 ⟨v156, rfl, ho0, hb⟩; refine ⟨_, rfl, ?_⟩; have n0_ := z1o.mk (Kd.R_elder' (by (with_reducible repeat (first | apply Kd.R_alloc | apply Kd.R_drewN | apply Kd.R_drew)); exact HO154.out) (Kd.R_base ho0) hb); have n1_ := z1o.mk (Kd.R_lower (Kd.R_new' ho0 (Kd.R_lt (by (with_reducible repeat (first | apply Kd.R_alloc | apply Kd.R_drewN | apply Kd.R_drew)); exact HO154.out))) (zc yy)); have n2_ := z1o.mk (zb (g := gb148) (o := .cells #[.string a0_0, .slice A0_1 l0_1.length c0_1] 31 (0, 0)) ym hb); have n3_ := z1o.mk (za yy hb); clear HO154; clear BK148; clear HB; have HO154 := n0_; have HO157 := n1_; have BK148 := n2_; have HB := n3_; clear n0_ n1_ n2_ n3_; (try clear hb); (try clear hb2); (try clear hk); (try clear hi); (try clear ho0); obtain ⟨Ao14, co14, eo14⟩ := Kd.R_slice HO157.out; subst eo14) | ((with_reducible refine zr (b := .append) (xs := #[.tmp 12, .tmp 16]) rfl ?_); at_builtin; refine Kd.R_append_rows (Kd.int .u8) (w0 := w) w.heap.size rfl (.tmp 12) (.tmp 16) 26 5 (.int .u8 0) 1 rfl Try.underlying26 info5 rfl (by decide) (by omega) v153 t152 t155 _ _ _ (fun k_ => some k_ ≠ (.slice Ao14 t155.length co14 : Value).ownBlock) (fun _ => False) rfl rfl ?aO ?aR (fun _ _ h => h) (fun _ h => h.elim) ?aF ?aB ?aS ?aL ?_; (case aR => repeat (first | exact (Kd.R_reads' HO157.out).2.2 | (with_reducible refine Kd.C_alloc ?_ _) | (with_reducible refine Kd.C_drewN ?_ _) | (with_reducible refine Kd.C_drew ?_))); (case aB => exact yy); (case aF => exact (fun k_ hk => Kd.fresh' (Kd.R_lt (by (with_reducible repeat (first | apply Kd.R_alloc | apply Kd.R_drewN | apply Kd.R_drew)); exact HO157.out)) k_ hk)); (case aO => exact (by (with_reducible repeat (first | apply Kd.R_alloc | apply Kd.R_drewN | apply Kd.R_drew)); exact Kd.R_mono HO154.out (fun _ hk => hk.2))); (case aS => exact (zc yy)); (case aL => have := LMc4.out; omega); intro v159 w13 ho hb hg hat; rw [← Ny158.out] at ho; have n0_ := z1o.mk (zf (g := gb148) (o := .cells #[.string a0_0, .slice A0_1 l0_1.length c0_1] 31 (0, 0)) ym hg (Kd.R_ne HO154.out BK148.out (by decide))); have n1_ := z1o.mk (Kd.R_after (ok := (fun _ => True)) (by (with_reducible repeat (first | apply Kd.R_alloc | apply Kd.R_drewN | apply Kd.R_drew)); exact HO157.out) hg hat); have n2_ := z1o.mk (hb); have n3_ := z1o.mk (ho); clear BK148; clear HO157; clear HB; clear HO154; have BK148 := n0_; have HO157 := n1_; have HB := n2_; have HO160 := n3_; clear n0_ n1_ n2_ n3_; clear ho hb hg hat))
  go_loopg [3, 4] k (fun kq v3 v4 w' => ∃ (x3_1 : List Int) (x4_1 : Int), v4 = .int .i64 x4_1 ∧ z1o (z11.l0 kq x3_1 x4_1 a0_0 l0_1 = some r) ∧ z1o (kq ≤ k) ∧ z1o (Kd.R (Kd.int .u8) 5 w' w.heap.size (fun _ => True) v3 x3_1) ∧ z1o (w'.heap[gb148]? = some (.cells #[.string a0_0, (.slice A0_1 l0_1.length c0_1)] 31 (0, 0))) ∧ z1o (Below w.heap.size w w'))
  case atStart => exact ⟨(y158), (0), (by first | rfl | (simp; done) | (simp [*]; done)), H', ⟨um _⟩, ⟨by (with_reducible repeat (first | apply Kd.R_alloc | apply Kd.R_drewN | apply Kd.R_drew)); exact Kd.R_mono HO160.out (fun _ hk => trivial)⟩, ⟨ym⟩, ⟨yy⟩⟩
  case round =>
   clear H'
   try clear p2
   try clear c4
   try clear c5
   try clear c9
   try clear hcz11_0
   try clear hcz11_1
   try clear hcz8_0
   try clear hcz8_1
   try clear hfz11_0
   try clear hfz11_1
   try clear hfz8_0
   try clear hfz8_1
   obtain ⟨x3_1, x4_1, rfl, HA, HK1, HO_3, BK148, HB⟩ := hrel
   cases gk with
   | zero => exact absurd HA.out (by simp [z11.l0])
   | succ k1 =>
    have H := HA.out
    clear HA
    simp only [z11.l0] at H
    by_cases c15 : x4_1 < (l0_1.length : Int)
    ·rw [if_pos c15] at H
     have c15b0 : decide (x4_1 < (l0_1.length : Int)) = true := decide_eq_true c15
     clear c15
     by_cases c16 : 0 ≤ x4_1
     ·rw [if_pos c16] at H
      have c16b0 : decide (0 ≤ x4_1) = true := decide_eq_true c16
      clear c16
      replace H := ue.mp H
      obtain ⟨t163, A170, H⟩ := H
      replace H : ((z16.f k1 (((rd_T84 l0_1 x4_1).f1).length : Int)).bind fun t166 => (if t163.length + t166.length < 140737488355328 then (z11.l1 k1 (t163 ++ t166) x4_1 0 a0_0 l0_1 ((rd_T84 l0_1 x4_1).f0) ((rd_T84 l0_1 x4_1).f1) ((rd_T84 l0_1 x4_1).f2)) else (none))) = some r := H
      have A17 := z1o.mk A170
      clear A170
      replace H := ue.mp H
      obtain ⟨t166, A180, H⟩ := H
      replace H : (if t163.length + t166.length < 140737488355328 then (z11.l1 k1 (t163 ++ t166) x4_1 0 a0_0 l0_1 ((rd_T84 l0_1 x4_1).f0) ((rd_T84 l0_1 x4_1).f1) ((rd_T84 l0_1 x4_1).f2)) else (none)) = some r := H
      have A18 := z1o.mk A180
      clear A180
      by_cases c19 : t163.length + t166.length < 140737488355328
      ·rw [if_pos c19] at H
       have LMc19 := z1o.mk c19
       clear c19
       obtain ⟨y169, hy169⟩ : ∃ y_ : List Int, y_ = (t163 ++ t166) := ⟨_, rfl⟩
       replace H : (z11.l1 k1 y169 x4_1 0 a0_0 l0_1 ((rd_T84 l0_1 x4_1).f0) ((rd_T84 l0_1 x4_1).f1) ((rd_T84 l0_1 x4_1).f2)) = some r := by first | (rw [hy169]; with_reducible exact H) | (have H2_ := (uk _ _).symm.trans H; rw [hy169]; with_reducible exact H2_) | (have H2_ := (uk _ _).symm.trans H; with_reducible exact H2_) | with_reducible exact H | (rw [hy169]; exact H) | exact H
       have Ny169 := z1o.mk hy169
       clear hy169
       have H' := z1o.mk H
       clear H
       obtain ⟨hcz20_0, hcz20_1⟩ := cbk2 BK148.out
       obtain ⟨hfz20_0, hfz20_1⟩ := cbf2 BK148.out
       have p161 : 0 ≤ (x4_1 : Int) := of_decide_eq_true (by first | (with_reducible assumption) | assumption)
       have q161 : x4_1 < (l0_1.length : Int) := of_decide_eq_true (by first | (with_reducible assumption) | assumption)
       obtain ⟨ad161, A161_1, c161_1, A161_2, c161_2, e161, hx161_0, hx161_1, hx161_2, hl161_1, hi161_1, hl161_2, hi161_2⟩ := at_T84 HR0_1.out x4_1 p161 q161
       have HW161_1 := z1o.mk hx161_1
       have HW161_2 := z1o.mk hx161_2
       cases e161
       replace hx161_0 := (HB.out.cell (ua w _ hx161_0)).trans hx161_0
       replace hx161_1 := (HB.out.cell (ua w _ hx161_1)).trans hx161_1
       replace hx161_2 := (HB.out.cell (ua w _ hx161_2)).trans hx161_2
       have HR161_1 := z1o.mk hi161_1
       have HC161_1 := z1o.mk hl161_1
       clear hi161_1 hl161_1
       have HR161_2 := z1o.mk hi161_2
       have HC161_2 := z1o.mk hl161_2
       clear hi161_2 hl161_2
       replace p161 := eq_true p161
       replace q161 := eq_true q161
       go_wp2_with (first | ((with_reducible refine zq (N := 5) rfl ?_); refine zv ?hg (N := 5) ?hd (cs := #[.string (⟨#[]⟩ : ByteArray), .slice none 0 0, .slice none 0 0]) (t := 84) ?hr ?_; (case hd => rfl); (case hg => rfl); (case hr => first | (go_simp; done) | (go_simp; rfl)); intro gb162 hg w21 hbox hb; have n0_ := z1o.mk (Kd.R_below y22 hb); have n1_ := z1o.mk (zb (g := gb148) (o := .cells #[.string a0_0, .slice (some ad161) l0_1.length c0_1] 31 (0, 0)) ym hb); have n2_ := z1o.mk (za yy hb); have n3_ := z1o.mk (hbox); have n4_ := z1o.mk ((by rw [hg]; exact (zc yy) : w.heap.size ≤ gb162)); have n5_ := z1o.mk ((by rw [hg]; exact (zc yy) : w.heap.size ≤ gb162)); have n6_ := z1o.mk ((by rw [hg]; exact Nat.ne_of_lt (zg (g := gb148) (o := .cells #[.string a0_0, .slice (some ad161) l0_1.length c0_1] 31 (0, 0)) ym) : gb148 ≠ gb162)); have n7_ := z1o.mk ((by rw [hg]; exact Nat.ne_of_gt (zg (g := gb148) (o := .cells #[.string a0_0, .slice (some ad161) l0_1.length c0_1] 31 (0, 0)) ym) : gb162 ≠ gb148)); clear HO_3; clear BK148; clear HB; have HO_3 := n0_; have BK148 := n1_; have HB := n2_; have BK162 := n3_; have GW162 := n4_; have GE162 := n5_; have NB148_162 := n6_; have NB162_148 := n7_; clear n0_ n1_ n2_ n3_ n4_ n5_ n6_ n7_; clear hb hbox hg; have hnb22 := NB162_148.out; have hnc22 := NB148_162.out; obtain ⟨hcz23_0, hcz23_1, hcz23_2⟩ := cbk3 BK162.out; obtain ⟨hfz23_0, hfz23_1, hfz23_2⟩ := cbf3 BK162.out) | ((with_reducible refine zt (t := 84) (p := 5) rfl ?_); refine zw (t := 84) (p := 5) (v := ?vo_w24) (w1 := (((w21.setCell ⟨gb162, 0, none⟩ (.string ((rd_T84 l0_1 x4_1).f0))).setCell ⟨gb162, 1, none⟩ (.slice A161_1 ((rd_T84 l0_1 x4_1).f1).length c161_1)).setCell ⟨gb162, 2, none⟩ (.slice A161_2 ((rd_T84 l0_1 x4_1).f2).length c161_2))) ?hg ?ho ?hn ?hr ?_; (case ho => rfl); (case hg => rfl); (case hn => rfl); (case hr => first | (go_simp; done) | (go_simp; rfl)); intro w24 hw; have n0_ : z1o (Kd.R (Kd.int .u8) 5 w24 w.heap.size (fun _ => True) u3 x3_1) := ⟨(by rw [hw]; exact (by (with_reducible repeat (first | apply Kd.R_alloc | apply Kd.R_drewN | apply Kd.R_drew)); exact Kd.R_mono (Kd.R_far (p := ⟨gb162, 2, none⟩) (Kd.R_far (p := ⟨gb162, 1, none⟩) (Kd.R_far (p := ⟨gb162, 0, none⟩) (Kd.R_types HO_3.out BK162.out (by decide)) (fun _ hk => hk.2) (.string ((rd_T84 l0_1 x4_1).f0))) (fun _ hk => hk.2) (.slice A161_1 ((rd_T84 l0_1 x4_1).f1).length c161_1)) (fun _ hk => hk.2) (.slice A161_2 ((rd_T84 l0_1 x4_1).f2).length c161_2)) (fun _ hk => trivial)))⟩; have n1_ : z1o (w24.heap[gb148]? = some (.cells #[.string a0_0, .slice (some ad161) l0_1.length c0_1] 31 (0, 0))) := ⟨(by rw [hw]; exact (by (with_reducible repeat (first | refine z8 ?_ _ | refine z9 ?_ | refine z7 ?_ _)); refine ze ?_ NB148_162.out _; (with_reducible repeat (first | refine z8 ?_ _ | refine z9 ?_ | refine z7 ?_ _)); refine ze ?_ NB148_162.out _; (with_reducible repeat (first | refine z8 ?_ _ | refine z9 ?_ | refine z7 ?_ _)); refine ze ?_ NB148_162.out _; (with_reducible repeat (first | refine z8 ?_ _ | refine z9 ?_ | refine z7 ?_ _)); exact BK148.out))⟩; have n2_ : z1o (w24.heap[gb162]? = some (.cells #[.string ((rd_T84 l0_1 x4_1).f0), .slice A161_1 ((rd_T84 l0_1 x4_1).f1).length c161_1, .slice A161_2 ((rd_T84 l0_1 x4_1).f2).length c161_2] 84 (0, 0))) := ⟨(by rw [hw]; exact (by (with_reducible repeat (first | refine z8 ?_ _ | refine z9 ?_ | refine z7 ?_ _)); refine zd (cs := #[.string ((rd_T84 l0_1 x4_1).f0), .slice A161_1 ((rd_T84 l0_1 x4_1).f1).length c161_1, .slice none 0 0]) ?_ 2 _ rfl; (with_reducible repeat (first | refine z8 ?_ _ | refine z9 ?_ | refine z7 ?_ _)); refine zd (cs := #[.string ((rd_T84 l0_1 x4_1).f0), .slice none 0 0, .slice none 0 0]) ?_ 1 _ rfl; (with_reducible repeat (first | refine z8 ?_ _ | refine z9 ?_ | refine z7 ?_ _)); refine zd (cs := #[.string (⟨#[]⟩ : ByteArray), .slice none 0 0, .slice none 0 0]) ?_ 0 _ rfl; (with_reducible repeat (first | refine z8 ?_ _ | refine z9 ?_ | refine z7 ?_ _)); exact BK162.out))⟩; have n3_ : z1o (Below w.heap.size w w24) := ⟨(by rw [hw]; exact yd)⟩; clear hw; clear HO_3; clear BK148; clear BK162; clear HB; have HO_3 := n0_; have BK148 := n1_; have BK162 := n2_; have HB := n3_; clear n0_ n1_ n2_ n3_; obtain ⟨hcz25_0, hcz25_1, hcz25_2⟩ := cbk3 BK162.out; obtain ⟨hfz25_0, hfz25_1, hfz25_2⟩ := cbf3 BK162.out; obtain ⟨Ao26, co26, eo26⟩ := Kd.R_slice HO_3.out; subst eo26) | ((with_reducible refine zp (f := 90) rfl ?_); refine goesL_ (some 33) rfl rfl Try.func90 (by kernel_rfl) rfl #[.slice Ao26 x3_1.length co26, .string ((rd_T84 l0_1 x4_1).f0)] rfl (by (try simp only [uh, ui, uj]); first | done | rfl | (simp only [uf, ug]; rfl)) ?_; (with_reducible refine (spec_l06PutText.calls k1 (fun k_ => some k_ = (.slice Ao26 x3_1.length co26 : Value).ownBlock) (.slice Ao26 x3_1.length co26) x3_1 ((rd_T84 l0_1 x4_1).f0) t163 w _ ?side1 ?side2 A17.out).mono ?_); (case side1 => exact yd); (case side2 => exact Kd.R_tight rfl HO_3.out); rintro e w27 ⟨v164, rfl, ho0, hb, hkp⟩; refine ⟨_, rfl, ?_⟩; have n0_ := z1o.mk (blk_kept ym hkp (fun hs_ => (fun e_ => (Kd.R_ne HO_3.out BK148.out (by decide)) e_) hs_)); have n1_ := z1o.mk (blk_kept y1f hkp (fun hs_ => (fun e_ => (Kd.R_ne HO_3.out BK162.out (by decide)) e_) hs_)); have n2_ := z1o.mk (Kd.R_mono (ok' := fun k_ => True) ho0 (fun k_ hk_ => trivial)); have n3_ := z1o.mk (hb); clear BK148; clear BK162; clear HB; clear HO_3; have BK148 := n0_; have BK162 := n1_; have HO165 := n2_; have HB := n3_; clear n0_ n1_ n2_ n3_; (try clear hb); (try clear hkp); (try clear ho0); obtain ⟨hcz28_0, hcz28_1, hcz28_2⟩ := cbk3 BK162.out; obtain ⟨hfz28_0, hfz28_1, hfz28_2⟩ := cbf3 BK162.out) | ((with_reducible refine zp (f := 91) rfl ?_); refine goesL_ (some 38) rfl rfl Try.func91 (by kernel_rfl) rfl #[.int .i64 (((rd_T84 l0_1 x4_1).f1).length : Int)] rfl (by (try simp only [uh, ui, uj]); first | done | rfl | (simp only [uf, ug]; rfl)) ?_; (with_reducible refine (z16.calls k1 (((rd_T84 l0_1 x4_1).f1).length : Int) t166 _ A18.out).mono ?_); rintro e w29 ⟨v167, rfl, ho0, hb⟩; refine ⟨_, rfl, ?_⟩; have n0_ := z1o.mk (Kd.R_elder' (by (with_reducible repeat (first | apply Kd.R_alloc | apply Kd.R_drewN | apply Kd.R_drew)); exact HO165.out) (Kd.R_base ho0) hb); have n1_ := z1o.mk (Kd.R_lower (Kd.R_new' ho0 (Kd.R_lt (by (with_reducible repeat (first | apply Kd.R_alloc | apply Kd.R_drewN | apply Kd.R_drew)); exact HO165.out))) (zc yd)); have n2_ := z1o.mk (zb (g := gb148) (o := .cells #[.string a0_0, .slice (some ad161) l0_1.length c0_1] 31 (0, 0)) ym hb); have n3_ := z1o.mk (zb (g := gb162) (o := .cells #[.string ((rd_T84 l0_1 x4_1).f0), .slice A161_1 ((rd_T84 l0_1 x4_1).f1).length c161_1, .slice A161_2 ((rd_T84 l0_1 x4_1).f2).length c161_2] 84 (0, 0)) y1f hb); have n4_ := z1o.mk (za yd hb); clear HO165; clear BK148; clear BK162; clear HB; have HO165 := n0_; have HO168 := n1_; have BK148 := n2_; have BK162 := n3_; have HB := n4_; clear n0_ n1_ n2_ n3_ n4_; (try clear hb); (try clear hb2); (try clear hk); (try clear hi); (try clear ho0); obtain ⟨Ao31, co31, eo31⟩ := Kd.R_slice HO168.out; subst eo31) | ((with_reducible refine zr (b := .append) (xs := #[.tmp 34, .tmp 38]) rfl ?_); at_builtin; refine Kd.R_append_rows (Kd.int .u8) (w0 := w) w.heap.size rfl (.tmp 34) (.tmp 38) 26 5 (.int .u8 0) 1 rfl Try.underlying26 info5 rfl (by decide) (by omega) v164 t163 t166 _ _ _ (fun k_ => some k_ ≠ (.slice Ao31 t166.length co31 : Value).ownBlock) (fun _ => False) rfl rfl ?aO ?aR (fun _ _ h => h) (fun _ h => h.elim) ?aF ?aB ?aS ?aL ?_; (case aR => repeat (first | exact (Kd.R_reads' HO168.out).2.2 | (with_reducible refine Kd.C_alloc ?_ _) | (with_reducible refine Kd.C_drewN ?_ _) | (with_reducible refine Kd.C_drew ?_))); (case aB => exact yd); (case aF => exact (fun k_ hk => Kd.fresh' (Kd.R_lt (by (with_reducible repeat (first | apply Kd.R_alloc | apply Kd.R_drewN | apply Kd.R_drew)); exact HO168.out)) k_ hk)); (case aO => exact (by (with_reducible repeat (first | apply Kd.R_alloc | apply Kd.R_drewN | apply Kd.R_drew)); exact Kd.R_mono HO165.out (fun _ hk => hk.2))); (case aS => exact (zc yd)); (case aL => have := LMc19.out; omega); intro v170 w30 ho hb hg hat; rw [← Ny169.out] at ho; have n0_ := z1o.mk (zf (g := gb148) (o := .cells #[.string a0_0, .slice (some ad161) l0_1.length c0_1] 31 (0, 0)) ym hg (Kd.R_ne HO165.out BK148.out (by decide))); have n1_ := z1o.mk (zf (g := gb162) (o := .cells #[.string ((rd_T84 l0_1 x4_1).f0), .slice A161_1 ((rd_T84 l0_1 x4_1).f1).length c161_1, .slice A161_2 ((rd_T84 l0_1 x4_1).f2).length c161_2] 84 (0, 0)) y1f hg (Kd.R_ne HO165.out BK162.out (by decide))); have n2_ := z1o.mk (Kd.R_after (ok := (fun _ => True)) (by (with_reducible repeat (first | apply Kd.R_alloc | apply Kd.R_drewN | apply Kd.R_drew)); exact HO168.out) hg hat); have n3_ := z1o.mk (hb); have n4_ := z1o.mk (ho); clear BK148; clear BK162; clear HO168; clear HB; clear HO165; have BK148 := n0_; have BK162 := n1_; have HO168 := n2_; have HB := n3_; have HO171 := n4_; clear n0_ n1_ n2_ n3_ n4_; clear ho hb hg hat))
       go_loopg [3, 6] k1 (fun kq v3 v6 w' => ∃ (x3_2 : List Int) (x6_2 : Int), v6 = .int .i64 x6_2 ∧ z1o (z11.l1 kq x3_2 x4_1 x6_2 a0_0 l0_1 ((rd_T84 l0_1 x4_1).f0) ((rd_T84 l0_1 x4_1).f1) ((rd_T84 l0_1 x4_1).f2) = some r) ∧ z1o (kq ≤ k1) ∧ z1o (Kd.R (Kd.int .u8) 5 w' w.heap.size (fun _ => True) v3 x3_2) ∧ z1o (w'.heap[gb148]? = some (.cells #[.string a0_0, (.slice (some ad161) l0_1.length c0_1)] 31 (0, 0))) ∧ z1o (w'.heap[gb162]? = some (.cells #[.string ((rd_T84 l0_1 x4_1).f0), (.slice A161_1 ((rd_T84 l0_1 x4_1).f1).length c161_1), (.slice A161_2 ((rd_T84 l0_1 x4_1).f2).length c161_2)] 84 (0, 0))) ∧ z1o (Below w.heap.size w w'))
       case atStart => exact ⟨(y169), (0), (by first | rfl | (simp; done) | (simp [*]; done)), H', ⟨um _⟩, ⟨by (with_reducible repeat (first | apply Kd.R_alloc | apply Kd.R_drewN | apply Kd.R_drew)); exact Kd.R_mono HO171.out (fun _ hk => trivial)⟩, ⟨ym⟩, ⟨y1f⟩, ⟨yd⟩⟩
       case round =>
        clear H'
        try clear c1
        try clear p1
        try clear q1
        try clear hx1
        try clear c2
        try clear p2
        try clear c4
        try clear c5
        try clear c9
        try clear c15
        try clear c15b0
        try clear c16
        try clear c16b0
        try clear p16
        try clear q16
        try clear hx16
        try clear c19
        try clear c22
        try clear hcz11_0
        try clear hcz11_1
        try clear hcz20_0
        try clear hcz20_1
        try clear hcz23_0
        try clear hcz23_1
        try clear hcz23_2
        try clear hcz25_0
        try clear hcz25_1
        try clear hcz25_2
        try clear hcz28_0
        try clear hcz28_1
        try clear hcz28_2
        try clear hcz8_0
        try clear hcz8_1
        try clear hfz11_0
        try clear hfz11_1
        try clear hfz20_0
        try clear hfz20_1
        try clear hfz23_0
        try clear hfz23_1
        try clear hfz23_2
        try clear hfz25_0
        try clear hfz25_1
        try clear hfz25_2
        try clear hfz28_0
        try clear hfz28_1
        try clear hfz28_2
        try clear hfz8_0
        try clear hfz8_1
        try clear hx161_0
        try clear hx161_1
        try clear hx161_2
        try clear p161
        try clear p2
        try clear q161
        obtain ⟨x3_2, x6_2, rfl, HA, HK2, HO_3, BK148, BK162, HB⟩ := hrel
        cases gk with
        | zero => exact absurd HA.out (by simp [z11.l1])
        | succ k2 =>
         have H := HA.out
         clear HA
         simp only [z11.l1] at H
         by_cases c32 : x6_2 < (((rd_T84 l0_1 x4_1).f1).length : Int)
         ·rw [if_pos c32] at H
          have c32b0 : decide (x6_2 < (((rd_T84 l0_1 x4_1).f1).length : Int)) = true := decide_eq_true c32
          clear c32
          by_cases c33 : 0 ≤ x6_2
          ·rw [if_pos c33] at H
           have c33b0 : decide (0 ≤ x6_2) = true := decide_eq_true c33
           clear c33
           replace H := ue.mp H
           obtain ⟨t173, A340, H⟩ := H
           replace H : (z11.l1 k2 t173 x4_1 (wrap64 (x6_2 + 1)) a0_0 l0_1 ((rd_T84 l0_1 x4_1).f0) ((rd_T84 l0_1 x4_1).f1) ((rd_T84 l0_1 x4_1).f2)) = some r := H
           have A34 := z1o.mk A340
           clear A340
           have H' := z1o.mk H
           clear H
           have hnb35 := NB162_148.out
           have hnc35 := NB148_162.out
           obtain ⟨hcz36_0, hcz36_1, hcz36_2⟩ := cbk3 BK162.out
           obtain ⟨hfz36_0, hfz36_1, hfz36_2⟩ := cbf3 BK162.out
           have p172 : 0 ≤ (x6_2 : Int) := of_decide_eq_true (by first | (with_reducible assumption) | assumption)
           have q172 : x6_2 < (((rd_T84 l0_1 x4_1).f1).length : Int) := of_decide_eq_true (by first | (with_reducible assumption) | assumption)
           obtain ⟨ad172, e172, hx172_0⟩ := Kd.at_string HR161_1.out x6_2 p172 q172
           cases e172
           replace hx172_0 := (HB.out.cell (ua w _ hx172_0)).trans hx172_0
           replace p172 := eq_true p172
           replace q172 := eq_true q172
           obtain ⟨Ao37, co37, eo37⟩ := Kd.R_slice HO_3.out
           subst eo37
           go_wp2_with (first | ((with_reducible refine zp (f := 90) rfl ?_); refine goesL_ (some 53) rfl rfl Try.func90 (by kernel_rfl) rfl #[.slice Ao37 x3_2.length co37, .string (rdOf ByteArray.empty ((rd_T84 l0_1 x4_1).f1) x6_2)] rfl (by (try simp only [uh, ui, uj]); first | done | rfl | (simp only [uf, ug]; rfl)) ?_; (with_reducible refine (spec_l06PutText.calls k2 (fun k_ => some k_ = (.slice Ao37 x3_2.length co37 : Value).ownBlock) (.slice Ao37 x3_2.length co37) x3_2 (rdOf ByteArray.empty ((rd_T84 l0_1 x4_1).f1) x6_2) t173 w _ ?side1 ?side2 A34.out).mono ?_); (case side1 => exact yd); (case side2 => exact Kd.R_tight rfl HO_3.out); rintro e w38 ⟨v174, rfl, ho0, hb, hkp⟩; refine ⟨_, rfl, ?_⟩; have n0_ := z1o.mk (blk_kept ym hkp (fun hs_ => (fun e_ => (Kd.R_ne HO_3.out BK148.out (by decide)) e_) hs_)); have n1_ := z1o.mk (blk_kept y1f hkp (fun hs_ => (fun e_ => (Kd.R_ne HO_3.out BK162.out (by decide)) e_) hs_)); have n2_ := z1o.mk (Kd.R_mono (ok' := fun k_ => True) ho0 (fun k_ hk_ => trivial)); have n3_ := z1o.mk (hb); clear BK148; clear BK162; clear HB; clear HO_3; have BK148 := n0_; have BK162 := n1_; have HO175 := n2_; have HB := n3_; clear n0_ n1_ n2_ n3_; (try clear hb); (try clear hkp); (try clear ho0)))
           go_roundg k2
           case measure => have := HK1.out; have := HK2.out; omega
           case rel => exact ⟨(t173), (wrap64 (x6_2 + 1)), (by first | rfl | (simp; done) | (simp [*]; done)), H', ⟨by have := HK1.out; have := HK2.out; omega⟩, ⟨by (with_reducible repeat (first | apply Kd.R_alloc | apply Kd.R_drewN | apply Kd.R_drew)); exact HO175.out⟩, ⟨ym⟩, ⟨y1f⟩, ⟨yd⟩⟩
          ·rw [if_neg c33] at H
           exact absurd H (by simp)
         ·rw [if_neg c32] at H
          have c32b0 : decide (x6_2 < (((rd_T84 l0_1 x4_1).f1).length : Int)) = false := decide_eq_false c32
          clear c32
          replace H := ue.mp H
          obtain ⟨t176, A390, H⟩ := H
          replace H : (if x3_2.length + t176.length < 140737488355328 then (z11.l2 k2 (x3_2 ++ t176) x4_1 0 a0_0 l0_1 ((rd_T84 l0_1 x4_1).f0) ((rd_T84 l0_1 x4_1).f1) ((rd_T84 l0_1 x4_1).f2)) else (none)) = some r := H
          have A39 := z1o.mk A390
          clear A390
          by_cases c40 : x3_2.length + t176.length < 140737488355328
          ·rw [if_pos c40] at H
           have LMc40 := z1o.mk c40
           clear c40
           obtain ⟨y179, hy179⟩ : ∃ y_ : List Int, y_ = (x3_2 ++ t176) := ⟨_, rfl⟩
           replace H : (z11.l2 k2 y179 x4_1 0 a0_0 l0_1 ((rd_T84 l0_1 x4_1).f0) ((rd_T84 l0_1 x4_1).f1) ((rd_T84 l0_1 x4_1).f2)) = some r := by first | (rw [hy179]; with_reducible exact H) | (have H2_ := (uk _ _).symm.trans H; rw [hy179]; with_reducible exact H2_) | (have H2_ := (uk _ _).symm.trans H; with_reducible exact H2_) | with_reducible exact H | (rw [hy179]; exact H) | exact H
           have Ny179 := z1o.mk hy179
           clear hy179
           have H' := z1o.mk H
           clear H
           have hnb41 := NB162_148.out
           have hnc41 := NB148_162.out
           obtain ⟨hcz42_0, hcz42_1, hcz42_2⟩ := cbk3 BK162.out
           obtain ⟨hfz42_0, hfz42_1, hfz42_2⟩ := cbf3 BK162.out
           go_wp2_with (first | ((with_reducible refine zp (f := 91) rfl ?_); refine goesL_ (some 58) rfl rfl Try.func91 (by kernel_rfl) rfl #[.int .i64 (((rd_T84 l0_1 x4_1).f2).length : Int)] rfl (by (try simp only [uh, ui, uj]); first | done | rfl | (simp only [uf, ug]; rfl)) ?_; (with_reducible refine (z16.calls k2 (((rd_T84 l0_1 x4_1).f2).length : Int) t176 _ A39.out).mono ?_); rintro e w43 ⟨v177, rfl, ho0, hb⟩; refine ⟨_, rfl, ?_⟩; have n0_ := z1o.mk (Kd.R_elder' y22 (Kd.R_base ho0) hb); have n1_ := z1o.mk (Kd.R_lower (Kd.R_new' ho0 (Kd.R_lt y22)) (zc yd)); have n2_ := z1o.mk (zb (g := gb148) (o := .cells #[.string a0_0, .slice (some ad161) l0_1.length c0_1] 31 (0, 0)) ym hb); have n3_ := z1o.mk (zb (g := gb162) (o := .cells #[.string ((rd_T84 l0_1 x4_1).f0), .slice A161_1 ((rd_T84 l0_1 x4_1).f1).length c161_1, .slice A161_2 ((rd_T84 l0_1 x4_1).f2).length c161_2] 84 (0, 0)) y1f hb); have n4_ := z1o.mk (za yd hb); clear HO_3; clear BK148; clear BK162; clear HB; have HO_3 := n0_; have HO178 := n1_; have BK148 := n2_; have BK162 := n3_; have HB := n4_; clear n0_ n1_ n2_ n3_ n4_; (try clear hb); (try clear hb2); (try clear hk); (try clear hi); (try clear ho0); obtain ⟨Ao45, co45, eo45⟩ := Kd.R_slice HO178.out; subst eo45) | ((with_reducible refine zr (b := .append) (xs := #[.tmp 54, .tmp 58]) rfl ?_); at_builtin; refine Kd.R_append_rows (Kd.int .u8) (w0 := w) w.heap.size rfl (.tmp 54) (.tmp 58) 26 5 (.int .u8 0) 1 rfl Try.underlying26 info5 rfl (by decide) (by omega) u3 x3_2 t176 _ _ _ (fun k_ => some k_ ≠ (.slice Ao45 t176.length co45 : Value).ownBlock) (fun _ => False) rfl rfl ?aO ?aR (fun _ _ h => h) (fun _ h => h.elim) ?aF ?aB ?aS ?aL ?_; (case aR => repeat (first | exact (Kd.R_reads' HO178.out).2.2 | (with_reducible refine Kd.C_alloc ?_ _) | (with_reducible refine Kd.C_drewN ?_ _) | (with_reducible refine Kd.C_drew ?_))); (case aB => exact yd); (case aF => exact (fun k_ hk => Kd.fresh' (Kd.R_lt (by (with_reducible repeat (first | apply Kd.R_alloc | apply Kd.R_drewN | apply Kd.R_drew)); exact HO178.out)) k_ hk)); (case aO => exact (by (with_reducible repeat (first | apply Kd.R_alloc | apply Kd.R_drewN | apply Kd.R_drew)); exact Kd.R_mono HO_3.out (fun _ hk => hk.2))); (case aS => exact (zc yd)); (case aL => have := LMc40.out; omega); intro v180 w44 ho hb hg hat; rw [← Ny179.out] at ho; have n0_ := z1o.mk (zf (g := gb148) (o := .cells #[.string a0_0, .slice (some ad161) l0_1.length c0_1] 31 (0, 0)) ym hg (Kd.R_ne HO_3.out BK148.out (by decide))); have n1_ := z1o.mk (zf (g := gb162) (o := .cells #[.string ((rd_T84 l0_1 x4_1).f0), .slice A161_1 ((rd_T84 l0_1 x4_1).f1).length c161_1, .slice A161_2 ((rd_T84 l0_1 x4_1).f2).length c161_2] 84 (0, 0)) y1f hg (Kd.R_ne HO_3.out BK162.out (by decide))); have n2_ := z1o.mk (Kd.R_after (ok := (fun _ => True)) (by (with_reducible repeat (first | apply Kd.R_alloc | apply Kd.R_drewN | apply Kd.R_drew)); exact HO178.out) hg hat); have n3_ := z1o.mk (hb); have n4_ := z1o.mk (ho); clear BK148; clear BK162; clear HO178; clear HB; clear HO_3; have BK148 := n0_; have BK162 := n1_; have HO178 := n2_; have HB := n3_; have HO181 := n4_; clear n0_ n1_ n2_ n3_ n4_; clear ho hb hg hat))
           go_loopg [3, 7] k2 (fun kq v3 v7 w' => ∃ (x3_3 : List Int) (x7_3 : Int), v7 = .int .i64 x7_3 ∧ z1o (z11.l2 kq x3_3 x4_1 x7_3 a0_0 l0_1 ((rd_T84 l0_1 x4_1).f0) ((rd_T84 l0_1 x4_1).f1) ((rd_T84 l0_1 x4_1).f2) = some r) ∧ z1o (kq ≤ k2) ∧ z1o (Kd.R (Kd.int .u8) 5 w' w.heap.size (fun _ => True) v3 x3_3) ∧ z1o (w'.heap[gb148]? = some (.cells #[.string a0_0, (.slice (some ad161) l0_1.length c0_1)] 31 (0, 0))) ∧ z1o (w'.heap[gb162]? = some (.cells #[.string ((rd_T84 l0_1 x4_1).f0), (.slice A161_1 ((rd_T84 l0_1 x4_1).f1).length c161_1), (.slice A161_2 ((rd_T84 l0_1 x4_1).f2).length c161_2)] 84 (0, 0))) ∧ z1o (Below w.heap.size w w'))
           case atStart => exact ⟨(y179), (0), (by first | rfl | (simp; done) | (simp [*]; done)), H', ⟨um _⟩, ⟨by (with_reducible repeat (first | apply Kd.R_alloc | apply Kd.R_drewN | apply Kd.R_drew)); exact Kd.R_mono HO181.out (fun _ hk => trivial)⟩, ⟨ym⟩, ⟨y1f⟩, ⟨yd⟩⟩
           case round =>
            clear H'
            try clear c1
            try clear p1
            try clear q1
            try clear hx1
            try clear c2
            try clear p2
            try clear c3
            try clear c4
            try clear c5
            try clear p6
            try clear c9
            try clear c15
            try clear c15b0
            try clear c16
            try clear c16b0
            try clear p16
            try clear q16
            try clear hx16
            try clear p17
            try clear q17
            try clear hx17
            try clear c19
            try clear c22
            try clear c32
            try clear c32b0
            try clear c33
            try clear c33b0
            try clear c35
            try clear c40
            try clear c41
            try clear hcz11_0
            try clear hcz11_1
            try clear hcz20_0
            try clear hcz20_1
            try clear hcz23_0
            try clear hcz23_1
            try clear hcz23_2
            try clear hcz25_0
            try clear hcz25_1
            try clear hcz25_2
            try clear hcz28_0
            try clear hcz28_1
            try clear hcz28_2
            try clear hcz36_0
            try clear hcz36_1
            try clear hcz36_2
            try clear hcz42_0
            try clear hcz42_1
            try clear hcz42_2
            try clear hcz8_0
            try clear hcz8_1
            try clear hfz11_0
            try clear hfz11_1
            try clear hfz20_0
            try clear hfz20_1
            try clear hfz23_0
            try clear hfz23_1
            try clear hfz23_2
            try clear hfz25_0
            try clear hfz25_1
            try clear hfz25_2
            try clear hfz28_0
            try clear hfz28_1
            try clear hfz28_2
            try clear hfz36_0
            try clear hfz36_1
            try clear hfz36_2
            try clear hfz42_0
            try clear hfz42_1
            try clear hfz42_2
            try clear hfz8_0
            try clear hfz8_1
            try clear hx161_0
            try clear hx161_1
            try clear hx161_2
            try clear hx172_0
            try clear p1
            try clear p16
            try clear p161
            try clear p172
            try clear p2
            try clear q1
            try clear q16
            try clear q161
            try clear q172
            obtain ⟨x3_3, x7_3, rfl, HA, HK3, HO_3, BK148, BK162, HB⟩ := hrel
            cases gk with
            | zero => exact absurd HA.out (by simp [z11.l2])
            | succ k3 =>
             have H := HA.out
             clear HA
             simp only [z11.l2] at H
             by_cases c46 : x7_3 < (((rd_T84 l0_1 x4_1).f2).length : Int)
             ·rw [if_pos c46] at H
              have c46b0 : decide (x7_3 < (((rd_T84 l0_1 x4_1).f2).length : Int)) = true := decide_eq_true c46
              clear c46
              by_cases c47 : 0 ≤ x7_3
              ·rw [if_pos c47] at H
               have c47b0 : decide (0 ≤ x7_3) = true := decide_eq_true c47
               clear c47
               replace H := ue.mp H
               obtain ⟨t183, A480, H⟩ := H
               replace H : (z11.l2 k3 t183 x4_1 (wrap64 (x7_3 + 1)) a0_0 l0_1 ((rd_T84 l0_1 x4_1).f0) ((rd_T84 l0_1 x4_1).f1) ((rd_T84 l0_1 x4_1).f2)) = some r := H
               have A48 := z1o.mk A480
               clear A480
               have H' := z1o.mk H
               clear H
               have hnb49 := NB162_148.out
               have hnc49 := NB148_162.out
               obtain ⟨hcz50_0, hcz50_1, hcz50_2⟩ := cbk3 BK162.out
               obtain ⟨hfz50_0, hfz50_1, hfz50_2⟩ := cbf3 BK162.out
               have p182 : 0 ≤ (x7_3 : Int) := of_decide_eq_true (by first | (with_reducible assumption) | assumption)
               have q182 : x7_3 < (((rd_T84 l0_1 x4_1).f2).length : Int) := of_decide_eq_true (by first | (with_reducible assumption) | assumption)
               obtain ⟨ad182, e182, hx182_0⟩ := Kd.at_int HR161_2.out x7_3 p182 q182
               cases e182
               replace hx182_0 := (HB.out.cell (ua w _ hx182_0)).trans hx182_0
               replace p182 := eq_true p182
               replace q182 := eq_true q182
               obtain ⟨Ao51, co51, eo51⟩ := Kd.R_slice HO_3.out
               subst eo51
               go_wp2_with (first | ((with_reducible refine zp (f := 92) rfl ?_); refine goesL_ (some 73) rfl rfl Try.func92 (by kernel_rfl) rfl #[.slice Ao51 x3_3.length co51, .int .i64 (rd ((rd_T84 l0_1 x4_1).f2) x7_3)] rfl (by (try simp only [uh, ui, uj]); first | done | rfl | (simp only [uf, ug]; rfl)) ?_; (with_reducible refine (spec_l06PutNumber.calls k3 (fun k_ => some k_ = (.slice Ao51 x3_3.length co51 : Value).ownBlock) (.slice Ao51 x3_3.length co51) x3_3 (rd ((rd_T84 l0_1 x4_1).f2) x7_3) t183 w _ ?side1 ?side2 A48.out).mono ?_); (case side1 => exact yd); (case side2 => exact Kd.R_tight rfl HO_3.out); rintro e w52 ⟨v184, rfl, ho0, hb, hkp⟩; refine ⟨_, rfl, ?_⟩; have n0_ := z1o.mk (blk_kept ym hkp (fun hs_ => (fun e_ => (Kd.R_ne HO_3.out BK148.out (by decide)) e_) hs_)); have n1_ := z1o.mk (blk_kept y1f hkp (fun hs_ => (fun e_ => (Kd.R_ne HO_3.out BK162.out (by decide)) e_) hs_)); have n2_ := z1o.mk (Kd.R_mono (ok' := fun k_ => True) ho0 (fun k_ hk_ => trivial)); have n3_ := z1o.mk (hb); clear BK148; clear BK162; clear HB; clear HO_3; have BK148 := n0_; have BK162 := n1_; have HO185 := n2_; have HB := n3_; clear n0_ n1_ n2_ n3_; (try clear hb); (try clear hkp); (try clear ho0)))
               go_roundg k3
               case measure => have := HK1.out; have := HK2.out; have := HK3.out; omega
               case rel => exact ⟨(t183), (wrap64 (x7_3 + 1)), (by first | rfl | (simp; done) | (simp [*]; done)), H', ⟨by have := HK1.out; have := HK2.out; have := HK3.out; omega⟩, ⟨by (with_reducible repeat (first | apply Kd.R_alloc | apply Kd.R_drewN | apply Kd.R_drew)); exact HO185.out⟩, ⟨ym⟩, ⟨y1f⟩, ⟨yd⟩⟩
              ·rw [if_neg c47] at H
               exact absurd H (by simp)
             ·rw [if_neg c46] at H
              have c46b0 : decide (x7_3 < (((rd_T84 l0_1 x4_1).f2).length : Int)) = false := decide_eq_false c46
              clear c46
              have H' := z1o.mk H
              clear H
              have hnb53 := NB162_148.out
              have hnc53 := NB148_162.out
              obtain ⟨hcz54_0, hcz54_1, hcz54_2⟩ := cbk3 BK162.out
              obtain ⟨hfz54_0, hfz54_1, hfz54_2⟩ := cbf3 BK162.out
              go_wp2
              go_roundg k3
              case measure => have := HK1.out; have := HK2.out; have := HK3.out; omega
              case rel => exact ⟨(x3_3), (wrap64 (x4_1 + 1)), (by first | rfl | (simp; done) | (simp [*]; done)), H', ⟨by have := HK1.out; have := HK2.out; have := HK3.out; omega⟩, ⟨y22⟩, ⟨ym⟩, ⟨yd⟩⟩
          ·rw [if_neg c40] at H
           exact absurd H (by simp)
      ·rw [if_neg c19] at H
       exact absurd H (by simp)
     ·rw [if_neg c16] at H
      exact absurd H (by simp)
    ·rw [if_neg c15] at H
     have c15b0 : decide (x4_1 < (l0_1.length : Int)) = false := decide_eq_false c15
     clear c15
     obtain rfl := Option.some.inj H
     obtain ⟨hcz55_0, hcz55_1⟩ := cbk2 BK148.out
     obtain ⟨hfz55_0, hfz55_1⟩ := cbf2 BK148.out
     go_wp2
     go_ret
     exact ⟨_, by first | rfl | (simp [zm, zl] <;> rfl) | (simp [*, zm, zl] <;> rfl), y22, yy⟩
 ·rw [if_neg c4] at H
  exact absurd H (by simp)
def impl_within.f (a0 : Int) (a1 : Int) (a2 : Int) : Option (Bool) := if a0 ≥ a1 then (some (decide (a0 ≤ a2))) else (some false)
set_option maxHeartbeats 8000000 in
set_option maxRecDepth 100000 in
theorem impl_within.calls (a0 : Int) (a1 : Int) (a2 : Int) (r : Bool) (w : World) (h : impl_within.f a0 a1 a2 = some r) :
  Calls Try.prog 52 #[.int .i64 a0, .int .i64 a1, .int .i64 a2] w fun e w' => e = .returned (.bool r) ∧ Drawn0 w w' := by
 have H : (if a0 ≥ a1 then (some (decide (a0 ≤ a2))) else (some false)) = some r := h
 clear h
 by_cases c4 : a0 ≥ a1
 ·rw [if_pos c4] at H
  have c4b0 : decide (a1 ≤ a0) = true := decide_eq_true c4
  clear c4
  obtain rfl := Option.some.inj H
  go_enter Try.func52, Try.ntmps52
  go_wp2
  go_ret
  exact ⟨by first | rfl | (simp; done) | (simp [*]; done), yb⟩
 ·rw [if_neg c4] at H
  have c4b0 : decide (a1 ≤ a0) = false := decide_eq_false c4
  clear c4
  obtain rfl := Option.some.inj H
  go_enter Try.func52, Try.ntmps52
  go_wp2
  go_ret
  exact ⟨by first | rfl | (simp; done) | (simp [*]; done), yb⟩
def z1f.l0 : Nat → List Int → Int → Option (List Int)
 | 0, _, _ => none
 | k + 1, x0, x1 => if x1 ≥ 128 then (if x0.length < 140737488355328 then (z1f.l0 k (x0 ++ [Go.bits .or .u8 ((x1) % 256) 128]) (x1 / 128)) else (none)) else (if x0.length < 140737488355328 then (some (x0 ++ [(x1) % 256])) else (none))
def z1f.f (k : Nat) (l0 : List Int) (a1 : Int) : Option (List Int) := z1f.l0 k l0 a1
set_option maxHeartbeats 8000000 in
set_option maxRecDepth 100000 in
theorem z1f.calls (k : Nat) (P0_ : Nat → Prop) (u9000_ : Value) (l0 : List Int) (a1 : Int) (r : List Int) (w0 w : World) (hB : Below w0.heap.size w0 w) (ho0 : Kd.R (Kd.int .u8) 5 w w0.heap.size P0_ u9000_ l0) (h : z1f.f k l0 a1 = some r) :
  Calls Try.prog 53 #[u9000_, .int .i64 a1] w fun e w' => ∃ v0_ : Value, e = .returned (v0_) ∧ Kd.R (Kd.int .u8) 5 w' w0.heap.size (fun k_ => (P0_ k_ ∨ w.heap.size ≤ k_)) v0_ r ∧ Below w0.heap.size w0 w' ∧ Kept w w' (fun k_ => P0_ k_) := by
 have HO0 := z1o.mk (show Kd.R (Kd.int .u8) 5 w w0.heap.size (fun k_ => (P0_ k_ ∨ w.heap.size ≤ k_)) u9000_ l0 from Kd.R_mono ho0 (fun k_ hk => (.inl hk)))
 have HK := z1o.mk (Kept.refl w (fun k_ => P0_ k_))
 have HW0 := z1o.mk hB.size
 have HB := z1o.mk hB
 clear hB
 have H : (z1f.l0 k l0 a1) = some r := h
 clear h
 have H' := z1o.mk H
 clear H
 go_enter Try.func53, Try.ntmps53
 go_wp2
 go_loopg [0, 1] k (fun kq v0 v1 w' => ∃ (x0_1 : List Int) (x1_1 : Int), v1 = .int .i64 x1_1 ∧ z1o (z1f.l0 kq x0_1 x1_1 = some r) ∧ z1o (kq ≤ k) ∧ z1o (Kd.R (Kd.int .u8) 5 w' w0.heap.size (fun k_ => (P0_ k_ ∨ w.heap.size ≤ k_)) v0 x0_1) ∧ z1o (Kept w w' (fun k_ => P0_ k_)) ∧ z1o (Below w0.heap.size w0 w'))
 case atStart => exact ⟨(l0), (a1), (by first | rfl | (simp; done) | (simp [*]; done)), H', ⟨um _⟩, ⟨y1a⟩, ⟨y7⟩, ⟨y0⟩⟩
 case round =>
  clear H'
  try clear p2
  obtain ⟨x0_1, x1_1, rfl, HA, HK1, HO_0, HK, HB⟩ := hrel
  cases gk with
  | zero => exact absurd HA.out (by simp [z1f.l0])
  | succ k1 =>
   have H := HA.out
   clear HA
   simp only [z1f.l0] at H
   by_cases c3 : x1_1 ≥ 128
   ·rw [if_pos c3] at H
    have c3b0 : decide (128 ≤ x1_1) = true := decide_eq_true c3
    clear c3
    by_cases c4 : x0_1.length < 140737488355328
    ·rw [if_pos c4] at H
     have LMc4 := z1o.mk c4
     clear c4
     obtain ⟨y231, hy231⟩ : ∃ y_ : List Int, y_ = (x0_1 ++ [Go.bits .or .u8 ((x1_1) % 256) 128]) := ⟨_, rfl⟩
     replace H : (z1f.l0 k1 y231 (x1_1 / 128)) = some r := by first | (rw [hy231]; with_reducible exact H) | (have H2_ := (uk _ _).symm.trans H; rw [hy231]; with_reducible exact H2_) | (have H2_ := (uk _ _).symm.trans H; with_reducible exact H2_) | with_reducible exact H | (rw [hy231]; exact H) | exact H
     have Ny231 := z1o.mk hy231
     clear hy231
     have H' := z1o.mk H
     clear H
     go_wp2_with (first | ((with_reducible refine zr (b := .append) (xs := #[.tmp 7, .tmp 11]) rfl ?_); at_builtin; refine Kd.R_append (Kd.int .u8) (w0 := w0) w0.heap.size rfl (.tmp 7) (.tmp 11) 26 5 (.int .u8 0) 1 rfl Try.underlying26 info5 rfl (by decide) (by omega) u0 x0_1 (Go.bits .or .u8 ((x1_1) % 256) 128) [.int .u8 (Go.bits .or .u8 ((x1_1) % 256) 128)] (fun k_ => (P0_ k_ ∨ w.heap.size ≤ k_)) (fun _ => False) rfl rfl ?aP (fun _ hk => hk.elim) ?aF ?aO ?aB ?aS ?aL ?_; (case aP => exact rfl); (case aB => exact y0); (case aF => exact (fun k_ hk => (.inr (Nat.le_trans (by first | exact HK.out.1 | exact (show Kept w _ (fun k_ => P0_ k_) from y7).1) hk)))); (case aO => exact y1r); (case aS => exact (zc y0)); (case aL => have := LMc4.out; omega); intro v232 w5 ho hb hg hat; rw [← Ny231.out] at ho; have n0_ := z1o.mk (hb); have n1_ := z1o.mk (Kept.of_grown (S := (fun k_ => P0_ k_)) hg y7 (fun k_ e_ => (HO_0.out.1 k_ e_))); have n2_ := z1o.mk (ho); clear HB; clear HK; clear HO_0; have HB := n0_; have HK := n1_; have HO233 := n2_; clear n0_ n1_ n2_; clear ho hb hg hat))
     go_roundg k1
     case measure => have := HK1.out; omega
     case rel => exact ⟨(y231), (x1_1 / 128), (by first | rfl | (simp; done) | (simp [*]; done)), H', ⟨by have := HK1.out; omega⟩, ⟨by (with_reducible repeat (first | apply Kd.R_alloc | apply Kd.R_drewN | apply Kd.R_drew)); exact HO233.out⟩, ⟨y7⟩, ⟨y0⟩⟩
    ·rw [if_neg c4] at H
     exact absurd H (by simp)
   ·rw [if_neg c3] at H
    have c3b0 : decide (128 ≤ x1_1) = false := decide_eq_false c3
    clear c3
    by_cases c6 : x0_1.length < 140737488355328
    ·rw [if_pos c6] at H
     have LMc6 := z1o.mk c6
     clear c6
     obtain ⟨y234, hy234⟩ : ∃ y_ : List Int, y_ = (x0_1 ++ [(x1_1) % 256]) := ⟨_, rfl⟩
     replace H : (some y234) = some r := by first | (rw [hy234]; with_reducible exact H) | (have H2_ := (uk _ _).symm.trans H; rw [hy234]; with_reducible exact H2_) | (have H2_ := (uk _ _).symm.trans H; with_reducible exact H2_) | with_reducible exact H | (rw [hy234]; exact H) | exact H
     have Ny234 := z1o.mk hy234
     clear hy234
     obtain rfl := Option.some.inj H
     go_wp2_with (first | ((with_reducible refine zr (b := .append) (xs := #[.tmp 15, .tmp 18]) rfl ?_); at_builtin; refine Kd.R_append (Kd.int .u8) (w0 := w0) w0.heap.size rfl (.tmp 15) (.tmp 18) 26 5 (.int .u8 0) 1 rfl Try.underlying26 info5 rfl (by decide) (by omega) u0 x0_1 ((x1_1) % 256) [.int .u8 ((x1_1) % 256)] (fun k_ => (P0_ k_ ∨ w.heap.size ≤ k_)) (fun _ => False) rfl rfl ?aP (fun _ hk => hk.elim) ?aF ?aO ?aB ?aS ?aL ?_; (case aP => exact rfl); (case aB => exact y0); (case aF => exact (fun k_ hk => (.inr (Nat.le_trans (by first | exact HK.out.1 | exact (show Kept w _ (fun k_ => P0_ k_) from y7).1) hk)))); (case aO => exact y1r); (case aS => exact (zc y0)); (case aL => have := LMc6.out; omega); intro v235 w7 ho hb hg hat; rw [← Ny234.out] at ho; have n0_ := z1o.mk (hb); have n1_ := z1o.mk (Kept.of_grown (S := (fun k_ => P0_ k_)) hg y7 (fun k_ e_ => (HO_0.out.1 k_ e_))); have n2_ := z1o.mk (ho); clear HB; clear HK; clear HO_0; have HB := n0_; have HK := n1_; have HO236 := n2_; clear n0_ n1_ n2_; clear ho hb hg hat))
     go_ret
     exact ⟨_, by first | rfl | (simp [zm, zl] <;> rfl) | (simp [*, zm, zl] <;> rfl), by (with_reducible repeat (first | apply Kd.R_alloc | apply Kd.R_drewN | apply Kd.R_drew)); exact HO236.out, y0, y7⟩
    ·rw [if_neg c6] at H
     exact absurd H (by simp)
def impl_putText.f (k : Nat) (l0 : List Int) (a1 : ByteArray) : Option (List Int) := (z1f.f k l0 (a1.size : Int)).bind fun t237 => (if t237.length + a1.size < 140737488355328 then (some (t237 ++ bytesOf a1)) else (none))
set_option maxHeartbeats 8000000 in
set_option maxRecDepth 100000 in
theorem impl_putText.calls (k : Nat) (P0_ : Nat → Prop) (u9000_ : Value) (l0 : List Int) (a1 : ByteArray) (r : List Int) (w0 w : World) (hB : Below w0.heap.size w0 w) (ho0 : Kd.R (Kd.int .u8) 5 w w0.heap.size P0_ u9000_ l0) (h : impl_putText.f k l0 a1 = some r) :
  Calls Try.prog 54 #[u9000_, .string a1] w fun e w' => ∃ v0_ : Value, e = .returned (v0_) ∧ Kd.R (Kd.int .u8) 5 w' w0.heap.size (fun k_ => (P0_ k_ ∨ w.heap.size ≤ k_)) v0_ r ∧ Below w0.heap.size w0 w' ∧ Kept w w' (fun k_ => P0_ k_) := by
 have HO0 := z1o.mk (show Kd.R (Kd.int .u8) 5 w w0.heap.size (fun k_ => (P0_ k_ ∨ w.heap.size ≤ k_)) u9000_ l0 from Kd.R_mono ho0 (fun k_ hk => (.inl hk)))
 have HK := z1o.mk (Kept.refl w (fun k_ => P0_ k_))
 have HW0 := z1o.mk hB.size
 have HB := z1o.mk hB
 clear hB
 have H : ((z1f.f k l0 (a1.size : Int)).bind fun t237 => (if t237.length + a1.size < 140737488355328 then (some (t237 ++ bytesOf a1)) else (none))) = some r := h
 clear h
 replace H := ue.mp H
 obtain ⟨t237, A30, H⟩ := H
 replace H : (if t237.length + a1.size < 140737488355328 then (some (t237 ++ bytesOf a1)) else (none)) = some r := H
 have A3 := z1o.mk A30
 clear A30
 by_cases c4 : t237.length + a1.size < 140737488355328
 ·rw [if_pos c4] at H
  have LMc4 := z1o.mk c4
  clear c4
  obtain ⟨y240, hy240⟩ : ∃ y_ : List Int, y_ = (t237 ++ bytesOf a1) := ⟨_, rfl⟩
  replace H : (some y240) = some r := by first | (rw [hy240]; with_reducible exact H) | (have H2_ := (uk _ _).symm.trans H; rw [hy240]; with_reducible exact H2_) | (have H2_ := (uk _ _).symm.trans H; with_reducible exact H2_) | with_reducible exact H | (rw [hy240]; exact H) | exact H
  have Ny240 := z1o.mk hy240
  clear hy240
  obtain rfl := Option.some.inj H
  obtain ⟨Ao5, co5, eo5⟩ := Kd.R_slice HO0.out
  subst eo5
  go_enter Try.func54, Try.ntmps54
  go_wp2_with (first | ((with_reducible refine zp (f := 53) rfl ?_); refine goesL_ (some 8) rfl rfl Try.func53 (by kernel_rfl) rfl #[.slice Ao5 l0.length co5, .int .i64 (a1.size : Int)] rfl (by (try simp only [uh, ui, uj]); first | done | rfl | (simp only [uf, ug]; rfl)) ?_; (with_reducible refine (z1f.calls k (fun k_ => some k_ = (.slice Ao5 l0.length co5 : Value).ownBlock) (.slice Ao5 l0.length co5) l0 (a1.size : Int) t237 w0 _ ?side1 ?side2 A3.out).mono ?_); (case side1 => exact y0); (case side2 => exact Kd.R_tight rfl HO0.out); rintro e w6 ⟨v238, rfl, ho0, hb, hkp⟩; refine ⟨_, rfl, ?_⟩; have n0_ := z1o.mk (Kd.R_mono (ok' := fun k_ => (P0_ k_ ∨ w.heap.size ≤ k_)) ho0 (fun k_ hk_ => Or.elim hk_ (fun hs_ => (HO0.out.1 k_ (hs_).symm)) (fun hn_ => (.inr (Nat.le_trans (by first | exact HK.out.1 | exact (show Kept w _ (fun k_ => P0_ k_) from y7).1) hn_))))); have n1_ := z1o.mk (Kept.then_ (S := (fun k_ => P0_ k_)) y7 hkp (fun k_ hs_ => (fun e_ => (HO0.out.1 k_ e_.symm)) hs_)); have n2_ := z1o.mk (hb); clear HK; clear HB; clear HO0; have HO239 := n0_; have HK := n1_; have HB := n2_; clear n0_ n1_ n2_; (try clear hb); (try clear hkp); (try clear ho0)) | ((with_reducible refine zr (b := .append) (xs := #[.tmp 8, .tmp 9]) rfl ?_); at_builtin; refine Kd.R_append_str (w0 := w0) w0.heap.size rfl (.tmp 8) (.tmp 9) 26 9 5 rfl Try.underlying26 Try.underlying9 info5 v238 t237 a1 (fun k_ => (P0_ k_ ∨ w.heap.size ≤ k_)) rfl rfl ?aF ?aO ?aB ?aS ?aL ?_; (case aB => exact y0); (case aF => exact (fun k_ hk => (.inr (Nat.le_trans (by first | exact HK.out.1 | exact (show Kept w _ (fun k_ => P0_ k_) from y7).1) hk)))); (case aO => exact (by (with_reducible repeat (first | apply Kd.R_alloc | apply Kd.R_drewN | apply Kd.R_drew)); exact HO239.out)); (case aS => exact (zc y0)); (case aL => have := LMc4.out; omega); intro v241 w7 ho hb hg hat; rw [← Ny240.out] at ho; have n0_ := z1o.mk (hb); have n1_ := z1o.mk (Kept.of_grown (S := (fun k_ => P0_ k_)) hg y7 (fun k_ e_ => (HO239.out.1 k_ e_))); have n2_ := z1o.mk (ho); clear HB; clear HK; clear HO239; have HB := n0_; have HK := n1_; have HO242 := n2_; clear n0_ n1_ n2_; clear ho hb hg hat))
  go_ret
  exact ⟨_, by first | rfl | (simp [zm, zl] <;> rfl) | (simp [*, zm, zl] <;> rfl), by (with_reducible repeat (first | apply Kd.R_alloc | apply Kd.R_drewN | apply Kd.R_drew)); exact HO242.out, y0, y7⟩
 ·rw [if_neg c4] at H
  exact absurd H (by simp)
mutual
def zz.j0 : Nat → Bool → ByteArray → List (S84) → Option (List Int × Int)
 | 0, _, _, _ => none
 | k + 1, x26, x244000, x244001 => if x26 = true then (some (([] : List Int), 12)) else (zz.l0 k x244001 (x244001.length : Int) 0 x244000 x244001)
def zz.l0 : Nat → List (S84) → Int → Int → ByteArray → List (S84) → Option (List Int × Int)
 | 0, _, _, _, _, _ => none
 | k + 1, x28, x29, x30, x244000, x244001 => if x30 < x29 then (if 0 ≤ x30 then (if x30 < (x28.length : Int) then (if (((rd_T84 x28 x30).f0).size : Int) > 65536 then (zz.j2 k x28 x29 x30 true x244000 x244001 ((rd_T84 x28 x30).f0) ((rd_T84 x28 x30).f1) ((rd_T84 x28 x30).f2)) else (if (((rd_T84 x28 x30).f1).length : Int) > 4096 then (zz.j2 k x28 x29 x30 true x244000 x244001 ((rd_T84 x28 x30).f0) ((rd_T84 x28 x30).f1) ((rd_T84 x28 x30).f2)) else (zz.j2 k x28 x29 x30 (decide ((((rd_T84 x28 x30).f2).length : Int) > 4096)) x244000 x244001 ((rd_T84 x28 x30).f0) ((rd_T84 x28 x30).f1) ((rd_T84 x28 x30).f2)))) else (none)) else (none)) else ((impl_putText.f k ([] : List Int) x244000).bind fun t249 => ((z1f.f k t249 (x244001.length : Int)).bind fun t252 => (zz.l3 k t252 x244001 (x244001.length : Int) 0)))
def zz.j2 : Nat → List (S84) → Int → Int → Bool → ByteArray → List (S84) → ByteArray → List ByteArray → List Int → Option (List Int × Int)
 | 0, _, _, _, _, _, _, _, _, _ => none
 | k + 1, x28, x29, x30, x49, x244000, x244001, x246000, x246001, x246002 => if x49 = true then (some (([] : List Int), 12)) else (zz.l1 k x28 x29 x30 x246001 (x246001.length : Int) 0 x244000 x244001 x246000 x246001 x246002)
def zz.l1 : Nat → List (S84) → Int → Int → List ByteArray → Int → Int → ByteArray → List (S84) → ByteArray → List ByteArray → List Int → Option (List Int × Int)
 | 0, _, _, _, _, _, _, _, _, _, _, _ => none
 | k + 1, x28, x29, x30, x51, x52, x53, x244000, x244001, x246000, x246001, x246002 => if x53 < x52 then (if 0 ≤ x53 then (if x53 < (x51.length : Int) then (if ((rdOf ByteArray.empty x51 x53).size : Int) > 65536 then (some (([] : List Int), 12)) else (zz.l1 k x28 x29 x30 x51 x52 (wrap64 (x53 + 1)) x244000 x244001 x246000 x246001 x246002)) else (none)) else (none)) else (zz.l2 k x28 x29 x30 x246002 (x246002.length : Int) 0 x244000 x244001)
def zz.l2 : Nat → List (S84) → Int → Int → List Int → Int → Int → ByteArray → List (S84) → Option (List Int × Int)
 | 0, _, _, _, _, _, _, _, _ => none
 | k + 1, x28, x29, x30, x62, x63, x64, x244000, x244001 => if x64 < x63 then (if 0 ≤ x64 then (if x64 < (x62.length : Int) then ((impl_within.f (rd x62 x64) (-1000000000000) 1000000000000).bind fun t248 => (if t248 = true then (zz.l2 k x28 x29 x30 x62 x63 (wrap64 (x64 + 1)) x244000 x244001) else (some (([] : List Int), 12)))) else (none)) else (none)) else (zz.l0 k x28 x29 (wrap64 (x30 + 1)) x244000 x244001)
def zz.l3 : Nat → List Int → List (S84) → Int → Int → Option (List Int × Int)
 | 0, _, _, _, _ => none
 | k + 1, x10, x81, x82, x83 => if x83 < x82 then (if 0 ≤ x83 then (if x83 < (x81.length : Int) then ((impl_putText.f k x10 ((rd_T84 x81 x83).f0)).bind fun t257 => ((z1f.f k t257 (((rd_T84 x81 x83).f1).length : Int)).bind fun t260 => (zz.l4 k t260 x81 x82 x83 ((rd_T84 x81 x83).f1) (((rd_T84 x81 x83).f1).length : Int) 0 ((rd_T84 x81 x83).f0) ((rd_T84 x81 x83).f1) ((rd_T84 x81 x83).f2)))) else (none)) else (none)) else (some (x10, 0))
def zz.l4 : Nat → List Int → List (S84) → Int → Int → List ByteArray → Int → Int → ByteArray → List ByteArray → List Int → Option (List Int × Int)
 | 0, _, _, _, _, _, _, _, _, _, _ => none
 | k + 1, x10, x81, x82, x83, x96, x97, x98, x257000, x257001, x257002 => if x98 < x97 then (if 0 ≤ x98 then (if x98 < (x96.length : Int) then ((impl_putText.f k x10 (rdOf ByteArray.empty x96 x98)).bind fun t264 => (zz.l4 k t264 x81 x82 x83 x96 x97 (wrap64 (x98 + 1)) x257000 x257001 x257002)) else (none)) else (none)) else ((z1f.f k x10 (x257002.length : Int)).bind fun t267 => (zz.l5 k t267 x81 x82 x83 x257002 (x257002.length : Int) 0))
def zz.l5 : Nat → List Int → List (S84) → Int → Int → List Int → Int → Int → Option (List Int × Int)
 | 0, _, _, _, _, _, _, _ => none
 | k + 1, x10, x81, x82, x83, x112, x113, x114 => if x114 < x113 then (if 0 ≤ x114 then (if x114 < (x112.length : Int) then (if (rd x112 x114) < 0 then ((z1f.f k x10 (wrap64 ((wrap64 ((-2) * (rd x112 x114))) - 1))).bind fun t271 => (zz.l5 k t271 x81 x82 x83 x112 x113 (wrap64 (x114 + 1)))) else ((z1f.f k x10 (wrap64 (2 * (rd x112 x114)))).bind fun t274 => (zz.l5 k t274 x81 x82 x83 x112 x113 (wrap64 (x114 + 1))))) else (none)) else (none)) else (zz.l3 k x10 x81 x82 (wrap64 (x83 + 1)))
end
def zz.f (k : Nat) (a0_0 : ByteArray) (l0_1 : List (S84)) : Option (List Int × Int) := if (a0_0.size : Int) > 65536 then (zz.j0 k true a0_0 l0_1) else (zz.j0 k (decide ((l0_1.length : Int) > 4096)) a0_0 l0_1)
def zz.T21 : Bool × List (List Nat × List Nat) := (true, [([], []), ([0], [0]), ([1], [1]), ([], []), ([3], [3]), ([4], [4]), ([2, 5, 2], [2, 5]), ([6, 6, 0, 1, 2, 3, 4, 5, 6], [6])])
def zz.B21 : List Nat := [0, 1, 3, 0, 8, 24, 63, 127]
theorem zz.tab21 : rtab .any (opsOf Try.f12 21) = zz.T21 := by kernel_rfl
theorem zz.bits21 : waitsOk zz.T21.2 zz.B21 = true := by kernel_rfl
def zz.T25 : Bool × List (List Nat × List Nat) := (true, [([], []), ([], []), ([1], [1]), ([0, 2], [0, 2]), ([], []), ([4], [4]), ([5], [5]), ([3, 6, 3], [3, 6]), ([7, 7, 0, 1, 2, 3, 4, 5, 6, 7], [0, 7])])
def zz.B25 : List Nat := [0, 0, 2, 7, 0, 16, 48, 127, 255]
theorem zz.tab25 : rtab .any (opsOf Try.f12 25) = zz.T25 := by kernel_rfl
theorem zz.bits25 : waitsOk zz.T25.2 zz.B25 = true := by kernel_rfl
set_option maxHeartbeats 8000000 in
set_option maxRecDepth 100000 in
theorem zz.calls (k : Nat) (a0_0 : ByteArray) (A0_1 : Option Addr) (c0_1 : Nat) (l0_1 : List (S84)) (r1 : List Int) (r2 : Int) (w : World) (hr0_1 : Kd.C k84 w A0_1 l0_1.length l0_1) (hc0_1 : l0_1.length ≤ c0_1) (h : zz.f k a0_0 l0_1 = some (r1, r2)) :
  Calls Try.prog 12 #[.agg #[.string a0_0, .slice A0_1 l0_1.length c0_1]] w fun e w' => ∃ v0_ : Value, e = .returned (.tuple #[v0_, .int .i64 r2]) ∧ Kd.R (Kd.int .u8) 5 w' w.heap.size (fun _ => True) v0_ r1 ∧ Below w.heap.size w w' := by
 have hu31 := Try.underlying31
 have hu84 := Try.underlying84
 have HR0_1 := z1o.mk hr0_1
 have HC0_1 := z1o.mk hc0_1
 clear hr0_1 hc0_1
 have HB := z1o.mk (Below.refl w.heap.size w)
 have H : (if (a0_0.size : Int) > 65536 then (zz.j0 k true a0_0 l0_1) else (zz.j0 k (decide ((l0_1.length : Int) > 4096)) a0_0 l0_1)) = some (r1, r2) := h
 clear h
 have HC2 := z1o.mk H
 clear H
 go_enter Try.func12, Try.ntmps12
 go_upto_region 1 with (first | ((with_reducible refine zq (N := 1) rfl ?_); (try (refine zu (by rfl) ?_; dsimp only)); refine zv ?hg (N := 1) ?hd (cs := #[.string a0_0, .slice A0_1 l0_1.length c0_1]) (t := 31) ?hr ?_; (case hd => rfl); (case hg => rfl); (case hr => first | (go_simp; done) | (go_simp; rfl)); intro gb243 hg w3 hbox hb; have n0_ := z1o.mk (za y0 hb); have n1_ := z1o.mk (hbox); have n2_ := z1o.mk ((by rw [hg]; exact (zc y0) : w.heap.size ≤ gb243)); have n3_ := z1o.mk ((by rw [hg]; exact (zc y0) : w.heap.size ≤ gb243)); clear HB; have HB := n0_; have BK243 := n1_; have GW243 := n2_; have GE243 := n3_; clear n0_ n1_ n2_ n3_; clear hb hbox hg))
 (try simp only [Act.put, ub, uc, ud])
 go_cut [26] (fun v26 wc => ∃ (kq : Nat) (x26_1 : Bool), v26 = .bool x26_1 ∧ z1o (zz.j0 kq x26_1 a0_0 l0_1 = some (r1, r2)) ∧ z1o (kq ≤ k) ∧ z1o (wc.heap[gb243]? = some (.cells #[.string a0_0, (.slice A0_1 l0_1.length c0_1)] 31 (0, 0))) ∧ z1o (Below w.heap.size w wc))
 case first =>
  have H := HC2.out
  clear HC2
  by_cases c4 : (a0_0.size : Int) > 65536
  ·rw [if_pos c4] at H
   have c4b0 : decide (65536 < (a0_0.size : Int)) = true := decide_eq_true c4
   have c4b1 : decide (65536 < a0_0.size) = true := decide_eq_true (by omega)
   clear c4
   (first | rw [c4b0] | (simp only [zn, zo]; rw [c4b0]) | skip)
   have H' := z1o.mk H
   clear H
   obtain ⟨hcz5_0, hcz5_1⟩ := cbk2 BK243.out
   obtain ⟨hfz5_0, hfz5_1⟩ := cbf2 BK243.out
   go_wp2
   go_meet
   case rel => exact ⟨_, (true), (by first | rfl | (simp; done) | (simp [*]; done)), H', ⟨by first | omega | exact um _⟩, ⟨yc⟩, ⟨yp⟩⟩
  ·rw [if_neg c4] at H
   have c4b0 : decide (65536 < (a0_0.size : Int)) = false := decide_eq_false c4
   have c4b1 : decide (65536 < a0_0.size) = false := decide_eq_false (by omega)
   clear c4
   (first | rw [c4b0] | (simp only [zn, zo]; rw [c4b0]) | skip)
   have H' := z1o.mk H
   clear H
   obtain ⟨hcz6_0, hcz6_1⟩ := cbk2 BK243.out
   obtain ⟨hfz6_0, hfz6_1⟩ := cbf2 BK243.out
   go_wp2
   go_meet
   case rel => exact ⟨_, (decide ((l0_1.length : Int) > 4096)), (by first | rfl | (simp; done) | (simp [*]; done)), H', ⟨by first | omega | exact um _⟩, ⟨yc⟩, ⟨yp⟩⟩
 case rest =>
  clear HC2
  try clear c1
  try clear p2
  try clear c4
  try clear c4b0
  try clear c4b1
  try clear hcz5_0
  try clear hcz5_1
  try clear hcz6_0
  try clear hcz6_1
  try clear hfz5_0
  try clear hfz5_1
  try clear hfz6_0
  try clear hfz6_1
  obtain ⟨kq, x26_1, rfl, HA, HJ1, BK243, HB⟩ := hcut
  cases kq with
  | zero => exact absurd HA.out (by simp [zz.j0])
  | succ kj1 =>
   have H := HA.out
   clear HA
   simp only [zz.j0] at H
   by_cases c7 : x26_1 = true
   ·subst c7
    have H1 : (some (([] : List Int), 12)) = some (r1, r2) := by rw [if_pos rfl] at H; exact H
    clear H
    have H := H1
    clear H1
    simp only [Option.some.injEq, Prod.mk.injEq] at H
    obtain ⟨rfl, rfl⟩ := H
    go_wp2
    go_ret2
    exact ⟨_, by first | rfl | (simp [zm, zl] <;> rfl) | (simp [*, zm, zl] <;> rfl), by first | exact Kd.R_nil _ _ _ _ _ | exact Kd.N_nil _ _ _ _ _ | exact Kd.V_nil _ _ _ _ _ | exact Kd.Q_nil _ _ _ _ _ | exact Kd.S_nil _ _ _ _ _, yp⟩
   ·replace c7 := Bool.eq_false_iff.mpr c7
    subst c7
    have H1 : (zz.l0 kj1 l0_1 (l0_1.length : Int) 0 a0_0 l0_1) = some (r1, r2) := by rw [if_neg (show ¬ (false = true) by decide)] at H; exact H
    clear H
    have H := H1
    clear H1
    have H' := z1o.mk H
    clear H
    obtain ⟨hcz8_0, hcz8_1⟩ := cbk2 BK243.out
    obtain ⟨hfz8_0, hfz8_1⟩ := cbf2 BK243.out
    go_wp2
    go_loopg [30] kj1 (fun kq v30 w' => ∃ (x30_2 : Int), v30 = .int .i64 x30_2 ∧ z1o (zz.l0 kq l0_1 (l0_1.length : Int) x30_2 a0_0 l0_1 = some (r1, r2)) ∧ z1o (kq ≤ kj1) ∧ z1o (w'.heap[gb243]? = some (.cells #[.string a0_0, (.slice A0_1 l0_1.length c0_1)] 31 (0, 0))) ∧ z1o (Below w.heap.size w w'))
    case atStart => exact ⟨(0), (by first | rfl | (simp; done) | (simp [*]; done)), H', ⟨um _⟩, ⟨yc⟩, ⟨yp⟩⟩
    case round =>
     clear H'
     try clear c1
     try clear p2
     try clear c4
     try clear c4b0
     try clear c4b1
     try clear c7
     try clear hcz5_0
     try clear hcz5_1
     try clear hcz6_0
     try clear hcz6_1
     try clear hcz8_0
     try clear hcz8_1
     try clear hfz5_0
     try clear hfz5_1
     try clear hfz6_0
     try clear hfz6_1
     try clear hfz8_0
     try clear hfz8_1
     try clear p2
     obtain ⟨x30_2, rfl, HA, HK2, BK243, HB⟩ := hrel
     cases gk with
     | zero => exact absurd HA.out (by simp [zz.l0])
     | succ k2 =>
      have H := HA.out
      clear HA
      simp only [zz.l0] at H
      by_cases c9 : x30_2 < (l0_1.length : Int)
      ·rw [if_pos c9] at H
       have c9b0 : decide (x30_2 < (l0_1.length : Int)) = true := decide_eq_true c9
       clear c9
       by_cases c10 : 0 ≤ x30_2
       ·rw [if_pos c10] at H
        have c10b0 : decide (0 ≤ x30_2) = true := decide_eq_true c10
        clear c10
        by_cases c11 : x30_2 < (l0_1.length : Int)
        ·rw [if_pos c11] at H
         have c11b0 : decide (x30_2 < (l0_1.length : Int)) = true := decide_eq_true c11
         clear c11
         have HC12 := z1o.mk H
         clear H
         have p244 : 0 ≤ (x30_2 : Int) := of_decide_eq_true (by first | (with_reducible assumption) | assumption)
         have q244 : x30_2 < (l0_1.length : Int) := of_decide_eq_true (by first | (with_reducible assumption) | assumption)
         obtain ⟨ad244, A244_1, c244_1, A244_2, c244_2, e244, hx244_0, hx244_1, hx244_2, hl244_1, hi244_1, hl244_2, hi244_2⟩ := at_T84 HR0_1.out x30_2 p244 q244
         have HW244_1 := z1o.mk hx244_1
         have HW244_2 := z1o.mk hx244_2
         cases e244
         replace hx244_0 := (HB.out.cell (ua w _ hx244_0)).trans hx244_0
         replace hx244_1 := (HB.out.cell (ua w _ hx244_1)).trans hx244_1
         replace hx244_2 := (HB.out.cell (ua w _ hx244_2)).trans hx244_2
         have HR244_1 := z1o.mk hi244_1
         have HC244_1 := z1o.mk hl244_1
         clear hi244_1 hl244_1
         have HR244_2 := z1o.mk hi244_2
         have HC244_2 := z1o.mk hl244_2
         clear hi244_2 hl244_2
         replace p244 := eq_true p244
         replace q244 := eq_true q244
         go_upto_region 6 with (first | ((with_reducible refine zq (N := 5) rfl ?_); (try (refine zu (by rfl) ?_; dsimp only)); refine zv ?hg (N := 5) ?hd (cs := #[.string (⟨#[]⟩ : ByteArray), .slice none 0 0, .slice none 0 0]) (t := 84) ?hr ?_; (case hd => rfl); (case hg => rfl); (case hr => first | (go_simp; done) | (go_simp; rfl)); intro gb245 hg w13 hbox hb; have n0_ := z1o.mk (zb (g := gb243) (o := .cells #[.string a0_0, .slice (some ad244) l0_1.length c0_1] 31 (0, 0)) yc hb); have n1_ := z1o.mk (za yp hb); have n2_ := z1o.mk (hbox); have n3_ := z1o.mk ((by rw [hg]; exact (zc yp) : w.heap.size ≤ gb245)); have n4_ := z1o.mk ((by rw [hg]; exact (zc yp) : w.heap.size ≤ gb245)); have n5_ := z1o.mk ((by rw [hg]; exact Nat.ne_of_lt (zg (g := gb243) (o := .cells #[.string a0_0, .slice (some ad244) l0_1.length c0_1] 31 (0, 0)) yc) : gb243 ≠ gb245)); have n6_ := z1o.mk ((by rw [hg]; exact Nat.ne_of_gt (zg (g := gb243) (o := .cells #[.string a0_0, .slice (some ad244) l0_1.length c0_1] 31 (0, 0)) yc) : gb245 ≠ gb243)); clear BK243; clear HB; have BK243 := n0_; have HB := n1_; have BK245 := n2_; have GW245 := n3_; have GE245 := n4_; have NB243_245 := n5_; have NB245_243 := n6_; clear n0_ n1_ n2_ n3_ n4_ n5_ n6_; clear hb hbox hg; have hnb14 := NB245_243.out; have hnc14 := NB243_245.out; obtain ⟨hcz15_0, hcz15_1, hcz15_2⟩ := cbk3 BK245.out; obtain ⟨hfz15_0, hfz15_1, hfz15_2⟩ := cbf3 BK245.out))
         (try simp only [Act.put, ub, uc, ud])
         go_cut [49] (fun v49 wc => ∃ (kq : Nat) (x49_11 : Bool), v49 = .bool x49_11 ∧ z1o (zz.j2 kq l0_1 (l0_1.length : Int) x30_2 x49_11 a0_0 l0_1 ((rd_T84 l0_1 x30_2).f0) ((rd_T84 l0_1 x30_2).f1) ((rd_T84 l0_1 x30_2).f2) = some (r1, r2)) ∧ z1o (kq ≤ k2) ∧ z1o (wc.heap[gb243]? = some (.cells #[.string a0_0, (.slice (some ad244) l0_1.length c0_1)] 31 (0, 0))) ∧ z1o (wc.heap[gb245]? = some (.cells #[.string ((rd_T84 l0_1 x30_2).f0), (.slice A244_1 ((rd_T84 l0_1 x30_2).f1).length c244_1), (.slice A244_2 ((rd_T84 l0_1 x30_2).f2).length c244_2)] 84 (0, 0))) ∧ z1o (Below w.heap.size w wc))
         case first =>
          have H := HC12.out
          clear HC12
          by_cases c16 : (((rd_T84 l0_1 x30_2).f0).size : Int) > 65536
          ·rw [if_pos c16] at H
           have c16b0 : decide (65536 < (((rd_T84 l0_1 x30_2).f0).size : Int)) = true := decide_eq_true c16
           have c16b1 : decide (65536 < ((rd_T84 l0_1 x30_2).f0).size) = true := decide_eq_true (by omega)
           clear c16
           (first | rw [c16b0] | (simp only [zn, zo]; rw [c16b0]) | skip)
           have H' := z1o.mk H
           clear H
           have hnb17 := NB245_243.out
           have hnc17 := NB243_245.out
           obtain ⟨hcz18_0, hcz18_1, hcz18_2⟩ := cbk3 BK245.out
           obtain ⟨hfz18_0, hfz18_1, hfz18_2⟩ := cbf3 BK245.out
           go_wp2
           go_meet
           case rel => exact ⟨_, (true), (by first | rfl | (simp; done) | (simp [*]; done)), H', ⟨by have := HJ1.out; have := HK2.out; first | omega | exact um _⟩, ⟨by (with_reducible repeat (first | refine z8 ?_ _ | refine z9 ?_ | refine z7 ?_ _)); refine ze ?_ NB243_245.out _; (with_reducible repeat (first | refine z8 ?_ _ | refine z9 ?_ | refine z7 ?_ _)); refine ze ?_ NB243_245.out _; (with_reducible repeat (first | refine z8 ?_ _ | refine z9 ?_ | refine z7 ?_ _)); refine ze ?_ NB243_245.out _; (with_reducible repeat (first | refine z8 ?_ _ | refine z9 ?_ | refine z7 ?_ _)); exact BK243.out⟩, ⟨by (with_reducible repeat (first | refine z8 ?_ _ | refine z9 ?_ | refine z7 ?_ _)); refine zd (cs := #[.string ((rd_T84 l0_1 x30_2).f0), .slice A244_1 ((rd_T84 l0_1 x30_2).f1).length c244_1, .slice none 0 0]) ?_ 2 _ rfl; (with_reducible repeat (first | refine z8 ?_ _ | refine z9 ?_ | refine z7 ?_ _)); refine zd (cs := #[.string ((rd_T84 l0_1 x30_2).f0), .slice none 0 0, .slice none 0 0]) ?_ 1 _ rfl; (with_reducible repeat (first | refine z8 ?_ _ | refine z9 ?_ | refine z7 ?_ _)); refine zd (cs := #[.string (⟨#[]⟩ : ByteArray), .slice none 0 0, .slice none 0 0]) ?_ 0 _ rfl; (with_reducible repeat (first | refine z8 ?_ _ | refine z9 ?_ | refine z7 ?_ _)); exact BK245.out⟩, ⟨yt⟩⟩
          ·rw [if_neg c16] at H
           have c16b0 : decide (65536 < (((rd_T84 l0_1 x30_2).f0).size : Int)) = false := decide_eq_false c16
           have c16b1 : decide (65536 < ((rd_T84 l0_1 x30_2).f0).size) = false := decide_eq_false (by omega)
           clear c16
           (first | rw [c16b0] | (simp only [zn, zo]; rw [c16b0]) | skip)
           by_cases c19 : (((rd_T84 l0_1 x30_2).f1).length : Int) > 4096
           ·rw [if_pos c19] at H
            have c19b0 : decide (4096 < (((rd_T84 l0_1 x30_2).f1).length : Int)) = true := decide_eq_true c19
            have c19b1 : decide (4096 < ((rd_T84 l0_1 x30_2).f1).length) = true := decide_eq_true (by omega)
            clear c19
            have H' := z1o.mk H
            clear H
            have hnb20 := NB245_243.out
            have hnc20 := NB243_245.out
            obtain ⟨hcz21_0, hcz21_1, hcz21_2⟩ := cbk3 BK245.out
            obtain ⟨hfz21_0, hfz21_1, hfz21_2⟩ := cbf3 BK245.out
            go_wp2
            go_meet
            case rel => exact ⟨_, (true), (by first | rfl | (simp; done) | (simp [*]; done)), H', ⟨by have := HJ1.out; have := HK2.out; first | omega | exact um _⟩, ⟨by (with_reducible repeat (first | refine z8 ?_ _ | refine z9 ?_ | refine z7 ?_ _)); refine ze ?_ NB243_245.out _; (with_reducible repeat (first | refine z8 ?_ _ | refine z9 ?_ | refine z7 ?_ _)); refine ze ?_ NB243_245.out _; (with_reducible repeat (first | refine z8 ?_ _ | refine z9 ?_ | refine z7 ?_ _)); refine ze ?_ NB243_245.out _; (with_reducible repeat (first | refine z8 ?_ _ | refine z9 ?_ | refine z7 ?_ _)); exact BK243.out⟩, ⟨by (with_reducible repeat (first | refine z8 ?_ _ | refine z9 ?_ | refine z7 ?_ _)); refine zd (cs := #[.string ((rd_T84 l0_1 x30_2).f0), .slice A244_1 ((rd_T84 l0_1 x30_2).f1).length c244_1, .slice none 0 0]) ?_ 2 _ rfl; (with_reducible repeat (first | refine z8 ?_ _ | refine z9 ?_ | refine z7 ?_ _)); refine zd (cs := #[.string ((rd_T84 l0_1 x30_2).f0), .slice none 0 0, .slice none 0 0]) ?_ 1 _ rfl; (with_reducible repeat (first | refine z8 ?_ _ | refine z9 ?_ | refine z7 ?_ _)); refine zd (cs := #[.string (⟨#[]⟩ : ByteArray), .slice none 0 0, .slice none 0 0]) ?_ 0 _ rfl; (with_reducible repeat (first | refine z8 ?_ _ | refine z9 ?_ | refine z7 ?_ _)); exact BK245.out⟩, ⟨yt⟩⟩
           ·rw [if_neg c19] at H
            have c19b0 : decide (4096 < (((rd_T84 l0_1 x30_2).f1).length : Int)) = false := decide_eq_false c19
            have c19b1 : decide (4096 < ((rd_T84 l0_1 x30_2).f1).length) = false := decide_eq_false (by omega)
            clear c19
            have H' := z1o.mk H
            clear H
            have hnb22 := NB245_243.out
            have hnc22 := NB243_245.out
            obtain ⟨hcz23_0, hcz23_1, hcz23_2⟩ := cbk3 BK245.out
            obtain ⟨hfz23_0, hfz23_1, hfz23_2⟩ := cbf3 BK245.out
            go_wp2
            go_meet
            case rel => exact ⟨_, (decide ((((rd_T84 l0_1 x30_2).f2).length : Int) > 4096)), (by first | rfl | (simp; done) | (simp [*]; done)), H', ⟨by have := HJ1.out; have := HK2.out; first | omega | exact um _⟩, ⟨by (with_reducible repeat (first | refine z8 ?_ _ | refine z9 ?_ | refine z7 ?_ _)); refine ze ?_ NB243_245.out _; (with_reducible repeat (first | refine z8 ?_ _ | refine z9 ?_ | refine z7 ?_ _)); refine ze ?_ NB243_245.out _; (with_reducible repeat (first | refine z8 ?_ _ | refine z9 ?_ | refine z7 ?_ _)); refine ze ?_ NB243_245.out _; (with_reducible repeat (first | refine z8 ?_ _ | refine z9 ?_ | refine z7 ?_ _)); exact BK243.out⟩, ⟨by (with_reducible repeat (first | refine z8 ?_ _ | refine z9 ?_ | refine z7 ?_ _)); refine zd (cs := #[.string ((rd_T84 l0_1 x30_2).f0), .slice A244_1 ((rd_T84 l0_1 x30_2).f1).length c244_1, .slice none 0 0]) ?_ 2 _ rfl; (with_reducible repeat (first | refine z8 ?_ _ | refine z9 ?_ | refine z7 ?_ _)); refine zd (cs := #[.string ((rd_T84 l0_1 x30_2).f0), .slice none 0 0, .slice none 0 0]) ?_ 1 _ rfl; (with_reducible repeat (first | refine z8 ?_ _ | refine z9 ?_ | refine z7 ?_ _)); refine zd (cs := #[.string (⟨#[]⟩ : ByteArray), .slice none 0 0, .slice none 0 0]) ?_ 0 _ rfl; (with_reducible repeat (first | refine z8 ?_ _ | refine z9 ?_ | refine z7 ?_ _)); exact BK245.out⟩, ⟨yt⟩⟩
         case rest =>
          clear HC12
          try clear c1
          try clear c2
          try clear p2
          try clear q2
          try clear hx2
          try clear c4
          try clear c4b0
          try clear c4b1
          try clear c7
          try clear c9
          try clear c9b0
          try clear c10
          try clear c10b0
          try clear c11
          try clear c11b0
          try clear c12
          try clear c14
          try clear c16
          try clear c16b0
          try clear c16b1
          try clear c17
          try clear c19
          try clear c19b0
          try clear c19b1
          try clear c20
          try clear c22
          try clear hcz15_0
          try clear hcz15_1
          try clear hcz15_2
          try clear hcz18_0
          try clear hcz18_1
          try clear hcz18_2
          try clear hcz21_0
          try clear hcz21_1
          try clear hcz21_2
          try clear hcz23_0
          try clear hcz23_1
          try clear hcz23_2
          try clear hcz5_0
          try clear hcz5_1
          try clear hcz6_0
          try clear hcz6_1
          try clear hcz8_0
          try clear hcz8_1
          try clear hfz15_0
          try clear hfz15_1
          try clear hfz15_2
          try clear hfz18_0
          try clear hfz18_1
          try clear hfz18_2
          try clear hfz21_0
          try clear hfz21_1
          try clear hfz21_2
          try clear hfz23_0
          try clear hfz23_1
          try clear hfz23_2
          try clear hfz5_0
          try clear hfz5_1
          try clear hfz6_0
          try clear hfz6_1
          try clear hfz8_0
          try clear hfz8_1
          try clear hx244_0
          try clear hx244_1
          try clear hx244_2
          try clear p2
          try clear p244
          try clear q244
          obtain ⟨kq, x49_11, rfl, HA, HJ11, BK243, BK245, HB⟩ := hcut
          cases kq with
          | zero => exact absurd HA.out (by simp [zz.j2])
          | succ kj11 =>
           have H := HA.out
           clear HA
           simp only [zz.j2] at H
           by_cases c24 : x49_11 = true
           ·subst c24
            have H1 : (some (([] : List Int), 12)) = some (r1, r2) := by rw [if_pos rfl] at H; exact H
            clear H
            have H := H1
            clear H1
            simp only [Option.some.injEq, Prod.mk.injEq] at H
            obtain ⟨rfl, rfl⟩ := H
            go_wp2
            go_ret2
            exact ⟨_, by first | rfl | (simp [zm, zl] <;> rfl) | (simp [*, zm, zl] <;> rfl), by first | exact Kd.R_nil _ _ _ _ _ | exact Kd.N_nil _ _ _ _ _ | exact Kd.V_nil _ _ _ _ _ | exact Kd.Q_nil _ _ _ _ _ | exact Kd.S_nil _ _ _ _ _, yt⟩
           ·replace c24 := Bool.eq_false_iff.mpr c24
            subst c24
            have H1 : (zz.l1 kj11 l0_1 (l0_1.length : Int) x30_2 ((rd_T84 l0_1 x30_2).f1) (((rd_T84 l0_1 x30_2).f1).length : Int) 0 a0_0 l0_1 ((rd_T84 l0_1 x30_2).f0) ((rd_T84 l0_1 x30_2).f1) ((rd_T84 l0_1 x30_2).f2)) = some (r1, r2) := by rw [if_neg (show ¬ (false = true) by decide)] at H; exact H
            clear H
            have H := H1
            clear H1
            have H' := z1o.mk H
            clear H
            have hnb25 := NB245_243.out
            have hnc25 := NB243_245.out
            obtain ⟨hcz26_0, hcz26_1, hcz26_2⟩ := cbk3 BK245.out
            obtain ⟨hfz26_0, hfz26_1, hfz26_2⟩ := cbf3 BK245.out
            go_wp2
            go_loopg [53] kj11 (fun kq v53 w' => ∃ (x53_4 : Int), v53 = .int .i64 x53_4 ∧ z1o (zz.l1 kq l0_1 (l0_1.length : Int) x30_2 ((rd_T84 l0_1 x30_2).f1) (((rd_T84 l0_1 x30_2).f1).length : Int) x53_4 a0_0 l0_1 ((rd_T84 l0_1 x30_2).f0) ((rd_T84 l0_1 x30_2).f1) ((rd_T84 l0_1 x30_2).f2) = some (r1, r2)) ∧ z1o (kq ≤ kj11) ∧ z1o (w'.heap[gb243]? = some (.cells #[.string a0_0, (.slice (some ad244) l0_1.length c0_1)] 31 (0, 0))) ∧ z1o (w'.heap[gb245]? = some (.cells #[.string ((rd_T84 l0_1 x30_2).f0), (.slice A244_1 ((rd_T84 l0_1 x30_2).f1).length c244_1), (.slice A244_2 ((rd_T84 l0_1 x30_2).f2).length c244_2)] 84 (0, 0))) ∧ z1o (Below w.heap.size w w'))
            case atStart => exact ⟨(0), (by first | rfl | (simp; done) | (simp [*]; done)), H', ⟨um _⟩, ⟨yc⟩, ⟨y2a⟩, ⟨yt⟩⟩
            case round =>
             clear H'
             try clear c1
             try clear c2
             try clear p2
             try clear q2
             try clear hx2
             try clear c4
             try clear c4b0
             try clear c4b1
             try clear c7
             try clear c9
             try clear c9b0
             try clear c10
             try clear c10b0
             try clear c11
             try clear c11b0
             try clear c12
             try clear c14
             try clear c16
             try clear c16b0
             try clear c16b1
             try clear c17
             try clear c19
             try clear c19b0
             try clear c19b1
             try clear c20
             try clear c22
             try clear c24
             try clear p24
             try clear q24
             try clear hx24
             try clear c25
             try clear hcz15_0
             try clear hcz15_1
             try clear hcz15_2
             try clear hcz18_0
             try clear hcz18_1
             try clear hcz18_2
             try clear hcz21_0
             try clear hcz21_1
             try clear hcz21_2
             try clear hcz23_0
             try clear hcz23_1
             try clear hcz23_2
             try clear hcz26_0
             try clear hcz26_1
             try clear hcz26_2
             try clear hcz5_0
             try clear hcz5_1
             try clear hcz6_0
             try clear hcz6_1
             try clear hcz8_0
             try clear hcz8_1
             try clear hfz15_0
             try clear hfz15_1
             try clear hfz15_2
             try clear hfz18_0
             try clear hfz18_1
             try clear hfz18_2
             try clear hfz21_0
             try clear hfz21_1
             try clear hfz21_2
             try clear hfz23_0
             try clear hfz23_1
             try clear hfz23_2
             try clear hfz26_0
             try clear hfz26_1
             try clear hfz26_2
             try clear hfz5_0
             try clear hfz5_1
             try clear hfz6_0
             try clear hfz6_1
             try clear hfz8_0
             try clear hfz8_1
             try clear hx244_0
             try clear hx244_1
             try clear hx244_2
             try clear p2
             try clear p244
             try clear q2
             try clear q244
             obtain ⟨x53_4, rfl, HA, HK4, BK243, BK245, HB⟩ := hrel
             cases gk with
             | zero => exact absurd HA.out (by simp [zz.l1])
             | succ k4 =>
              have H := HA.out
              clear HA
              simp only [zz.l1] at H
              by_cases c27 : x53_4 < (((rd_T84 l0_1 x30_2).f1).length : Int)
              ·rw [if_pos c27] at H
               have c27b0 : decide (x53_4 < (((rd_T84 l0_1 x30_2).f1).length : Int)) = true := decide_eq_true c27
               clear c27
               by_cases c28 : 0 ≤ x53_4
               ·rw [if_pos c28] at H
                have c28b0 : decide (0 ≤ x53_4) = true := decide_eq_true c28
                clear c28
                by_cases c29 : x53_4 < (((rd_T84 l0_1 x30_2).f1).length : Int)
                ·rw [if_pos c29] at H
                 have c29b0 : decide (x53_4 < (((rd_T84 l0_1 x30_2).f1).length : Int)) = true := decide_eq_true c29
                 clear c29
                 by_cases c30 : ((rdOf ByteArray.empty ((rd_T84 l0_1 x30_2).f1) x53_4).size : Int) > 65536
                 ·rw [if_pos c30] at H
                  have c30b0 : decide (65536 < ((rdOf ByteArray.empty ((rd_T84 l0_1 x30_2).f1) x53_4).size : Int)) = true := decide_eq_true c30
                  have c30b1 : decide (65536 < (rdOf ByteArray.empty ((rd_T84 l0_1 x30_2).f1) x53_4).size) = true := decide_eq_true (by omega)
                  clear c30
                  simp only [Option.some.injEq, Prod.mk.injEq] at H
                  obtain ⟨rfl, rfl⟩ := H
                  have p246 : 0 ≤ (x53_4 : Int) := of_decide_eq_true (by first | (with_reducible assumption) | assumption)
                  have q246 : x53_4 < (((rd_T84 l0_1 x30_2).f1).length : Int) := of_decide_eq_true (by first | (with_reducible assumption) | assumption)
                  obtain ⟨ad246, e246, hx246_0⟩ := Kd.at_string HR244_1.out x53_4 p246 q246
                  cases e246
                  replace hx246_0 := (HB.out.cell (ua w _ hx246_0)).trans hx246_0
                  replace p246 := eq_true p246
                  replace q246 := eq_true q246
                  go_wp2
                  go_ret2
                  exact ⟨_, by first | rfl | (simp [zm, zl] <;> rfl) | (simp [*, zm, zl] <;> rfl), by first | exact Kd.R_nil _ _ _ _ _ | exact Kd.N_nil _ _ _ _ _ | exact Kd.V_nil _ _ _ _ _ | exact Kd.Q_nil _ _ _ _ _ | exact Kd.S_nil _ _ _ _ _, yt⟩
                 ·rw [if_neg c30] at H
                  have c30b0 : decide (65536 < ((rdOf ByteArray.empty ((rd_T84 l0_1 x30_2).f1) x53_4).size : Int)) = false := decide_eq_false c30
                  have c30b1 : decide (65536 < (rdOf ByteArray.empty ((rd_T84 l0_1 x30_2).f1) x53_4).size) = false := decide_eq_false (by omega)
                  clear c30
                  have H' := z1o.mk H
                  clear H
                  have p246 : 0 ≤ (x53_4 : Int) := of_decide_eq_true (by first | (with_reducible assumption) | assumption)
                  have q246 : x53_4 < (((rd_T84 l0_1 x30_2).f1).length : Int) := of_decide_eq_true (by first | (with_reducible assumption) | assumption)
                  obtain ⟨ad246, e246, hx246_0⟩ := Kd.at_string HR244_1.out x53_4 p246 q246
                  cases e246
                  replace hx246_0 := (HB.out.cell (ua w _ hx246_0)).trans hx246_0
                  replace p246 := eq_true p246
                  replace q246 := eq_true q246
                  go_wp2
                  go_roundg k4
                  case measure => have := HJ1.out; have := HK2.out; have := HJ11.out; have := HK4.out; omega
                  case rel => exact ⟨(wrap64 (x53_4 + 1)), (by first | rfl | (simp; done) | (simp [*]; done)), H', ⟨by have := HJ1.out; have := HK2.out; have := HJ11.out; have := HK4.out; omega⟩, ⟨yc⟩, ⟨y2a⟩, ⟨yt⟩⟩
                ·rw [if_neg c29] at H
                 exact absurd H (by simp)
               ·rw [if_neg c28] at H
                exact absurd H (by simp)
              ·rw [if_neg c27] at H
               have c27b0 : decide (x53_4 < (((rd_T84 l0_1 x30_2).f1).length : Int)) = false := decide_eq_false c27
               clear c27
               have H' := z1o.mk H
               clear H
               have hnb31 := NB245_243.out
               have hnc31 := NB243_245.out
               obtain ⟨hcz32_0, hcz32_1, hcz32_2⟩ := cbk3 BK245.out
               obtain ⟨hfz32_0, hfz32_1, hfz32_2⟩ := cbf3 BK245.out
               go_wp2
               go_loopg [64] k4 (fun kq v64 w' => ∃ (x64_5 : Int), v64 = .int .i64 x64_5 ∧ z1o (zz.l2 kq l0_1 (l0_1.length : Int) x30_2 ((rd_T84 l0_1 x30_2).f2) (((rd_T84 l0_1 x30_2).f2).length : Int) x64_5 a0_0 l0_1 = some (r1, r2)) ∧ z1o (kq ≤ k4) ∧ z1o (w'.heap[gb243]? = some (.cells #[.string a0_0, (.slice (some ad244) l0_1.length c0_1)] 31 (0, 0))) ∧ z1o (w'.heap[gb245]? = some (.cells #[.string ((rd_T84 l0_1 x30_2).f0), (.slice A244_1 ((rd_T84 l0_1 x30_2).f1).length c244_1), (.slice A244_2 ((rd_T84 l0_1 x30_2).f2).length c244_2)] 84 (0, 0))) ∧ z1o (Below w.heap.size w w'))
               case atStart => exact ⟨(0), (by first | rfl | (simp; done) | (simp [*]; done)), H', ⟨um _⟩, ⟨yc⟩, ⟨y2a⟩, ⟨yt⟩⟩
               case round =>
                clear H'
                try clear c1
                try clear c2
                try clear p2
                try clear q2
                try clear hx2
                try clear c3
                try clear c4
                try clear c4b0
                try clear c4b1
                try clear p6
                try clear c7
                try clear c9
                try clear c9b0
                try clear c10
                try clear c10b0
                try clear c11
                try clear c11b0
                try clear c12
                try clear c14
                try clear c16
                try clear c16b0
                try clear c16b1
                try clear c17
                try clear c19
                try clear c19b0
                try clear c19b1
                try clear c20
                try clear c22
                try clear c24
                try clear p24
                try clear q24
                try clear hx24
                try clear c25
                try clear c27
                try clear c27b0
                try clear c28
                try clear c28b0
                try clear c29
                try clear c29b0
                try clear c30
                try clear c30b0
                try clear c30b1
                try clear c31
                try clear hcz15_0
                try clear hcz15_1
                try clear hcz15_2
                try clear hcz18_0
                try clear hcz18_1
                try clear hcz18_2
                try clear hcz21_0
                try clear hcz21_1
                try clear hcz21_2
                try clear hcz23_0
                try clear hcz23_1
                try clear hcz23_2
                try clear hcz26_0
                try clear hcz26_1
                try clear hcz26_2
                try clear hcz32_0
                try clear hcz32_1
                try clear hcz32_2
                try clear hcz5_0
                try clear hcz5_1
                try clear hcz6_0
                try clear hcz6_1
                try clear hcz8_0
                try clear hcz8_1
                try clear hfz15_0
                try clear hfz15_1
                try clear hfz15_2
                try clear hfz18_0
                try clear hfz18_1
                try clear hfz18_2
                try clear hfz21_0
                try clear hfz21_1
                try clear hfz21_2
                try clear hfz23_0
                try clear hfz23_1
                try clear hfz23_2
                try clear hfz26_0
                try clear hfz26_1
                try clear hfz26_2
                try clear hfz32_0
                try clear hfz32_1
                try clear hfz32_2
                try clear hfz5_0
                try clear hfz5_1
                try clear hfz6_0
                try clear hfz6_1
                try clear hfz8_0
                try clear hfz8_1
                try clear hx244_0
                try clear hx244_1
                try clear hx244_2
                try clear hx246_0
                try clear p2
                try clear p24
                try clear p244
                try clear p246
                try clear q2
                try clear q24
                try clear q244
                try clear q246
                obtain ⟨x64_5, rfl, HA, HK5, BK243, BK245, HB⟩ := hrel
                cases gk with
                | zero => exact absurd HA.out (by simp [zz.l2])
                | succ k5 =>
                 have H := HA.out
                 clear HA
                 simp only [zz.l2] at H
                 by_cases c33 : x64_5 < (((rd_T84 l0_1 x30_2).f2).length : Int)
                 ·rw [if_pos c33] at H
                  have c33b0 : decide (x64_5 < (((rd_T84 l0_1 x30_2).f2).length : Int)) = true := decide_eq_true c33
                  clear c33
                  by_cases c34 : 0 ≤ x64_5
                  ·rw [if_pos c34] at H
                   have c34b0 : decide (0 ≤ x64_5) = true := decide_eq_true c34
                   clear c34
                   by_cases c35 : x64_5 < (((rd_T84 l0_1 x30_2).f2).length : Int)
                   ·rw [if_pos c35] at H
                    have c35b0 : decide (x64_5 < (((rd_T84 l0_1 x30_2).f2).length : Int)) = true := decide_eq_true c35
                    clear c35
                    replace H := ue.mp H
                    obtain ⟨t248, A360, H⟩ := H
                    replace H : (if t248 = true then (zz.l2 k5 l0_1 (l0_1.length : Int) x30_2 ((rd_T84 l0_1 x30_2).f2) (((rd_T84 l0_1 x30_2).f2).length : Int) (wrap64 (x64_5 + 1)) a0_0 l0_1) else (some (([] : List Int), 12))) = some (r1, r2) := H
                    have A36 := z1o.mk A360
                    clear A360
                    by_cases c37 : t248 = true
                    ·subst c37
                     have H1 : (zz.l2 k5 l0_1 (l0_1.length : Int) x30_2 ((rd_T84 l0_1 x30_2).f2) (((rd_T84 l0_1 x30_2).f2).length : Int) (wrap64 (x64_5 + 1)) a0_0 l0_1) = some (r1, r2) := by rw [if_pos rfl] at H; exact H
                     clear H
                     have H := H1
                     clear H1
                     have H' := z1o.mk H
                     clear H
                     have p247 : 0 ≤ (x64_5 : Int) := of_decide_eq_true (by first | (with_reducible assumption) | assumption)
                     have q247 : x64_5 < (((rd_T84 l0_1 x30_2).f2).length : Int) := of_decide_eq_true (by first | (with_reducible assumption) | assumption)
                     obtain ⟨ad247, e247, hx247_0⟩ := Kd.at_int HR244_2.out x64_5 p247 q247
                     cases e247
                     replace hx247_0 := (HB.out.cell (ua w _ hx247_0)).trans hx247_0
                     replace p247 := eq_true p247
                     replace q247 := eq_true q247
                     go_wp2_with (first | ((with_reducible refine zp (f := 52) rfl ?_); refine goesL_ (some 69) rfl rfl Try.func52 (by kernel_rfl) rfl #[.int .i64 (rd ((rd_T84 l0_1 x30_2).f2) x64_5), .int .i64 (-1000000000000), .int .i64 1000000000000] rfl (by (try simp only [uh, ui, uj]); first | done | rfl | (simp only [uf, ug]; rfl)) ?_; (with_reducible refine (impl_within.calls (rd ((rd_T84 l0_1 x30_2).f2) x64_5) (-1000000000000) 1000000000000 true _ A36.out).mono ?_); rintro e w' ⟨rfl, ⟨nd, rfl⟩⟩; refine ⟨_, rfl, ?_⟩))
                     go_roundg k5
                     case measure => have := HJ1.out; have := HK2.out; have := HJ11.out; have := HK4.out; have := HK5.out; omega
                     case rel => exact ⟨(wrap64 (x64_5 + 1)), (by first | rfl | (simp; done) | (simp [*]; done)), H', ⟨by have := HJ1.out; have := HK2.out; have := HJ11.out; have := HK4.out; have := HK5.out; omega⟩, ⟨yc⟩, ⟨y2a⟩, ⟨yt⟩⟩
                    ·replace c37 := Bool.eq_false_iff.mpr c37
                     subst c37
                     have H1 : (some (([] : List Int), 12)) = some (r1, r2) := by rw [if_neg (show ¬ (false = true) by decide)] at H; exact H
                     clear H
                     have H := H1
                     clear H1
                     simp only [Option.some.injEq, Prod.mk.injEq] at H
                     obtain ⟨rfl, rfl⟩ := H
                     have p247 : 0 ≤ (x64_5 : Int) := of_decide_eq_true (by first | (with_reducible assumption) | assumption)
                     have q247 : x64_5 < (((rd_T84 l0_1 x30_2).f2).length : Int) := of_decide_eq_true (by first | (with_reducible assumption) | assumption)
                     obtain ⟨ad247, e247, hx247_0⟩ := Kd.at_int HR244_2.out x64_5 p247 q247
                     cases e247
                     replace hx247_0 := (HB.out.cell (ua w _ hx247_0)).trans hx247_0
                     replace p247 := eq_true p247
                     replace q247 := eq_true q247
                     go_wp2_with (first | ((with_reducible refine zp (f := 52) rfl ?_); refine goesL_ (some 69) rfl rfl Try.func52 (by kernel_rfl) rfl #[.int .i64 (rd ((rd_T84 l0_1 x30_2).f2) x64_5), .int .i64 (-1000000000000), .int .i64 1000000000000] rfl (by (try simp only [uh, ui, uj]); first | done | rfl | (simp only [uf, ug]; rfl)) ?_; (with_reducible refine (impl_within.calls (rd ((rd_T84 l0_1 x30_2).f2) x64_5) (-1000000000000) 1000000000000 false _ A36.out).mono ?_); rintro e w' ⟨rfl, ⟨nd, rfl⟩⟩; refine ⟨_, rfl, ?_⟩))
                     go_ret2
                     exact ⟨_, by first | rfl | (simp [zm, zl] <;> rfl) | (simp [*, zm, zl] <;> rfl), by first | exact Kd.R_nil _ _ _ _ _ | exact Kd.N_nil _ _ _ _ _ | exact Kd.V_nil _ _ _ _ _ | exact Kd.Q_nil _ _ _ _ _ | exact Kd.S_nil _ _ _ _ _, yt⟩
                   ·rw [if_neg c35] at H
                    exact absurd H (by simp)
                  ·rw [if_neg c34] at H
                   exact absurd H (by simp)
                 ·rw [if_neg c33] at H
                  have c33b0 : decide (x64_5 < (((rd_T84 l0_1 x30_2).f2).length : Int)) = false := decide_eq_false c33
                  clear c33
                  have H' := z1o.mk H
                  clear H
                  go_wp2
                  go_roundg k5
                  case measure => have := HJ1.out; have := HK2.out; have := HJ11.out; have := HK4.out; have := HK5.out; omega
                  case rel => exact ⟨(wrap64 (x30_2 + 1)), (by first | rfl | (simp; done) | (simp [*]; done)), H', ⟨by have := HJ1.out; have := HK2.out; have := HJ11.out; have := HK4.out; have := HK5.out; omega⟩, ⟨yc⟩, ⟨yt⟩⟩
        ·rw [if_neg c11] at H
         exact absurd H (by simp)
       ·rw [if_neg c10] at H
        exact absurd H (by simp)
      ·rw [if_neg c9] at H
       have c9b0 : decide (x30_2 < (l0_1.length : Int)) = false := decide_eq_false c9
       clear c9
       replace H := ue.mp H
       obtain ⟨t249, A380, H⟩ := H
       replace H : ((z1f.f k2 t249 (l0_1.length : Int)).bind fun t252 => (zz.l3 k2 t252 l0_1 (l0_1.length : Int) 0)) = some (r1, r2) := H
       have A38 := z1o.mk A380
       clear A380
       replace H := ue.mp H
       obtain ⟨t252, A390, H⟩ := H
       replace H : (zz.l3 k2 t252 l0_1 (l0_1.length : Int) 0) = some (r1, r2) := H
       have A39 := z1o.mk A390
       clear A390
       have H' := z1o.mk H
       clear H
       try go_wp2
       have n0_ := z1o.mk (z9 BK243.out)
       have n1_ := z1o.mk (z3 HB.out)
       clear BK243
       clear HB
       have BK243 := n0_
       have HB := n1_
       clear n0_ n1_
       refine start_ (n := 8) (S := fun w' => w'.cell? ⟨gb243, 0, none⟩ = some (.string a0_0) ∧ w'.cell? ⟨gb243, 1, none⟩ = some (.slice A0_1 l0_1.length c0_1)) (ds := []) #[false, false, false, false, false, false, false, false] (by kernel_rfl) rfl rfl ⟨(z6 BK243.out 0).trans rfl, (z6 BK243.out 1).trans rfl⟩ (fun hHeld => ?_); refine with_tabW zz.tab21 zz.bits21 (fun HT_ HW_ => ?_)
       generalize wr.drew = w40 at BK243 HB hHeld ⊢
       refine pure_ (i := 0) (N := some 73) (v := ?_) (a' := ?_) #[true, false, false, false, false, false, false, false] rfl rfl (any_of HT_.out (by kernel_rfl)) (fun _ _ _ h => h) (Or.inl ⟨by rfl, ?_⟩) ?_ ?_
       rotate_left
       ·intro w'
        go_simp
        with_reducible rfl
       rotate_left
       ·simp only [Act.put, ub, uc, ud, zn, zo]
        rfl
       refine pure_ (i := 3) (N := some 76) (v := ?_) (a' := ?_) #[true, false, false, true, false, false, false, false] rfl rfl (any_of HT_.out (by kernel_rfl)) (fun _ _ _ h => h) (Or.inl ⟨by rfl, ?_⟩) ?_ ?_
       rotate_left
       ·intro w'
        go_simp
        with_reducible rfl
       rotate_left
       ·simp only [Act.put, ub, uc, ud, zn, zo]
        rfl
       refine take_ (i := 1) (N := some 74) (v := ?_) (a' := ?_) #[true, true, false, true, false, false, false, false] rfl rfl (take_ofW HT_.out HW_.out (by kernel_rfl)) (fun _ _ _ h => h) (Or.inl ⟨by rfl, ?_⟩) hHeld ?_ ?_
       rotate_left
       ·rintro w' ⟨s0, s1⟩
        go_simp
        with_reducible rfl
       rotate_left
       ·simp only [Act.put, ub, uc, ud, zn, zo]
        rfl
       refine take_ (i := 4) (N := some 77) (v := ?_) (a' := ?_) #[true, true, false, true, true, false, false, false] rfl rfl (take_ofW HT_.out HW_.out (by kernel_rfl)) (fun _ _ _ h => h) (Or.inl ⟨by rfl, ?_⟩) hHeld ?_ ?_
       rotate_left
       ·rintro w' ⟨s0, s1⟩
        go_simp
        with_reducible rfl
       rotate_left
       ·simp only [Act.put, ub, uc, ud, zn, zo]
        rfl
       refine pure_ (i := 5) (N := some 78) (v := ?_) (a' := ?_) #[true, true, false, true, true, true, false, false] rfl rfl (any_of HT_.out (by kernel_rfl)) (fun _ _ _ h => h) (Or.inl ⟨by rfl, ?_⟩) ?_ ?_
       rotate_left
       ·intro w'
        go_simp
        with_reducible rfl
       rotate_left
       ·simp only [Act.put, ub, uc, ud, zn, zo]
        rfl
       refine one_ (i := 2) (N := some 75) #[true, true, true, true, true, true, false, false] rfl rfl (one_of HT_.out (by kernel_rfl)) (by decide) (fun K hK => ?_)
       refine goes_ Try.func54 (by kernel_rfl) rfl #[.slice none 0 0, .string a0_0] (by rfl) rfl rfl (by (try simp only [uh, ui, uj]); first | done | rfl | (simp only [uf, ug]; rfl)) ?_
       refine (impl_putText.calls k2 (fun k_ => some k_ = (.slice none 0 0 : Value).ownBlock) (.slice none 0 0) ([] : List Int) a0_0 t249 w _ ?side1 ?side2 A38.out).mono ?_
       (case side1 => exact yp)
       (case side2 => exact Kd.R_nil _ _ _ _ _)
       rintro e w41 ⟨v250, rfl, ho0, hb, hkp⟩
       refine ⟨_, rfl, ?_⟩
       have n0_ := z1o.mk (blk_kept yc hkp (fun hs_ => (fun e_ => by simp [Value.ownBlock] at e_) hs_))
       have n1_ := z1o.mk (Kd.R_mono (ok' := fun k_ => True) ho0 (fun k_ hk_ => trivial))
       have n2_ := z1o.mk (hb)
       clear BK243
       clear HB
       have BK243 := n0_
       have HO251 := n1_
       have HB := n2_
       clear n0_ n1_ n2_
       (try clear hb)
       (try clear hkp)
       (try clear ho0)
       obtain ⟨Ao42, co42, eo42⟩ := Kd.R_slice HO251.out
       (first | subst eo42 | (injection eo42 with f1_ f2_ f3_; have f4_ := f1_.symm; have f5_ := f3_.symm; clear f1_ f2_ f3_; subst f4_; subst f5_))
       refine hK.out _ _ ⟨(z6 BK243.out 0).trans rfl, (z6 BK243.out 1).trans rfl⟩ (fun hHeld => ?_)
       clear hK K
       refine norm_ (a' := ?_) ?_ ?_
       rotate_left
       ·show Act.put _ (some 75) _ = _
        simp only [Act.put, ub, uc, ud, zn, zo]
        rfl
       refine one_ (i := 6) (N := some 79) #[true, true, true, true, true, true, true, false] rfl rfl (one_of HT_.out (by kernel_rfl)) (by decide) (fun K hK => ?_)
       refine goes_ Try.func53 (by kernel_rfl) rfl #[.slice Ao42 t249.length co42, .int .i64 (l0_1.length : Int)] (by rfl) rfl rfl (by (try simp only [uh, ui, uj]); first | done | rfl | (simp only [uf, ug]; rfl)) ?_
       with_reducible refine (z1f.calls k2 (fun k_ => some k_ = (.slice Ao42 t249.length co42 : Value).ownBlock) (.slice Ao42 t249.length co42) t249 (l0_1.length : Int) t252 w _ ?side1 ?side2 A39.out).mono ?_
       (case side1 => exact yp)
       (case side2 => exact Kd.R_tight rfl HO251.out)
       rintro e w43 ⟨v253, rfl, ho0, hb, hkp⟩
       refine ⟨_, rfl, ?_⟩
       have n0_ := z1o.mk (blk_kept yc hkp (fun hs_ => (fun e_ => (Kd.R_ne HO251.out BK243.out (by decide)) e_) hs_))
       have n1_ := z1o.mk (Kd.R_mono (ok' := fun k_ => True) ho0 (fun k_ hk_ => trivial))
       have n2_ := z1o.mk (hb)
       clear BK243
       clear HB
       clear HO251
       have BK243 := n0_
       have HO254 := n1_
       have HB := n2_
       clear n0_ n1_ n2_
       (try clear hb)
       (try clear hkp)
       (try clear ho0)
       refine hK.out _ _ ⟨(z6 BK243.out 0).trans rfl, (z6 BK243.out 1).trans rfl⟩ (fun hHeld => ?_)
       clear hK K
       refine norm_ (a' := ?_) ?_ ?_
       rotate_left
       ·show Act.put _ (some 79) _ = _
        simp only [Act.put, ub, uc, ud, zn, zo]
        rfl
       refine pure_ (i := 7) (N := some 10) (v := ?_) (a' := ?_) #[true, true, true, true, true, true, true, true] rfl rfl (any_of HT_.out (by kernel_rfl)) (fun _ _ _ h => h) (Or.inl ⟨by rfl, ?_⟩) ?_ ?_
       rotate_left
       ·intro w'
        go_simp
        with_reducible rfl
       rotate_left
       ·simp only [Act.put, ub, uc, ud, zn, zo]
        rfl
       refine done_ (done_of HT_.out (by kernel_rfl)) ?_
       obtain ⟨hcz44_0, hcz44_1⟩ := cbk2 BK243.out
       obtain ⟨hfz44_0, hfz44_1⟩ := cbf2 BK243.out
       try go_wp2
       go_loopg [10, 83] k2 (fun kq v10 v83 w' => ∃ (x10_3 : List Int) (x83_3 : Int), v83 = .int .i64 x83_3 ∧ z1o (zz.l3 kq x10_3 l0_1 (l0_1.length : Int) x83_3 = some (r1, r2)) ∧ z1o (kq ≤ k2) ∧ z1o (Kd.R (Kd.int .u8) 5 w' w.heap.size (fun _ => True) v10 x10_3) ∧ z1o (w'.heap[gb243]? = some (.cells #[.string a0_0, (.slice A0_1 l0_1.length c0_1)] 31 (0, 0))) ∧ z1o (Below w.heap.size w w'))
       case atStart => exact ⟨(t252), (0), (by first | rfl | (simp; done) | (simp [*]; done)), H', ⟨um _⟩, ⟨by (with_reducible repeat (first | apply Kd.R_alloc | apply Kd.R_drewN | apply Kd.R_drew)); exact HO254.out⟩, ⟨yc⟩, ⟨yp⟩⟩
       case round =>
        clear H'
        try clear c1
        try clear c2
        try clear p2
        try clear q2
        try clear hx2
        try clear c3
        try clear c4
        try clear c4b0
        try clear c4b1
        try clear c5
        try clear p6
        try clear c7
        try clear c9
        try clear c9b0
        try clear c10
        try clear c10b0
        try clear c11
        try clear c11b0
        try clear c12
        try clear c14
        try clear c16
        try clear c16b0
        try clear c16b1
        try clear c17
        try clear c19
        try clear c19b0
        try clear c19b1
        try clear c20
        try clear c22
        try clear c24
        try clear p24
        try clear q24
        try clear hx24
        try clear c25
        try clear c27
        try clear c27b0
        try clear c28
        try clear c28b0
        try clear c29
        try clear c29b0
        try clear c30
        try clear c30b0
        try clear c30b1
        try clear c31
        try clear c33
        try clear c33b0
        try clear c34
        try clear c34b0
        try clear c35
        try clear c35b0
        try clear c37
        try clear hcz15_0
        try clear hcz15_1
        try clear hcz15_2
        try clear hcz18_0
        try clear hcz18_1
        try clear hcz18_2
        try clear hcz21_0
        try clear hcz21_1
        try clear hcz21_2
        try clear hcz23_0
        try clear hcz23_1
        try clear hcz23_2
        try clear hcz26_0
        try clear hcz26_1
        try clear hcz26_2
        try clear hcz32_0
        try clear hcz32_1
        try clear hcz32_2
        try clear hcz44_0
        try clear hcz44_1
        try clear hcz5_0
        try clear hcz5_1
        try clear hcz6_0
        try clear hcz6_1
        try clear hcz8_0
        try clear hcz8_1
        try clear hfz15_0
        try clear hfz15_1
        try clear hfz15_2
        try clear hfz18_0
        try clear hfz18_1
        try clear hfz18_2
        try clear hfz21_0
        try clear hfz21_1
        try clear hfz21_2
        try clear hfz23_0
        try clear hfz23_1
        try clear hfz23_2
        try clear hfz26_0
        try clear hfz26_1
        try clear hfz26_2
        try clear hfz32_0
        try clear hfz32_1
        try clear hfz32_2
        try clear hfz44_0
        try clear hfz44_1
        try clear hfz5_0
        try clear hfz5_1
        try clear hfz6_0
        try clear hfz6_1
        try clear hfz8_0
        try clear hfz8_1
        try clear hx244_0
        try clear hx244_1
        try clear hx244_2
        try clear hx246_0
        try clear hx247_0
        try clear p2
        try clear p24
        try clear p244
        try clear p246
        try clear p247
        try clear p6
        try clear q2
        try clear q24
        try clear q244
        try clear q246
        try clear q247
        obtain ⟨x10_3, x83_3, rfl, HA, HK3, HO_10, BK243, HB⟩ := hrel
        cases gk with
        | zero => exact absurd HA.out (by simp [zz.l3])
        | succ k3 =>
         have H := HA.out
         clear HA
         simp only [zz.l3] at H
         by_cases c45 : x83_3 < (l0_1.length : Int)
         ·rw [if_pos c45] at H
          have c45b0 : decide (x83_3 < (l0_1.length : Int)) = true := decide_eq_true c45
          clear c45
          by_cases c46 : 0 ≤ x83_3
          ·rw [if_pos c46] at H
           have c46b0 : decide (0 ≤ x83_3) = true := decide_eq_true c46
           clear c46
           by_cases c47 : x83_3 < (l0_1.length : Int)
           ·rw [if_pos c47] at H
            have c47b0 : decide (x83_3 < (l0_1.length : Int)) = true := decide_eq_true c47
            clear c47
            replace H := ue.mp H
            obtain ⟨t257, A480, H⟩ := H
            replace H : ((z1f.f k3 t257 (((rd_T84 l0_1 x83_3).f1).length : Int)).bind fun t260 => (zz.l4 k3 t260 l0_1 (l0_1.length : Int) x83_3 ((rd_T84 l0_1 x83_3).f1) (((rd_T84 l0_1 x83_3).f1).length : Int) 0 ((rd_T84 l0_1 x83_3).f0) ((rd_T84 l0_1 x83_3).f1) ((rd_T84 l0_1 x83_3).f2))) = some (r1, r2) := H
            have A48 := z1o.mk A480
            clear A480
            replace H := ue.mp H
            obtain ⟨t260, A490, H⟩ := H
            replace H : (zz.l4 k3 t260 l0_1 (l0_1.length : Int) x83_3 ((rd_T84 l0_1 x83_3).f1) (((rd_T84 l0_1 x83_3).f1).length : Int) 0 ((rd_T84 l0_1 x83_3).f0) ((rd_T84 l0_1 x83_3).f1) ((rd_T84 l0_1 x83_3).f2)) = some (r1, r2) := H
            have A49 := z1o.mk A490
            clear A490
            have H' := z1o.mk H
            clear H
            have p255 : 0 ≤ (x83_3 : Int) := of_decide_eq_true (by first | (with_reducible assumption) | assumption)
            have q255 : x83_3 < (l0_1.length : Int) := of_decide_eq_true (by first | (with_reducible assumption) | assumption)
            obtain ⟨ad255, A255_1, c255_1, A255_2, c255_2, e255, hx255_0, hx255_1, hx255_2, hl255_1, hi255_1, hl255_2, hi255_2⟩ := at_T84 HR0_1.out x83_3 p255 q255
            have HW255_1 := z1o.mk hx255_1
            have HW255_2 := z1o.mk hx255_2
            cases e255
            replace hx255_0 := (HB.out.cell (ua w _ hx255_0)).trans hx255_0
            replace hx255_1 := (HB.out.cell (ua w _ hx255_1)).trans hx255_1
            replace hx255_2 := (HB.out.cell (ua w _ hx255_2)).trans hx255_2
            have HR255_1 := z1o.mk hi255_1
            have HC255_1 := z1o.mk hl255_1
            clear hi255_1 hl255_1
            have HR255_2 := z1o.mk hi255_2
            have HC255_2 := z1o.mk hl255_2
            clear hi255_2 hl255_2
            replace p255 := eq_true p255
            replace q255 := eq_true q255
            try go_wp2_with (first | ((with_reducible refine zq (N := 12) rfl ?_); (try (refine zu (by rfl) ?_; dsimp only)); refine zv ?hg (N := 12) ?hd (cs := #[.string (⟨#[]⟩ : ByteArray), .slice none 0 0, .slice none 0 0]) (t := 84) ?hr ?_; (case hd => rfl); (case hg => rfl); (case hr => first | (go_simp; done) | (go_simp; rfl)); intro gb256 hg w50 hbox hb; have n0_ := z1o.mk (Kd.R_below y2k hb); have n1_ := z1o.mk (zb (g := gb243) (o := .cells #[.string a0_0, .slice (some ad255) l0_1.length c0_1] 31 (0, 0)) yc hb); have n2_ := z1o.mk (za yp hb); have n3_ := z1o.mk (hbox); have n4_ := z1o.mk ((by rw [hg]; exact (zc yp) : w.heap.size ≤ gb256)); have n5_ := z1o.mk ((by rw [hg]; exact (zc yp) : w.heap.size ≤ gb256)); have n6_ := z1o.mk ((by rw [hg]; exact Nat.ne_of_lt (zg (g := gb243) (o := .cells #[.string a0_0, .slice (some ad255) l0_1.length c0_1] 31 (0, 0)) yc) : gb243 ≠ gb256)); have n7_ := z1o.mk ((by rw [hg]; exact Nat.ne_of_gt (zg (g := gb243) (o := .cells #[.string a0_0, .slice (some ad255) l0_1.length c0_1] 31 (0, 0)) yc) : gb256 ≠ gb243)); clear HO_10; clear BK243; clear HB; have HO_10 := n0_; have BK243 := n1_; have HB := n2_; have BK256 := n3_; have GW256 := n4_; have GE256 := n5_; have NB243_256 := n6_; have NB256_243 := n7_; clear n0_ n1_ n2_ n3_ n4_ n5_ n6_ n7_; clear hb hbox hg; have hnb51 := NB256_243.out; have hnc51 := NB243_256.out; obtain ⟨hcz52_0, hcz52_1, hcz52_2⟩ := cbk3 BK256.out; obtain ⟨hfz52_0, hfz52_1, hfz52_2⟩ := cbf3 BK256.out))
            have n0_ : z1o (Kd.R (Kd.int .u8) 5 (((w50.setCell ⟨gb256, 0, none⟩ (.string ((rd_T84 l0_1 x83_3).f0))).setCell ⟨gb256, 1, none⟩ (.slice A255_1 ((rd_T84 l0_1 x83_3).f1).length c255_1)).setCell ⟨gb256, 2, none⟩ (.slice A255_2 ((rd_T84 l0_1 x83_3).f2).length c255_2)) w.heap.size (fun _ => True) u10 x10_3) := ⟨by (with_reducible repeat (first | apply Kd.R_alloc | apply Kd.R_drewN | apply Kd.R_drew)); exact Kd.R_mono (Kd.R_far (p := ⟨gb256, 2, none⟩) (Kd.R_far (p := ⟨gb256, 1, none⟩) (Kd.R_far (p := ⟨gb256, 0, none⟩) (Kd.R_types HO_10.out BK256.out (by decide)) (fun _ hk => hk.2) (.string ((rd_T84 l0_1 x83_3).f0))) (fun _ hk => hk.2) (.slice A255_1 ((rd_T84 l0_1 x83_3).f1).length c255_1)) (fun _ hk => hk.2) (.slice A255_2 ((rd_T84 l0_1 x83_3).f2).length c255_2)) (fun _ hk => trivial)⟩
            have n1_ : z1o ((((w50.setCell ⟨gb256, 0, none⟩ (.string ((rd_T84 l0_1 x83_3).f0))).setCell ⟨gb256, 1, none⟩ (.slice A255_1 ((rd_T84 l0_1 x83_3).f1).length c255_1)).setCell ⟨gb256, 2, none⟩ (.slice A255_2 ((rd_T84 l0_1 x83_3).f2).length c255_2)).heap[gb243]? = some (.cells #[.string a0_0, .slice (some ad255) l0_1.length c0_1] 31 (0, 0))) := ⟨by (with_reducible repeat (first | refine z8 ?_ _ | refine z9 ?_ | refine z7 ?_ _)); refine ze ?_ NB243_256.out _; (with_reducible repeat (first | refine z8 ?_ _ | refine z9 ?_ | refine z7 ?_ _)); refine ze ?_ NB243_256.out _; (with_reducible repeat (first | refine z8 ?_ _ | refine z9 ?_ | refine z7 ?_ _)); refine ze ?_ NB243_256.out _; (with_reducible repeat (first | refine z8 ?_ _ | refine z9 ?_ | refine z7 ?_ _)); exact BK243.out⟩
            have n2_ : z1o ((((w50.setCell ⟨gb256, 0, none⟩ (.string ((rd_T84 l0_1 x83_3).f0))).setCell ⟨gb256, 1, none⟩ (.slice A255_1 ((rd_T84 l0_1 x83_3).f1).length c255_1)).setCell ⟨gb256, 2, none⟩ (.slice A255_2 ((rd_T84 l0_1 x83_3).f2).length c255_2)).heap[gb256]? = some (.cells #[.string ((rd_T84 l0_1 x83_3).f0), .slice A255_1 ((rd_T84 l0_1 x83_3).f1).length c255_1, .slice A255_2 ((rd_T84 l0_1 x83_3).f2).length c255_2] 84 (0, 0))) := ⟨by (with_reducible repeat (first | refine z8 ?_ _ | refine z9 ?_ | refine z7 ?_ _)); refine zd (cs := #[.string ((rd_T84 l0_1 x83_3).f0), .slice A255_1 ((rd_T84 l0_1 x83_3).f1).length c255_1, .slice none 0 0]) ?_ 2 _ rfl; (with_reducible repeat (first | refine z8 ?_ _ | refine z9 ?_ | refine z7 ?_ _)); refine zd (cs := #[.string ((rd_T84 l0_1 x83_3).f0), .slice none 0 0, .slice none 0 0]) ?_ 1 _ rfl; (with_reducible repeat (first | refine z8 ?_ _ | refine z9 ?_ | refine z7 ?_ _)); refine zd (cs := #[.string (⟨#[]⟩ : ByteArray), .slice none 0 0, .slice none 0 0]) ?_ 0 _ rfl; (with_reducible repeat (first | refine z8 ?_ _ | refine z9 ?_ | refine z7 ?_ _)); exact BK256.out⟩
            have n3_ : z1o (Below w.heap.size w (((w50.setCell ⟨gb256, 0, none⟩ (.string ((rd_T84 l0_1 x83_3).f0))).setCell ⟨gb256, 1, none⟩ (.slice A255_1 ((rd_T84 l0_1 x83_3).f1).length c255_1)).setCell ⟨gb256, 2, none⟩ (.slice A255_2 ((rd_T84 l0_1 x83_3).f2).length c255_2))) := ⟨yi⟩
            (try clear HO_10)
            (try clear BK243)
            (try clear BK256)
            (try clear HB)
            generalize (((w50.setCell ⟨gb256, 0, none⟩ (.string ((rd_T84 l0_1 x83_3).f0))).setCell ⟨gb256, 1, none⟩ (.slice A255_1 ((rd_T84 l0_1 x83_3).f1).length c255_1)).setCell ⟨gb256, 2, none⟩ (.slice A255_2 ((rd_T84 l0_1 x83_3).f2).length c255_2)) = w53 at n0_ n1_ n2_ n3_ ⊢
            have HO_10 := n0_
            have BK243 := n1_
            have BK256 := n2_
            have HB := n3_
            clear n0_ n1_ n2_ n3_
            have n0_ := z1o.mk (Kd.R_drew HO_10.out)
            have n1_ := z1o.mk (z9 BK243.out)
            have n2_ := z1o.mk (z9 BK256.out)
            have n3_ := z1o.mk (z3 HB.out)
            clear HO_10
            clear BK243
            clear BK256
            clear HB
            have HO_10 := n0_
            have BK243 := n1_
            have BK256 := n2_
            have HB := n3_
            clear n0_ n1_ n2_ n3_
            obtain ⟨Ao55, co55, eo55⟩ := Kd.R_slice HO_10.out
            (first | subst eo55 | (injection eo55 with f1_ f2_ f3_; have f4_ := f1_.symm; have f5_ := f3_.symm; clear f1_ f2_ f3_; subst f4_; subst f5_))
            refine start_ (n := 9) (S := fun w' => w'.cell? ⟨gb256, 0, none⟩ = some (.string ((rd_T84 l0_1 x83_3).f0)) ∧ w'.cell? ⟨gb256, 1, none⟩ = some (.slice A255_1 ((rd_T84 l0_1 x83_3).f1).length c255_1) ∧ w'.cell? ⟨gb256, 2, none⟩ = some (.slice A255_2 ((rd_T84 l0_1 x83_3).f2).length c255_2)) (ds := []) #[false, false, false, false, false, false, false, false, false] (by kernel_rfl) rfl rfl ⟨(z6 BK256.out 0).trans rfl, (z6 BK256.out 1).trans rfl, (z6 BK256.out 2).trans rfl⟩ (fun hHeld => ?_); refine with_tabW zz.tab25 zz.bits25 (fun HT_ HW_ => ?_)
            generalize w53.drew = w54 at HO_10 BK243 BK256 HB hHeld ⊢
            refine pure_ (i := 0) (N := some 87) (v := ?_) (a' := ?_) #[true, false, false, false, false, false, false, false, false] rfl rfl (any_of HT_.out (by kernel_rfl)) (fun _ _ _ h => h) (Or.inl ⟨by rfl, ?_⟩) ?_ ?_
            rotate_left
            ·intro w'
             go_simp
             with_reducible rfl
            rotate_left
            ·simp only [Act.put, ub, uc, ud, zn, zo]
             rfl
            refine pure_ (i := 1) (N := some 88) (v := ?_) (a' := ?_) #[true, true, false, false, false, false, false, false, false] rfl rfl (any_of HT_.out (by kernel_rfl)) (fun _ _ _ h => h) (Or.inl ⟨by rfl, ?_⟩) ?_ ?_
            rotate_left
            ·intro w'
             go_simp
             with_reducible rfl
            rotate_left
            ·simp only [Act.put, ub, uc, ud, zn, zo]
             rfl
            refine pure_ (i := 4) (N := some 91) (v := ?_) (a' := ?_) #[true, true, false, false, true, false, false, false, false] rfl rfl (any_of HT_.out (by kernel_rfl)) (fun _ _ _ h => h) (Or.inl ⟨by rfl, ?_⟩) ?_ ?_
            rotate_left
            ·intro w'
             go_simp
             with_reducible rfl
            rotate_left
            ·simp only [Act.put, ub, uc, ud, zn, zo]
             rfl
            refine take_ (i := 2) (N := some 89) (v := ?_) (a' := ?_) #[true, true, true, false, true, false, false, false, false] rfl rfl (take_ofW HT_.out HW_.out (by kernel_rfl)) (fun _ _ _ h => h) (Or.inl ⟨by rfl, ?_⟩) hHeld ?_ ?_
            rotate_left
            ·rintro w' ⟨s0, s1, s2⟩
             go_simp
             with_reducible rfl
            rotate_left
            ·simp only [Act.put, ub, uc, ud, zn, zo]
             rfl
            refine take_ (i := 5) (N := some 92) (v := ?_) (a' := ?_) #[true, true, true, false, true, true, false, false, false] rfl rfl (take_ofW HT_.out HW_.out (by kernel_rfl)) (fun _ _ _ h => h) (Or.inl ⟨by rfl, ?_⟩) hHeld ?_ ?_
            rotate_left
            ·rintro w' ⟨s0, s1, s2⟩
             go_simp
             with_reducible rfl
            rotate_left
            ·simp only [Act.put, ub, uc, ud, zn, zo]
             rfl
            refine pure_ (i := 6) (N := some 93) (v := ?_) (a' := ?_) #[true, true, true, false, true, true, true, false, false] rfl rfl (any_of HT_.out (by kernel_rfl)) (fun _ _ _ h => h) (Or.inl ⟨by rfl, ?_⟩) ?_ ?_
            rotate_left
            ·intro w'
             go_simp
             with_reducible rfl
            rotate_left
            ·simp only [Act.put, ub, uc, ud, zn, zo]
             rfl
            refine one_ (i := 3) (N := some 90) #[true, true, true, true, true, true, true, false, false] rfl rfl (one_of HT_.out (by kernel_rfl)) (by decide) (fun K hK => ?_)
            refine goes_ Try.func54 (by kernel_rfl) rfl #[.slice Ao55 x10_3.length co55, .string ((rd_T84 l0_1 x83_3).f0)] (by rfl) rfl rfl (by (try simp only [uh, ui, uj]); first | done | rfl | (simp only [uf, ug]; rfl)) ?_
            with_reducible refine (impl_putText.calls k3 (fun k_ => some k_ = (.slice Ao55 x10_3.length co55 : Value).ownBlock) (.slice Ao55 x10_3.length co55) x10_3 ((rd_T84 l0_1 x83_3).f0) t257 w _ ?side1 ?side2 A48.out).mono ?_
            (case side1 => exact yi)
            (case side2 => exact Kd.R_tight rfl HO_10.out)
            rintro e w56 ⟨v258, rfl, ho0, hb, hkp⟩
            refine ⟨_, rfl, ?_⟩
            have n0_ := z1o.mk (blk_kept yc hkp (fun hs_ => (fun e_ => (Kd.R_ne HO_10.out BK243.out (by decide)) e_) hs_))
            have n1_ := z1o.mk (blk_kept y1g hkp (fun hs_ => (fun e_ => (Kd.R_ne HO_10.out BK256.out (by decide)) e_) hs_))
            have n2_ := z1o.mk (Kd.R_mono (ok' := fun k_ => True) ho0 (fun k_ hk_ => trivial))
            have n3_ := z1o.mk (hb)
            clear BK243
            clear BK256
            clear HB
            clear HO_10
            have BK243 := n0_
            have BK256 := n1_
            have HO259 := n2_
            have HB := n3_
            clear n0_ n1_ n2_ n3_
            (try clear hb)
            (try clear hkp)
            (try clear ho0)
            obtain ⟨Ao57, co57, eo57⟩ := Kd.R_slice HO259.out
            (first | subst eo57 | (injection eo57 with f1_ f2_ f3_; have f4_ := f1_.symm; have f5_ := f3_.symm; clear f1_ f2_ f3_; subst f4_; subst f5_))
            refine hK.out _ _ ⟨(z6 BK256.out 0).trans rfl, (z6 BK256.out 1).trans rfl, (z6 BK256.out 2).trans rfl⟩ (fun hHeld => ?_)
            clear hK K
            refine norm_ (a' := ?_) ?_ ?_
            rotate_left
            ·show Act.put _ (some 90) _ = _
             simp only [Act.put, ub, uc, ud, zn, zo]
             rfl
            refine one_ (i := 7) (N := some 94) #[true, true, true, true, true, true, true, true, false] rfl rfl (one_of HT_.out (by kernel_rfl)) (by decide) (fun K hK => ?_)
            refine goes_ Try.func53 (by kernel_rfl) rfl #[.slice Ao57 t257.length co57, .int .i64 (((rd_T84 l0_1 x83_3).f1).length : Int)] (by rfl) rfl rfl (by (try simp only [uh, ui, uj]); first | done | rfl | (simp only [uf, ug]; rfl)) ?_
            with_reducible refine (z1f.calls k3 (fun k_ => some k_ = (.slice Ao57 t257.length co57 : Value).ownBlock) (.slice Ao57 t257.length co57) t257 (((rd_T84 l0_1 x83_3).f1).length : Int) t260 w _ ?side1 ?side2 A49.out).mono ?_
            (case side1 => exact yi)
            (case side2 => exact Kd.R_tight rfl HO259.out)
            rintro e w58 ⟨v261, rfl, ho0, hb, hkp⟩
            refine ⟨_, rfl, ?_⟩
            have n0_ := z1o.mk (blk_kept yc hkp (fun hs_ => (fun e_ => (Kd.R_ne HO259.out BK243.out (by decide)) e_) hs_))
            have n1_ := z1o.mk (blk_kept y1g hkp (fun hs_ => (fun e_ => (Kd.R_ne HO259.out BK256.out (by decide)) e_) hs_))
            have n2_ := z1o.mk (Kd.R_mono (ok' := fun k_ => True) ho0 (fun k_ hk_ => trivial))
            have n3_ := z1o.mk (hb)
            clear BK243
            clear BK256
            clear HB
            clear HO259
            have BK243 := n0_
            have BK256 := n1_
            have HO262 := n2_
            have HB := n3_
            clear n0_ n1_ n2_ n3_
            (try clear hb)
            (try clear hkp)
            (try clear ho0)
            refine hK.out _ _ ⟨(z6 BK256.out 0).trans rfl, (z6 BK256.out 1).trans rfl, (z6 BK256.out 2).trans rfl⟩ (fun hHeld => ?_)
            clear hK K
            refine norm_ (a' := ?_) ?_ ?_
            rotate_left
            ·show Act.put _ (some 94) _ = _
             simp only [Act.put, ub, uc, ud, zn, zo]
             rfl
            refine pure_ (i := 8) (N := some 10) (v := ?_) (a' := ?_) #[true, true, true, true, true, true, true, true, true] rfl rfl (any_of HT_.out (by kernel_rfl)) (fun _ _ _ h => h) (Or.inl ⟨by rfl, ?_⟩) ?_ ?_
            rotate_left
            ·intro w'
             go_simp
             with_reducible rfl
            rotate_left
            ·simp only [Act.put, ub, uc, ud, zn, zo]
             rfl
            refine done_ (done_of HT_.out (by kernel_rfl)) ?_
            obtain ⟨hcz59_0, hcz59_1, hcz59_2⟩ := cbk3 BK256.out
            obtain ⟨hfz59_0, hfz59_1, hfz59_2⟩ := cbf3 BK256.out
            try go_wp2
            go_loopg [10, 98] k3 (fun kq v10 v98 w' => ∃ (x10_4 : List Int) (x98_4 : Int), v98 = .int .i64 x98_4 ∧ z1o (zz.l4 kq x10_4 l0_1 (l0_1.length : Int) x83_3 ((rd_T84 l0_1 x83_3).f1) (((rd_T84 l0_1 x83_3).f1).length : Int) x98_4 ((rd_T84 l0_1 x83_3).f0) ((rd_T84 l0_1 x83_3).f1) ((rd_T84 l0_1 x83_3).f2) = some (r1, r2)) ∧ z1o (kq ≤ k3) ∧ z1o (Kd.R (Kd.int .u8) 5 w' w.heap.size (fun _ => True) v10 x10_4) ∧ z1o (w'.heap[gb243]? = some (.cells #[.string a0_0, (.slice (some ad255) l0_1.length c0_1)] 31 (0, 0))) ∧ z1o (w'.heap[gb256]? = some (.cells #[.string ((rd_T84 l0_1 x83_3).f0), (.slice A255_1 ((rd_T84 l0_1 x83_3).f1).length c255_1), (.slice A255_2 ((rd_T84 l0_1 x83_3).f2).length c255_2)] 84 (0, 0))) ∧ z1o (Below w.heap.size w w'))
            case atStart => exact ⟨(t260), (0), (by first | rfl | (simp; done) | (simp [*]; done)), H', ⟨um _⟩, ⟨by (with_reducible repeat (first | apply Kd.R_alloc | apply Kd.R_drewN | apply Kd.R_drew)); exact HO262.out⟩, ⟨yc⟩, ⟨y1g⟩, ⟨yi⟩⟩
            case round =>
             clear H'
             try clear c1
             try clear c2
             try clear p2
             try clear q2
             try clear hx2
             try clear c3
             try clear c4
             try clear c4b0
             try clear c4b1
             try clear c5
             try clear p6
             try clear c7
             try clear c9
             try clear c9b0
             try clear c10
             try clear c10b0
             try clear c11
             try clear c11b0
             try clear c12
             try clear c14
             try clear c16
             try clear c16b0
             try clear c16b1
             try clear c17
             try clear c19
             try clear c19b0
             try clear c19b1
             try clear c20
             try clear c22
             try clear c24
             try clear p24
             try clear q24
             try clear hx24
             try clear c25
             try clear p25
             try clear q25
             try clear hx25
             try clear c27
             try clear c27b0
             try clear c28
             try clear c28b0
             try clear c29
             try clear c29b0
             try clear c30
             try clear c30b0
             try clear c30b1
             try clear c31
             try clear c33
             try clear c33b0
             try clear c34
             try clear c34b0
             try clear c35
             try clear c35b0
             try clear c37
             try clear c45
             try clear c45b0
             try clear c46
             try clear c46b0
             try clear c47
             try clear c47b0
             try clear c51
             try clear c52
             try clear c53
             try clear c54
             try clear hcz15_0
             try clear hcz15_1
             try clear hcz15_2
             try clear hcz18_0
             try clear hcz18_1
             try clear hcz18_2
             try clear hcz21_0
             try clear hcz21_1
             try clear hcz21_2
             try clear hcz23_0
             try clear hcz23_1
             try clear hcz23_2
             try clear hcz26_0
             try clear hcz26_1
             try clear hcz26_2
             try clear hcz32_0
             try clear hcz32_1
             try clear hcz32_2
             try clear hcz44_0
             try clear hcz44_1
             try clear hcz52_0
             try clear hcz52_1
             try clear hcz52_2
             try clear hcz59_0
             try clear hcz59_1
             try clear hcz59_2
             try clear hcz5_0
             try clear hcz5_1
             try clear hcz6_0
             try clear hcz6_1
             try clear hcz8_0
             try clear hcz8_1
             try clear hfz15_0
             try clear hfz15_1
             try clear hfz15_2
             try clear hfz18_0
             try clear hfz18_1
             try clear hfz18_2
             try clear hfz21_0
             try clear hfz21_1
             try clear hfz21_2
             try clear hfz23_0
             try clear hfz23_1
             try clear hfz23_2
             try clear hfz26_0
             try clear hfz26_1
             try clear hfz26_2
             try clear hfz32_0
             try clear hfz32_1
             try clear hfz32_2
             try clear hfz44_0
             try clear hfz44_1
             try clear hfz52_0
             try clear hfz52_1
             try clear hfz52_2
             try clear hfz59_0
             try clear hfz59_1
             try clear hfz59_2
             try clear hfz5_0
             try clear hfz5_1
             try clear hfz6_0
             try clear hfz6_1
             try clear hfz8_0
             try clear hfz8_1
             try clear hx244_0
             try clear hx244_1
             try clear hx244_2
             try clear hx246_0
             try clear hx247_0
             try clear hx255_0
             try clear hx255_1
             try clear hx255_2
             try clear p2
             try clear p24
             try clear p244
             try clear p246
             try clear p247
             try clear p255
             try clear p6
             try clear q2
             try clear q24
             try clear q244
             try clear q246
             try clear q247
             try clear q255
             obtain ⟨x10_4, x98_4, rfl, HA, HK4, HO_10, BK243, BK256, HB⟩ := hrel
             cases gk with
             | zero => exact absurd HA.out (by simp [zz.l4])
             | succ k4 =>
              have H := HA.out
              clear HA
              simp only [zz.l4] at H
              by_cases c60 : x98_4 < (((rd_T84 l0_1 x83_3).f1).length : Int)
              ·rw [if_pos c60] at H
               have c60b0 : decide (x98_4 < (((rd_T84 l0_1 x83_3).f1).length : Int)) = true := decide_eq_true c60
               clear c60
               by_cases c61 : 0 ≤ x98_4
               ·rw [if_pos c61] at H
                have c61b0 : decide (0 ≤ x98_4) = true := decide_eq_true c61
                clear c61
                by_cases c62 : x98_4 < (((rd_T84 l0_1 x83_3).f1).length : Int)
                ·rw [if_pos c62] at H
                 have c62b0 : decide (x98_4 < (((rd_T84 l0_1 x83_3).f1).length : Int)) = true := decide_eq_true c62
                 clear c62
                 replace H := ue.mp H
                 obtain ⟨t264, A630, H⟩ := H
                 replace H : (zz.l4 k4 t264 l0_1 (l0_1.length : Int) x83_3 ((rd_T84 l0_1 x83_3).f1) (((rd_T84 l0_1 x83_3).f1).length : Int) (wrap64 (x98_4 + 1)) ((rd_T84 l0_1 x83_3).f0) ((rd_T84 l0_1 x83_3).f1) ((rd_T84 l0_1 x83_3).f2)) = some (r1, r2) := H
                 have A63 := z1o.mk A630
                 clear A630
                 have H' := z1o.mk H
                 clear H
                 have p263 : 0 ≤ (x98_4 : Int) := of_decide_eq_true (by first | (with_reducible assumption) | assumption)
                 have q263 : x98_4 < (((rd_T84 l0_1 x83_3).f1).length : Int) := of_decide_eq_true (by first | (with_reducible assumption) | assumption)
                 obtain ⟨ad263, e263, hx263_0⟩ := Kd.at_string HR255_1.out x98_4 p263 q263
                 cases e263
                 replace hx263_0 := (HB.out.cell (ua w _ hx263_0)).trans hx263_0
                 replace p263 := eq_true p263
                 replace q263 := eq_true q263
                 obtain ⟨Ao64, co64, eo64⟩ := Kd.R_slice HO_10.out
                 subst eo64
                 go_wp2_with (first | ((with_reducible refine zp (f := 54) rfl ?_); refine goesL_ (some 104) rfl rfl Try.func54 (by kernel_rfl) rfl #[.slice Ao64 x10_4.length co64, .string (rdOf ByteArray.empty ((rd_T84 l0_1 x83_3).f1) x98_4)] rfl (by (try simp only [uh, ui, uj]); first | done | rfl | (simp only [uf, ug]; rfl)) ?_; (with_reducible refine (impl_putText.calls k4 (fun k_ => some k_ = (.slice Ao64 x10_4.length co64 : Value).ownBlock) (.slice Ao64 x10_4.length co64) x10_4 (rdOf ByteArray.empty ((rd_T84 l0_1 x83_3).f1) x98_4) t264 w _ ?side1 ?side2 A63.out).mono ?_); (case side1 => exact yi); (case side2 => exact Kd.R_tight rfl HO_10.out); rintro e w65 ⟨v265, rfl, ho0, hb, hkp⟩; refine ⟨_, rfl, ?_⟩; have n0_ := z1o.mk (blk_kept yc hkp (fun hs_ => (fun e_ => (Kd.R_ne HO_10.out BK243.out (by decide)) e_) hs_)); have n1_ := z1o.mk (blk_kept y1g hkp (fun hs_ => (fun e_ => (Kd.R_ne HO_10.out BK256.out (by decide)) e_) hs_)); have n2_ := z1o.mk (Kd.R_mono (ok' := fun k_ => True) ho0 (fun k_ hk_ => trivial)); have n3_ := z1o.mk (hb); clear BK243; clear BK256; clear HB; clear HO_10; have BK243 := n0_; have BK256 := n1_; have HO266 := n2_; have HB := n3_; clear n0_ n1_ n2_ n3_; (try clear hb); (try clear hkp); (try clear ho0)))
                 go_roundg k4
                 case measure => have := HJ1.out; have := HK2.out; have := HK3.out; have := HK4.out; omega
                 case rel => exact ⟨(t264), (wrap64 (x98_4 + 1)), (by first | rfl | (simp; done) | (simp [*]; done)), H', ⟨by have := HJ1.out; have := HK2.out; have := HK3.out; have := HK4.out; omega⟩, ⟨by (with_reducible repeat (first | apply Kd.R_alloc | apply Kd.R_drewN | apply Kd.R_drew)); exact HO266.out⟩, ⟨yc⟩, ⟨y1g⟩, ⟨yi⟩⟩
                ·rw [if_neg c62] at H
                 exact absurd H (by simp)
               ·rw [if_neg c61] at H
                exact absurd H (by simp)
              ·rw [if_neg c60] at H
               have c60b0 : decide (x98_4 < (((rd_T84 l0_1 x83_3).f1).length : Int)) = false := decide_eq_false c60
               clear c60
               replace H := ue.mp H
               obtain ⟨t267, A660, H⟩ := H
               replace H : (zz.l5 k4 t267 l0_1 (l0_1.length : Int) x83_3 ((rd_T84 l0_1 x83_3).f2) (((rd_T84 l0_1 x83_3).f2).length : Int) 0) = some (r1, r2) := H
               have A66 := z1o.mk A660
               clear A660
               have H' := z1o.mk H
               clear H
               have hnb67 := NB256_243.out
               have hnc67 := NB243_256.out
               obtain ⟨hcz68_0, hcz68_1, hcz68_2⟩ := cbk3 BK256.out
               obtain ⟨hfz68_0, hfz68_1, hfz68_2⟩ := cbf3 BK256.out
               obtain ⟨Ao69, co69, eo69⟩ := Kd.R_slice HO_10.out
               subst eo69
               go_wp2_with (first | ((with_reducible refine zp (f := 53) rfl ?_); refine goesL_ (some 110) rfl rfl Try.func53 (by kernel_rfl) rfl #[.slice Ao69 x10_4.length co69, .int .i64 (((rd_T84 l0_1 x83_3).f2).length : Int)] rfl (by (try simp only [uh, ui, uj]); first | done | rfl | (simp only [uf, ug]; rfl)) ?_; (with_reducible refine (z1f.calls k4 (fun k_ => some k_ = (.slice Ao69 x10_4.length co69 : Value).ownBlock) (.slice Ao69 x10_4.length co69) x10_4 (((rd_T84 l0_1 x83_3).f2).length : Int) t267 w _ ?side1 ?side2 A66.out).mono ?_); (case side1 => exact yi); (case side2 => exact Kd.R_tight rfl HO_10.out); rintro e w70 ⟨v268, rfl, ho0, hb, hkp⟩; refine ⟨_, rfl, ?_⟩; have n0_ := z1o.mk (blk_kept yc hkp (fun hs_ => (fun e_ => (Kd.R_ne HO_10.out BK243.out (by decide)) e_) hs_)); have n1_ := z1o.mk (blk_kept y1g hkp (fun hs_ => (fun e_ => (Kd.R_ne HO_10.out BK256.out (by decide)) e_) hs_)); have n2_ := z1o.mk (Kd.R_mono (ok' := fun k_ => True) ho0 (fun k_ hk_ => trivial)); have n3_ := z1o.mk (hb); clear BK243; clear BK256; clear HB; clear HO_10; have BK243 := n0_; have BK256 := n1_; have HO269 := n2_; have HB := n3_; clear n0_ n1_ n2_ n3_; (try clear hb); (try clear hkp); (try clear ho0); obtain ⟨hcz71_0, hcz71_1, hcz71_2⟩ := cbk3 BK256.out; obtain ⟨hfz71_0, hfz71_1, hfz71_2⟩ := cbf3 BK256.out))
               go_loopg [10, 114] k4 (fun kq v10 v114 w' => ∃ (x10_5 : List Int) (x114_5 : Int), v114 = .int .i64 x114_5 ∧ z1o (zz.l5 kq x10_5 l0_1 (l0_1.length : Int) x83_3 ((rd_T84 l0_1 x83_3).f2) (((rd_T84 l0_1 x83_3).f2).length : Int) x114_5 = some (r1, r2)) ∧ z1o (kq ≤ k4) ∧ z1o (Kd.R (Kd.int .u8) 5 w' w.heap.size (fun _ => True) v10 x10_5) ∧ z1o (w'.heap[gb243]? = some (.cells #[.string a0_0, (.slice (some ad255) l0_1.length c0_1)] 31 (0, 0))) ∧ z1o (w'.heap[gb256]? = some (.cells #[.string ((rd_T84 l0_1 x83_3).f0), (.slice A255_1 ((rd_T84 l0_1 x83_3).f1).length c255_1), (.slice A255_2 ((rd_T84 l0_1 x83_3).f2).length c255_2)] 84 (0, 0))) ∧ z1o (Below w.heap.size w w'))
               case atStart => exact ⟨(t267), (0), (by first | rfl | (simp; done) | (simp [*]; done)), H', ⟨um _⟩, ⟨by (with_reducible repeat (first | apply Kd.R_alloc | apply Kd.R_drewN | apply Kd.R_drew)); exact HO269.out⟩, ⟨yc⟩, ⟨y1g⟩, ⟨yi⟩⟩
               case round =>
                clear H'
                try clear c1
                try clear c2
                try clear p2
                try clear q2
                try clear hx2
                try clear c3
                try clear c4
                try clear c4b0
                try clear c4b1
                try clear c5
                try clear c6
                try clear p6
                try clear c7
                try clear c9
                try clear c9b0
                try clear c10
                try clear c10b0
                try clear c11
                try clear c11b0
                try clear c12
                try clear c14
                try clear c16
                try clear c16b0
                try clear c16b1
                try clear c17
                try clear c19
                try clear c19b0
                try clear c19b1
                try clear c20
                try clear c22
                try clear c24
                try clear p24
                try clear q24
                try clear hx24
                try clear c25
                try clear p25
                try clear q25
                try clear hx25
                try clear p26
                try clear q26
                try clear hx26
                try clear c27
                try clear c27b0
                try clear c28
                try clear c28b0
                try clear c29
                try clear c29b0
                try clear c30
                try clear c30b0
                try clear c30b1
                try clear c31
                try clear c33
                try clear c33b0
                try clear c34
                try clear c34b0
                try clear c35
                try clear c35b0
                try clear c37
                try clear c45
                try clear c45b0
                try clear c46
                try clear c46b0
                try clear c47
                try clear c47b0
                try clear c51
                try clear c52
                try clear c53
                try clear c54
                try clear c60
                try clear c60b0
                try clear c61
                try clear c61b0
                try clear c62
                try clear c62b0
                try clear p64
                try clear c67
                try clear hcz15_0
                try clear hcz15_1
                try clear hcz15_2
                try clear hcz18_0
                try clear hcz18_1
                try clear hcz18_2
                try clear hcz21_0
                try clear hcz21_1
                try clear hcz21_2
                try clear hcz23_0
                try clear hcz23_1
                try clear hcz23_2
                try clear hcz26_0
                try clear hcz26_1
                try clear hcz26_2
                try clear hcz32_0
                try clear hcz32_1
                try clear hcz32_2
                try clear hcz44_0
                try clear hcz44_1
                try clear hcz52_0
                try clear hcz52_1
                try clear hcz52_2
                try clear hcz59_0
                try clear hcz59_1
                try clear hcz59_2
                try clear hcz5_0
                try clear hcz5_1
                try clear hcz68_0
                try clear hcz68_1
                try clear hcz68_2
                try clear hcz6_0
                try clear hcz6_1
                try clear hcz71_0
                try clear hcz71_1
                try clear hcz71_2
                try clear hcz8_0
                try clear hcz8_1
                try clear hfz15_0
                try clear hfz15_1
                try clear hfz15_2
                try clear hfz18_0
                try clear hfz18_1
                try clear hfz18_2
                try clear hfz21_0
                try clear hfz21_1
                try clear hfz21_2
                try clear hfz23_0
                try clear hfz23_1
                try clear hfz23_2
                try clear hfz26_0
                try clear hfz26_1
                try clear hfz26_2
                try clear hfz32_0
                try clear hfz32_1
                try clear hfz32_2
                try clear hfz44_0
                try clear hfz44_1
                try clear hfz52_0
                try clear hfz52_1
                try clear hfz52_2
                try clear hfz59_0
                try clear hfz59_1
                try clear hfz59_2
                try clear hfz5_0
                try clear hfz5_1
                try clear hfz68_0
                try clear hfz68_1
                try clear hfz68_2
                try clear hfz6_0
                try clear hfz6_1
                try clear hfz71_0
                try clear hfz71_1
                try clear hfz71_2
                try clear hfz8_0
                try clear hfz8_1
                try clear hx244_0
                try clear hx244_1
                try clear hx244_2
                try clear hx246_0
                try clear hx247_0
                try clear hx255_0
                try clear hx255_1
                try clear hx255_2
                try clear hx263_0
                try clear p2
                try clear p24
                try clear p244
                try clear p246
                try clear p247
                try clear p25
                try clear p255
                try clear p263
                try clear p6
                try clear q2
                try clear q24
                try clear q244
                try clear q246
                try clear q247
                try clear q25
                try clear q255
                try clear q263
                obtain ⟨x10_5, x114_5, rfl, HA, HK5, HO_10, BK243, BK256, HB⟩ := hrel
                cases gk with
                | zero => exact absurd HA.out (by simp [zz.l5])
                | succ k5 =>
                 have H := HA.out
                 clear HA
                 simp only [zz.l5] at H
                 by_cases c72 : x114_5 < (((rd_T84 l0_1 x83_3).f2).length : Int)
                 ·rw [if_pos c72] at H
                  have c72b0 : decide (x114_5 < (((rd_T84 l0_1 x83_3).f2).length : Int)) = true := decide_eq_true c72
                  clear c72
                  by_cases c73 : 0 ≤ x114_5
                  ·rw [if_pos c73] at H
                   have c73b0 : decide (0 ≤ x114_5) = true := decide_eq_true c73
                   clear c73
                   by_cases c74 : x114_5 < (((rd_T84 l0_1 x83_3).f2).length : Int)
                   ·rw [if_pos c74] at H
                    have c74b0 : decide (x114_5 < (((rd_T84 l0_1 x83_3).f2).length : Int)) = true := decide_eq_true c74
                    clear c74
                    by_cases c75 : (rd ((rd_T84 l0_1 x83_3).f2) x114_5) < 0
                    ·rw [if_pos c75] at H
                     have c75b0 : decide ((rd ((rd_T84 l0_1 x83_3).f2) x114_5) < 0) = true := decide_eq_true c75
                     clear c75
                     replace H := ue.mp H
                     obtain ⟨t271, A760, H⟩ := H
                     replace H : (zz.l5 k5 t271 l0_1 (l0_1.length : Int) x83_3 ((rd_T84 l0_1 x83_3).f2) (((rd_T84 l0_1 x83_3).f2).length : Int) (wrap64 (x114_5 + 1))) = some (r1, r2) := H
                     have A76 := z1o.mk A760
                     clear A760
                     have H' := z1o.mk H
                     clear H
                     have p270 : 0 ≤ (x114_5 : Int) := of_decide_eq_true (by first | (with_reducible assumption) | assumption)
                     have q270 : x114_5 < (((rd_T84 l0_1 x83_3).f2).length : Int) := of_decide_eq_true (by first | (with_reducible assumption) | assumption)
                     obtain ⟨ad270, e270, hx270_0⟩ := Kd.at_int HR255_2.out x114_5 p270 q270
                     cases e270
                     replace hx270_0 := (HB.out.cell (ua w _ hx270_0)).trans hx270_0
                     replace p270 := eq_true p270
                     replace q270 := eq_true q270
                     obtain ⟨Ao77, co77, eo77⟩ := Kd.R_slice HO_10.out
                     subst eo77
                     go_wp2_with (first | ((with_reducible refine zp (f := 53) rfl ?_); refine goesL_ (some 124) rfl rfl Try.func53 (by kernel_rfl) rfl #[.slice Ao77 x10_5.length co77, .int .i64 (wrap64 ((wrap64 ((-2) * (rd ((rd_T84 l0_1 x83_3).f2) x114_5))) - 1))] rfl (by (try simp only [uh, ui, uj]); first | done | rfl | (simp only [uf, ug]; rfl)) ?_; (with_reducible refine (z1f.calls k5 (fun k_ => some k_ = (.slice Ao77 x10_5.length co77 : Value).ownBlock) (.slice Ao77 x10_5.length co77) x10_5 (wrap64 ((wrap64 ((-2) * (rd ((rd_T84 l0_1 x83_3).f2) x114_5))) - 1)) t271 w _ ?side1 ?side2 A76.out).mono ?_); (case side1 => exact yi); (case side2 => exact Kd.R_tight rfl HO_10.out); rintro e w78 ⟨v272, rfl, ho0, hb, hkp⟩; refine ⟨_, rfl, ?_⟩; have n0_ := z1o.mk (blk_kept yc hkp (fun hs_ => (fun e_ => (Kd.R_ne HO_10.out BK243.out (by decide)) e_) hs_)); have n1_ := z1o.mk (blk_kept y1g hkp (fun hs_ => (fun e_ => (Kd.R_ne HO_10.out BK256.out (by decide)) e_) hs_)); have n2_ := z1o.mk (Kd.R_mono (ok' := fun k_ => True) ho0 (fun k_ hk_ => trivial)); have n3_ := z1o.mk (hb); clear BK243; clear BK256; clear HB; clear HO_10; have BK243 := n0_; have BK256 := n1_; have HO273 := n2_; have HB := n3_; clear n0_ n1_ n2_ n3_; (try clear hb); (try clear hkp); (try clear ho0)))
                     go_roundg k5
                     case measure => have := HJ1.out; have := HK2.out; have := HK3.out; have := HK4.out; have := HK5.out; omega
                     case rel => exact ⟨(t271), (wrap64 (x114_5 + 1)), (by first | rfl | (simp; done) | (simp [*]; done)), H', ⟨by have := HJ1.out; have := HK2.out; have := HK3.out; have := HK4.out; have := HK5.out; omega⟩, ⟨by (with_reducible repeat (first | apply Kd.R_alloc | apply Kd.R_drewN | apply Kd.R_drew)); exact HO273.out⟩, ⟨yc⟩, ⟨y1g⟩, ⟨yi⟩⟩
                    ·rw [if_neg c75] at H
                     have c75b0 : decide ((rd ((rd_T84 l0_1 x83_3).f2) x114_5) < 0) = false := decide_eq_false c75
                     clear c75
                     replace H := ue.mp H
                     obtain ⟨t274, A790, H⟩ := H
                     replace H : (zz.l5 k5 t274 l0_1 (l0_1.length : Int) x83_3 ((rd_T84 l0_1 x83_3).f2) (((rd_T84 l0_1 x83_3).f2).length : Int) (wrap64 (x114_5 + 1))) = some (r1, r2) := H
                     have A79 := z1o.mk A790
                     clear A790
                     have H' := z1o.mk H
                     clear H
                     have p270 : 0 ≤ (x114_5 : Int) := of_decide_eq_true (by first | (with_reducible assumption) | assumption)
                     have q270 : x114_5 < (((rd_T84 l0_1 x83_3).f2).length : Int) := of_decide_eq_true (by first | (with_reducible assumption) | assumption)
                     obtain ⟨ad270, e270, hx270_0⟩ := Kd.at_int HR255_2.out x114_5 p270 q270
                     cases e270
                     replace hx270_0 := (HB.out.cell (ua w _ hx270_0)).trans hx270_0
                     replace p270 := eq_true p270
                     replace q270 := eq_true q270
                     obtain ⟨Ao80, co80, eo80⟩ := Kd.R_slice HO_10.out
                     subst eo80
                     go_wp2_with (first | ((with_reducible refine zp (f := 53) rfl ?_); refine goesL_ (some 128) rfl rfl Try.func53 (by kernel_rfl) rfl #[.slice Ao80 x10_5.length co80, .int .i64 (wrap64 (2 * (rd ((rd_T84 l0_1 x83_3).f2) x114_5)))] rfl (by (try simp only [uh, ui, uj]); first | done | rfl | (simp only [uf, ug]; rfl)) ?_; (with_reducible refine (z1f.calls k5 (fun k_ => some k_ = (.slice Ao80 x10_5.length co80 : Value).ownBlock) (.slice Ao80 x10_5.length co80) x10_5 (wrap64 (2 * (rd ((rd_T84 l0_1 x83_3).f2) x114_5))) t274 w _ ?side1 ?side2 A79.out).mono ?_); (case side1 => exact yi); (case side2 => exact Kd.R_tight rfl HO_10.out); rintro e w81 ⟨v275, rfl, ho0, hb, hkp⟩; refine ⟨_, rfl, ?_⟩; have n0_ := z1o.mk (blk_kept yc hkp (fun hs_ => (fun e_ => (Kd.R_ne HO_10.out BK243.out (by decide)) e_) hs_)); have n1_ := z1o.mk (blk_kept y1g hkp (fun hs_ => (fun e_ => (Kd.R_ne HO_10.out BK256.out (by decide)) e_) hs_)); have n2_ := z1o.mk (Kd.R_mono (ok' := fun k_ => True) ho0 (fun k_ hk_ => trivial)); have n3_ := z1o.mk (hb); clear BK243; clear BK256; clear HB; clear HO_10; have BK243 := n0_; have BK256 := n1_; have HO276 := n2_; have HB := n3_; clear n0_ n1_ n2_ n3_; (try clear hb); (try clear hkp); (try clear ho0)))
                     go_roundg k5
                     case measure => have := HJ1.out; have := HK2.out; have := HK3.out; have := HK4.out; have := HK5.out; omega
                     case rel => exact ⟨(t274), (wrap64 (x114_5 + 1)), (by first | rfl | (simp; done) | (simp [*]; done)), H', ⟨by have := HJ1.out; have := HK2.out; have := HK3.out; have := HK4.out; have := HK5.out; omega⟩, ⟨by (with_reducible repeat (first | apply Kd.R_alloc | apply Kd.R_drewN | apply Kd.R_drew)); exact HO276.out⟩, ⟨yc⟩, ⟨y1g⟩, ⟨yi⟩⟩
                   ·rw [if_neg c74] at H
                    exact absurd H (by simp)
                  ·rw [if_neg c73] at H
                   exact absurd H (by simp)
                 ·rw [if_neg c72] at H
                  have c72b0 : decide (x114_5 < (((rd_T84 l0_1 x83_3).f2).length : Int)) = false := decide_eq_false c72
                  clear c72
                  have H' := z1o.mk H
                  clear H
                  go_wp2
                  go_roundg k5
                  case measure => have := HJ1.out; have := HK2.out; have := HK3.out; have := HK4.out; have := HK5.out; omega
                  case rel => exact ⟨(x10_5), (wrap64 (x83_3 + 1)), (by first | rfl | (simp; done) | (simp [*]; done)), H', ⟨by have := HJ1.out; have := HK2.out; have := HK3.out; have := HK4.out; have := HK5.out; omega⟩, ⟨y2k⟩, ⟨yc⟩, ⟨yi⟩⟩
           ·rw [if_neg c47] at H
            exact absurd H (by simp)
          ·rw [if_neg c46] at H
           exact absurd H (by simp)
         ·rw [if_neg c45] at H
          have c45b0 : decide (x83_3 < (l0_1.length : Int)) = false := decide_eq_false c45
          clear c45
          simp only [Option.some.injEq, Prod.mk.injEq] at H
          obtain ⟨rfl, rfl⟩ := H
          go_wp2
          go_ret2
          exact ⟨_, by first | rfl | (simp [zm, zl] <;> rfl) | (simp [*, zm, zl] <;> rfl), y2k, yp⟩
end Go.Proofs.Ytndjodgcemgpfaa.Q
end
