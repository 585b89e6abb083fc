/- A part of the proof: the texts Qxf16, Qxf17, Qwrec, XP, Qpsz, Qxf87, Qxf101, Qxf59, Qxf21, Qpmk, Qxf10, packed. -/
import Derived.Test.YtndjodgcemgpfaaKb8

section
namespace Go.Proofs.Ytndjodgcemgpfaa.Q
open Go.RowKit Go.Proofs.YtndjodgcemgpfaaW.PrintWords Go.Proofs.YtndjodgcemgpfaaW.PrintLast Go.Proofs.YtndjodgcemgpfaaW.PrintMore
attribute [local go_sem] max2_int min2_int max_two min_two max_three min_three max_four min_four
set_option linter.unusedVariables false
set_option linter.unusedSimpArgs false
def laws_markByteS.l0 : Nat → List Int → Int → Int → Option (Int × List Int)
  | 0, _, _, _ => none
  | k + 1, x0, x1, x5 => if x5 < (x0.length : Int) then (if 0 ≤ x5 then (laws_markByteS.l0 k (x0.set (x5 : Int).toNat ((x1) % 256)) (wrap64 (x1 + 1)) (wrap64 (x5 + 1))) else (none)) else (some (x1, x0))
def laws_markByteS.f (k : Nat) (l0 : List Int) (a1 : Int) : Option (Int × List Int) := laws_markByteS.l0 k l0 a1 0
theorem laws_markByteS.mono_l : ∀ k, (∀ y0 y1 y2, LeO (laws_markByteS.l0 k y0 y1 y2) (laws_markByteS.l0 (k + 1) y0 y1 y2))
  | 0 => fun _ _ _ r h => by simp [laws_markByteS.l0] at h
  | k + 1 => by
    have ih0 := laws_markByteS.mono_l k
    · intro y0 y1 y2
      unfold laws_markByteS.l0
      repeat' first
      | (with_reducible exact ih0 _ _ _)
      | (with_reducible exact LeO.refl _)
      | (with_reducible exact LeO.none _)
      | (with_reducible refine LeO.ite ?_ ?_)
      | (with_reducible refine LeO.bind ?_ (fun _ => ?_))
      | exact ih0 _ _ _
      | exact LeO.none _
      | refine LeO.ite ?_ ?_
      | refine LeO.bind ?_ (fun _ => ?_)
theorem laws_markByteS.mono : ∀ a0 a1 k, LeO (laws_markByteS.f k a0 a1) (laws_markByteS.f (k + 1) a0 a1) := by
  intro a0 a1 k
  have ih0 := laws_markByteS.mono_l k
  unfold laws_markByteS.f
  repeat' first
      | (with_reducible exact ih0 _ _ _)
      | (with_reducible exact LeO.refl _)
      | (with_reducible exact LeO.none _)
      | (with_reducible refine LeO.ite ?_ ?_)
      | (with_reducible refine LeO.bind ?_ (fun _ => ?_))
      | exact ih0 _ _ _
      | exact LeO.none _
      | refine LeO.ite ?_ ?_
      | refine LeO.bind ?_ (fun _ => ?_)
set_option maxHeartbeats 8000000 in
set_option maxRecDepth 100000 in
theorem laws_markByteS.calls (k : Nat) (P0_ : Nat → Prop) (u9000_ : Value) (l0 : List Int) (a1 : Int) (r1 : Int) (r2 : List Int) (w0 w : World) (hB : Below w0.heap.size w0 w) (ho0 : Kd.R (Kd.int .u8) 5 w w0.heap.size P0_ u9000_ l0) (h : laws_markByteS.f k l0 a1 = some (r1, r2)) :
    Calls Try.prog 16 #[u9000_, .int .i64 a1] w fun e w' => e = .returned (.int .i64 r1) ∧ Kd.R (Kd.int .u8) 5 w' w0.heap.size (fun k_ => (P0_ k_ ∨ w.heap.size ≤ k_)) u9000_ r2 ∧ Below w0.heap.size w0 w' ∧ Kept w w' (fun k_ => P0_ k_) := by
  have HO0 := Aside0.mk (show Kd.R (Kd.int .u8) 5 w w0.heap.size (fun k_ => (P0_ k_ ∨ w.heap.size ≤ k_)) u9000_ l0 from Kd.R_mono ho0 (fun k_ hk => (.inl hk)))
  have HK := Aside0.mk (Kept.refl w (fun k_ => P0_ k_))
  have HW0 := Aside0.mk hB.size
  have HB := Aside0.mk hB
  clear hB
  have H : (laws_markByteS.l0 k l0 a1 0) = some (r1, r2) := h
  clear h
  have H' := Aside0.mk H
  clear H
  go_enter Try.func16, Try.ntmps16
  go_wp2
  go_loopg [1, 5] k (fun kq v1 v5 w' => ∃ (x0_1 : List Int) (x1_1 : Int) (x5_1 : Int), v1 = .int .i64 x1_1 ∧ v5 = .int .i64 x5_1 ∧ Aside0 (laws_markByteS.l0 kq x0_1 x1_1 x5_1 = some (r1, r2)) ∧ Aside0 (kq ≤ k) ∧ Aside0 (Kd.R (Kd.int .u8) 5 w' w0.heap.size (fun k_ => (P0_ k_ ∨ w.heap.size ≤ k_)) u9000_ x0_1) ∧ Aside0 (Kept w w' (fun k_ => P0_ k_)) ∧ Aside0 (Below w0.heap.size w0 w'))
  case atStart => exact ⟨(l0), (a1), (0), (by first | rfl | (simp; done) | (simp [*]; done)), (by first | rfl | (simp; done) | (simp [*]; done)), H', ⟨Nat.le_refl _⟩, ⟨by (with_reducible repeat (first | apply Kd.R_alloc | apply Kd.R_drewN | apply Kd.R_drew)); exact HO0.out⟩, ⟨by repeat (first | (with_reducible first | exact HK.out | apply Kept.alloc | apply Kept.drewN | apply Kept.drew) | exact HK.out)⟩, ⟨by repeat (first | (with_reducible first | exact HB.out | apply below_alloc | apply pw_below_drewN | apply below_drew1) | exact HB.out)⟩⟩
  case round =>
    clear H'
    try clear c1
    try clear p2
    obtain ⟨x0_1, x1_1, x5_1, rfl, rfl, HA, HK1, HO_0, HK, HB⟩ := hrel
    cases gk with
    | zero => exact absurd HA.out (by simp [laws_markByteS.l0])
    | succ k1 =>
      have H := HA.out
      clear HA
      simp only [laws_markByteS.l0] at H
      by_cases c3 : x5_1 < (x0_1.length : Int)
      · rw [if_pos c3] at H
        have c3b0 : decide (x5_1 < (x0_1.length : Int)) = true := decide_eq_true c3
        clear c3
        by_cases c4 : 0 ≤ x5_1
        · rw [if_pos c4] at H
          have c4b0 : decide (0 ≤ x5_1) = true := decide_eq_true c4
          clear c4
          obtain ⟨y301, hy301⟩ : ∃ y_ : List Int, y_ = (x0_1.set (x5_1 : Int).toNat ((x1_1) % 256)) := ⟨_, rfl⟩
          replace H : (laws_markByteS.l0 k1 y301 (wrap64 (x1_1 + 1)) (wrap64 (x5_1 + 1))) = some (r1, r2) := by first | (rw [hy301]; with_reducible exact H) | (have H2_ := (Option.bind_some _ _).symm.trans H; rw [hy301]; with_reducible exact H2_) | (have H2_ := (Option.bind_some _ _).symm.trans H; with_reducible exact H2_) | with_reducible exact H | (rw [hy301]; exact H) | exact H
          have Ny301 := Aside0.mk hy301
          clear hy301
          have H' := Aside0.mk H
          clear H
          obtain ⟨Ao6, co6, eo6⟩ := Kd.R_slice HO_0.out
          subst eo6
          have p5 : 0 ≤ (x5_1 : Int) := of_decide_eq_true (by first | (with_reducible assumption) | assumption)
          have q5 : (x5_1 : Int) < ((x0_1.length : Int) : Int) := of_decide_eq_true (by first | (with_reducible assumption) | assumption)
          obtain ⟨go5, co5, eo5, gb5, gl5, cl5, HG5⟩ := Kd.R_form HO_0.out (by omega)
          (first | cases eo5 | (injection eo5 with ea_ en_ ec_; (first | subst ea_ | (injection ea_ with ea_; subst ea_)); subst ec_; clear en_))
          have GB5 := Aside0.mk gb5
          have GG5 := Aside0.mk HG5
          clear gb5 gl5 HG5
          have HMgo5 := Aside0.mk (show (P0_ go5 ∨ w.heap.size ≤ go5) from (HO_0.out.1 _ rfl))
          obtain ⟨hx5_0, hf5_0⟩ := Kd.R_celln 0 HO_0.out (x5_1 : Int) p5 q5
          replace p5 := eq_true p5
          replace q5 := eq_true q5
          have HP7 := Kd.R_putg HO_0.out (x5_1 : Int) ((x1_1) % 256)
          go_wp2_with (first | ((with_reducible refine gate_store (t := 5) (p := 16) rfl ?_); refine store_event (t := 5) (p := 16) (v := ?vo_w8) (w1 := (wr.setCell ⟨go5, (x5_1 : Int).toNat, none⟩ (.int .u8 ((x1_1) % 256)))) ?hg ?ho ?hn ?hr ?_; (case ho => rfl); (case hg => rfl); (case hn => rfl); (case hr => first | (go_simp; done) | (go_simp; rfl)); intro w8 hw; have hg : wr.grownBy w8 (some go5) := (by rw [hw]; exact HP7.2); have hp_ : Kd.R (Kd.int .u8) 5 w8 w0.heap.size (fun k_ => (P0_ k_ ∨ w.heap.size ≤ k_)) (.slice (some ⟨go5, 0, none⟩) x0_1.length co6) y301 := (by rw [hw, Ny301.out]; exact HP7.1); clear HP7; have n0_ := Aside0.mk (hp_); have n1_ := Aside0.mk ((by rw [hw]; exact below_set (HB.out) GB5.out : Below w0.heap.size w0 w8)); have n2_ := Aside0.mk (Kept.of_grown (S := (fun k_ => P0_ k_)) hg (by repeat (first | (with_reducible first | exact HK.out | apply Kept.alloc | apply Kept.drewN | apply Kept.drew) | exact HK.out)) (fun k_ e_ => (HO_0.out.1 k_ e_))); clear HO_0; clear HB; clear HK; have HO_0 := n0_; have HB := n1_; have HK := n2_; clear n0_ n1_ n2_; clear hg hw hp_))
          go_roundg k1
          case measure => have := HK1.out; omega
          case rel => exact ⟨(y301), (wrap64 (x1_1 + 1)), (wrap64 (x5_1 + 1)), (by first | rfl | (simp; done) | (simp [*]; done)), (by first | rfl | (simp; done) | (simp [*]; done)), H', ⟨by have := HK1.out; omega⟩, ⟨by (with_reducible repeat (first | apply Kd.R_alloc | apply Kd.R_drewN | apply Kd.R_drew)); exact HO_0.out⟩, ⟨by repeat (first | (with_reducible first | exact HK.out | apply Kept.alloc | apply Kept.drewN | apply Kept.drew) | exact HK.out)⟩, ⟨by repeat (first | (with_reducible first | exact HB.out | apply below_alloc | apply pw_below_drewN | apply below_drew1) | exact HB.out)⟩⟩
        · rw [if_neg c4] at H
          exact absurd H (by simp)
      · rw [if_neg c3] at H
        have c3b0 : decide (x5_1 < (x0_1.length : Int)) = false := decide_eq_false c3
        clear c3
        simp only [Option.some.injEq, Prod.mk.injEq] at H
        obtain ⟨rfl, rfl⟩ := H
        obtain ⟨Ao9, co9, eo9⟩ := Kd.R_slice HO_0.out
        subst eo9
        go_wp2
        go_ret
        exact ⟨by first | rfl | (simp [errW_none, errW_some] <;> rfl) | (simp [*, errW_none, errW_some] <;> rfl), by (with_reducible repeat (first | apply Kd.R_alloc | apply Kd.R_drewN | apply Kd.R_drew)); exact HO_0.out, by repeat (first | (with_reducible first | exact HB.out | apply below_alloc | apply pw_below_drewN | apply below_drew1) | exact HB.out), by repeat (first | (with_reducible first | exact HK.out | apply Kept.alloc | apply Kept.drewN | apply Kept.drew) | exact HK.out)⟩
end Go.Proofs.Ytndjodgcemgpfaa.Q
end

section
namespace Go.Proofs.Ytndjodgcemgpfaa.Q
open Go.RowKit Go.Proofs.YtndjodgcemgpfaaW.PrintWords Go.Proofs.YtndjodgcemgpfaaW.PrintLast Go.Proofs.YtndjodgcemgpfaaW.PrintMore
attribute [local go_sem] max2_int min2_int max_two min_two max_three min_three max_four min_four
set_option linter.unusedVariables false
set_option linter.unusedSimpArgs false
def laws_heldByteS.l0 : Nat → List Int → Int → Int → Option (Int)
  | 0, _, _, _ => none
  | k + 1, x0, x1, x5 => if x5 < (x0.length : Int) then (if 0 ≤ x5 then (if (rd x0 x5) = ((x1) % 256) then (laws_heldByteS.l0 k x0 (wrap64 (x1 + 1)) (wrap64 (x5 + 1))) else (some (-1))) else (none)) else (some x1)
def laws_heldByteS.f (k : Nat) (l0 : List Int) (a1 : Int) : Option (Int) := laws_heldByteS.l0 k l0 a1 0
theorem laws_heldByteS.mono_l : ∀ k, (∀ y0 y1 y2, LeO (laws_heldByteS.l0 k y0 y1 y2) (laws_heldByteS.l0 (k + 1) y0 y1 y2))
  | 0 => fun _ _ _ r h => by simp [laws_heldByteS.l0] at h
  | k + 1 => by
    have ih0 := laws_heldByteS.mono_l k
    · intro y0 y1 y2
      unfold laws_heldByteS.l0
      repeat' first
      | (with_reducible exact ih0 _ _ _)
      | (with_reducible exact LeO.refl _)
      | (with_reducible exact LeO.none _)
      | (with_reducible refine LeO.ite ?_ ?_)
      | (with_reducible refine LeO.bind ?_ (fun _ => ?_))
      | exact ih0 _ _ _
      | exact LeO.none _
      | refine LeO.ite ?_ ?_
      | refine LeO.bind ?_ (fun _ => ?_)
theorem laws_heldByteS.mono : ∀ a0 a1 k, LeO (laws_heldByteS.f k a0 a1) (laws_heldByteS.f (k + 1) a0 a1) := by
  intro a0 a1 k
  have ih0 := laws_heldByteS.mono_l k
  unfold laws_heldByteS.f
  repeat' first
      | (with_reducible exact ih0 _ _ _)
      | (with_reducible exact LeO.refl _)
      | (with_reducible exact LeO.none _)
      | (with_reducible refine LeO.ite ?_ ?_)
      | (with_reducible refine LeO.bind ?_ (fun _ => ?_))
      | exact ih0 _ _ _
      | exact LeO.none _
      | refine LeO.ite ?_ ?_
      | refine LeO.bind ?_ (fun _ => ?_)
set_option maxHeartbeats 8000000 in
set_option maxRecDepth 100000 in
theorem laws_heldByteS.calls (k : Nat) (A0 : Option Addr) (c0 : Nat) (l0 : List Int) (a1 : Int) (r : Int) (w : World) (hr0 : Kd.C (Kd.int .u8) w A0 l0.length l0) (hc0 : l0.length ≤ c0) (h : laws_heldByteS.f k l0 a1 = some r) :
    Calls Try.prog 17 #[.slice A0 l0.length c0, .int .i64 a1] w fun e w' => e = .returned (.int .i64 r) ∧ Drawn0 w w' := by
  have HR0 := Aside0.mk hr0
  have HC0 := Aside0.mk hc0
  clear hr0 hc0
  have H : (laws_heldByteS.l0 k l0 a1 0) = some r := h
  clear h
  have H' := Aside0.mk H
  clear H
  go_enter Try.func17, Try.ntmps17
  go_wp2
  go_loopg [1, 5] k (fun kq v1 v5 w' => ∃ (x1_1 : Int) (x5_1 : Int), v1 = .int .i64 x1_1 ∧ v5 = .int .i64 x5_1 ∧ Aside0 (laws_heldByteS.l0 kq l0 x1_1 x5_1 = some r) ∧ Aside0 (kq ≤ k) ∧ Drawn0 w w')
  case atStart => exact ⟨(a1), (0), (by first | rfl | (simp; done) | (simp [*]; done)), (by first | rfl | (simp; done) | (simp [*]; done)), H', ⟨Nat.le_refl _⟩, by repeat (first | exact Drawn0.refl _ | apply Drawn0.step)⟩
  case round =>
    clear H'
    try clear c1
    try clear p2
    obtain ⟨x1_1, x5_1, rfl, rfl, HA, HK1, ⟨m1, rfl⟩⟩ := hrel
    cases gk with
    | zero => exact absurd HA.out (by simp [laws_heldByteS.l0])
    | succ k1 =>
      have H := HA.out
      clear HA
      simp only [laws_heldByteS.l0] at H
      by_cases c3 : x5_1 < (l0.length : Int)
      · rw [if_pos c3] at H
        have c3b0 : decide (x5_1 < (l0.length : Int)) = true := decide_eq_true c3
        clear c3
        by_cases c4 : 0 ≤ x5_1
        · rw [if_pos c4] at H
          have c4b0 : decide (0 ≤ x5_1) = true := decide_eq_true c4
          clear c4
          by_cases c5 : (rd l0 x5_1) = ((x1_1) % 256)
          · rw [if_pos c5] at H
            have c5b0 : ((rd l0 x5_1) == ((x1_1) % 256)) = true := beq_iff_eq.mpr c5
            have c5b1 : ((rd l0 x5_1) != ((x1_1) % 256)) = false := bne_eq_false_iff_eq.mpr c5
            clear c5
            have H' := Aside0.mk H
            clear H
            have p302 : 0 ≤ (x5_1 : Int) := of_decide_eq_true (by first | (with_reducible assumption) | assumption)
            have q302 : x5_1 < (l0.length : Int) := of_decide_eq_true (by first | (with_reducible assumption) | assumption)
            obtain ⟨ad302, e302, hx302_0⟩ := Kd.at_int HR0.out x5_1 p302 q302
            cases e302
            replace p302 := eq_true p302
            replace q302 := eq_true q302
            go_wp2
            go_roundg k1
            case measure => have := HK1.out; omega
            case rel => exact ⟨(wrap64 (x1_1 + 1)), (wrap64 (x5_1 + 1)), (by first | rfl | (simp; done) | (simp [*]; done)), (by first | rfl | (simp; done) | (simp [*]; done)), H', ⟨by have := HK1.out; omega⟩, by repeat (first | exact Drawn0.refl _ | apply Drawn0.step)⟩
          · rw [if_neg c5] at H
            have c5b0 : ((rd l0 x5_1) == ((x1_1) % 256)) = false := beq_eq_false_iff_ne.mpr c5
            have c5b1 : ((rd l0 x5_1) != ((x1_1) % 256)) = true := bne_iff_ne.mpr c5
            obtain rfl := Option.some.inj H
            have p302 : 0 ≤ (x5_1 : Int) := of_decide_eq_true (by first | (with_reducible assumption) | assumption)
            have q302 : x5_1 < (l0.length : Int) := of_decide_eq_true (by first | (with_reducible assumption) | assumption)
            obtain ⟨ad302, e302, hx302_0⟩ := Kd.at_int HR0.out x5_1 p302 q302
            cases e302
            replace p302 := eq_true p302
            replace q302 := eq_true q302
            go_wp2
            go_ret
            exact ⟨by first | rfl | (simp; done) | (simp [*]; done), by repeat (first | exact Drawn0.refl _ | apply Drawn0.step)⟩
        · rw [if_neg c4] at H
          exact absurd H (by simp)
      · rw [if_neg c3] at H
        have c3b0 : decide (x5_1 < (l0.length : Int)) = false := decide_eq_false c3
        clear c3
        obtain rfl := Option.some.inj H
        go_wp2
        go_ret
        exact ⟨by first | rfl | (simp; done) | (simp [*]; done), by repeat (first | exact Drawn0.refl _ | apply Drawn0.step)⟩
end Go.Proofs.Ytndjodgcemgpfaa.Q
end

section
set_option linter.unusedVariables false
set_option linter.unusedSimpArgs false
namespace Go.Proofs.Ytndjodgcemgpfaa.Q
open Go.RowKit Go.Proofs.YtndjodgcemgpfaaW.PrintWords Go.Proofs.YtndjodgcemgpfaaW.PrintLast Go.Proofs.YtndjodgcemgpfaaW.PrintMore
set_option maxHeartbeats 8000000 in
set_option maxRecDepth 100000 in
theorem laws_FnExactRecordBytes.walk (k : Nat) (kd sq : Int) (id did : ByteArray) (A : Option Addr) (c : Nat) (vs : List S134) (w : World) (hr : Kd.C k134 w A vs.length vs) (hc : vs.length ≤ c)
    (sz : Int) (ds : List S84) (wb : List Int) (wc k1 m : Int) (ds' : List S84) (wb' : List Int)
    (h1 : laws_szRecord.f k kd sq id did vs 1048576 = some sz) (h2 : laws_toRecord.f k kd sq id did vs = some (kd, sq, id, did, ds)) (h3 : spec_RecordBytes.f k kd sq id did ds = some (wb, wc)) (h4 : impl_RecordBytes.f k kd sq id did ds = some (wb, wc)) (h5 : laws_eqByteS.f k wb wb = some true) (h6 : laws_eqRecord.f k kd sq id did ds kd sq id did ds = some true) (h7 : laws_markValueS.f k ds 1 = some (k1, ds')) (h8 : laws_markByteS.f k wb 1 = some (m, wb')) (h9 : laws_heldByteS.f k wb' 1 = some m) (hsz : 0 ≤ sz) (hk1 : 0 ≤ k1) (hm : 0 ≤ m) :
    Calls Try.prog 5 #[.agg #[.int .i64 kd, .int .i64 sq, .string id, .string did, .slice A vs.length c]] w fun e w' => e = .returned (.bool true) ∧ Below w.heap.size w w' := by
  have hu43 := Try.underlying43
  have hu47 := Try.underlying47
  have HR := Aside0.mk hr
  have HC := Aside0.mk hc
  have H1 := Aside0.mk h1
  have H2 := Aside0.mk h2
  have H3 := Aside0.mk h3
  have H4 := Aside0.mk h4
  have H5 := Aside0.mk h5
  have H6 := Aside0.mk h6
  have H7 := Aside0.mk h7
  have H8 := Aside0.mk h8
  have H9 := Aside0.mk h9
  clear hr hc h1 h2 h3 h4 h5 h6 h7 h8 h9
  have hsz' : decide (sz < 0) = false := decide_eq_false (by omega)
  have hk1' : decide (k1 < 0) = false := decide_eq_false (by omega)
  have hm' : decide (m < 0) = false := decide_eq_false (by omega)
  have HB := Aside0.mk (Below.refl w.heap.size w)
  go_enter Try.func5, Try.ntmps5
  go_wp2_with fail
  go_at_call 22
  refine (laws_szRecord.calls k kd sq id did _ _ vs 1048576 sz _ (Kd.C_below HR.out (below_alloc HB.out _)) HC.out H1.out).mono ?_
  rintro e w1 ⟨rfl, hb⟩
  have HB2 := Aside0.mk (below_step (below_alloc HB.out _) hb)
  have B_t_3 := Aside0.mk (blk_below (blk_new w _) hb)
  have Z4 := Aside0.mk (show w.heap.size + 1 ≤ w1.heap.size from by have := hb.size; simpa using this)
  clear HB  hb 
  have hx_t_0 : w1.cell? ⟨w.heap.size, 0, none⟩ = some (.int .i64 kd) := (blk_cell B_t_3.out 0).trans rfl
  have hx_t_1 : w1.cell? ⟨w.heap.size, 1, none⟩ = some (.int .i64 sq) := (blk_cell B_t_3.out 1).trans rfl
  have hx_t_2 : w1.cell? ⟨w.heap.size, 2, none⟩ = some (.string id) := (blk_cell B_t_3.out 2).trans rfl
  have hx_t_3 : w1.cell? ⟨w.heap.size, 3, none⟩ = some (.string did) := (blk_cell B_t_3.out 3).trans rfl
  have hx_t_4 : w1.cell? ⟨w.heap.size, 4, none⟩ = some (.slice A vs.length c) := (blk_cell B_t_3.out 4).trans rfl
  go_wp2_with fail
  go_at_call 24
  refine (laws_toRecord.calls k kd sq id did _ _ vs kd sq id did ds _ (Kd.C_below HR.out HB2.out) HC.out H2.out).mono ?_
  rintro e w6 ⟨v5, rfl, ho0, hb⟩
  have HB7 := Aside0.mk (below_step HB2.out hb)
  have B_t_8 := Aside0.mk (blk_below B_t_3.out hb)
  have Z9 := Aside0.mk (show w1.heap.size ≤ w6.heap.size from by have := hb.size; simpa using this)
  have O_d1_10 := Aside0.mk (Kd.S_mono (ok' := fun k_ => w1.heap.size ≤ k_ ∧ k_ < w6.heap.size) (Kd.S_span ho0 HB2.out.size) (fun k_ hk_ => by simpa using hk_))
  obtain ⟨A11, c12, e13⟩ := Kd.S_slice O_d1_10.out
  subst e13
  clear HB2 B_t_3 hb ho0 hx_t_0 hx_t_1 hx_t_2 hx_t_3 hx_t_4
  have hx_t_0 : w6.cell? ⟨w.heap.size, 0, none⟩ = some (.int .i64 kd) := (blk_cell B_t_8.out 0).trans rfl
  have hx_t_1 : w6.cell? ⟨w.heap.size, 1, none⟩ = some (.int .i64 sq) := (blk_cell B_t_8.out 1).trans rfl
  have hx_t_2 : w6.cell? ⟨w.heap.size, 2, none⟩ = some (.string id) := (blk_cell B_t_8.out 2).trans rfl
  have hx_t_3 : w6.cell? ⟨w.heap.size, 3, none⟩ = some (.string did) := (blk_cell B_t_8.out 3).trans rfl
  have hx_t_4 : w6.cell? ⟨w.heap.size, 4, none⟩ = some (.slice A vs.length c) := (blk_cell B_t_8.out 4).trans rfl
  go_wp2_with fail
  go_at_call 23
  refine (spec_RecordBytes.calls k kd sq id did _ _ ds wb wc _ (Kd.S_reads' O_d1_10.out).2.2 (by have h_ := Kd.S_reads' O_d1_10.out; have := h_.1; have := h_.2.1; omega) H3.out).mono ?_
  rintro e w15 ⟨v14, rfl, ho0, hb⟩
  have HB16 := Aside0.mk (below_step HB7.out hb)
  have O_d1_17 := Aside0.mk (Kd.S_below O_d1_10.out hb)
  have B_t_18 := Aside0.mk (blk_below B_t_8.out hb)
  have Z19 := Aside0.mk (show w6.heap.size ≤ w15.heap.size from by have := hb.size; simpa using this)
  have O_w0_20 := Aside0.mk (Kd.R_mono (ok' := fun k_ => w6.heap.size ≤ k_ ∧ k_ < w15.heap.size) (Kd.R_span ho0 HB7.out.size) (fun k_ hk_ => by simpa using hk_))
  obtain ⟨A21, c22, e23⟩ := Kd.R_slice O_w0_20.out
  subst e23
  clear HB7 O_d1_10 B_t_8 hb ho0 hx_t_0 hx_t_1 hx_t_2 hx_t_3 hx_t_4
  have hx_t_0 : w15.cell? ⟨w.heap.size, 0, none⟩ = some (.int .i64 kd) := (blk_cell B_t_18.out 0).trans rfl
  have hx_t_1 : w15.cell? ⟨w.heap.size, 1, none⟩ = some (.int .i64 sq) := (blk_cell B_t_18.out 1).trans rfl
  have hx_t_2 : w15.cell? ⟨w.heap.size, 2, none⟩ = some (.string id) := (blk_cell B_t_18.out 2).trans rfl
  have hx_t_3 : w15.cell? ⟨w.heap.size, 3, none⟩ = some (.string did) := (blk_cell B_t_18.out 3).trans rfl
  have hx_t_4 : w15.cell? ⟨w.heap.size, 4, none⟩ = some (.slice A vs.length c) := (blk_cell B_t_18.out 4).trans rfl
  go_wp2_with fail
  go_at_call 24
  refine (laws_toRecord.calls k kd sq id did _ _ vs kd sq id did ds _ (Kd.C_below HR.out HB16.out) HC.out H2.out).mono ?_
  rintro e w25 ⟨v24, rfl, ho0, hb⟩
  have HB26 := Aside0.mk (below_step HB16.out hb)
  have O_d1_27 := Aside0.mk (Kd.S_below O_d1_17.out hb)
  have O_w0_28 := Aside0.mk (Kd.R_below O_w0_20.out hb)
  have B_t_29 := Aside0.mk (blk_below B_t_18.out hb)
  have Z30 := Aside0.mk (show w15.heap.size ≤ w25.heap.size from by have := hb.size; simpa using this)
  have O_x0_31 := Aside0.mk (Kd.S_mono (ok' := fun k_ => w15.heap.size ≤ k_ ∧ k_ < w25.heap.size) (Kd.S_span ho0 HB16.out.size) (fun k_ hk_ => by simpa using hk_))
  obtain ⟨A32, c33, e34⟩ := Kd.S_slice O_x0_31.out
  subst e34
  clear HB16 O_d1_17 O_w0_20 B_t_18 hb ho0 hx_t_0 hx_t_1 hx_t_2 hx_t_3 hx_t_4
  have hx_t_0 : w25.cell? ⟨w.heap.size, 0, none⟩ = some (.int .i64 kd) := (blk_cell B_t_29.out 0).trans rfl
  have hx_t_1 : w25.cell? ⟨w.heap.size, 1, none⟩ = some (.int .i64 sq) := (blk_cell B_t_29.out 1).trans rfl
  have hx_t_2 : w25.cell? ⟨w.heap.size, 2, none⟩ = some (.string id) := (blk_cell B_t_29.out 2).trans rfl
  have hx_t_3 : w25.cell? ⟨w.heap.size, 3, none⟩ = some (.string did) := (blk_cell B_t_29.out 3).trans rfl
  have hx_t_4 : w25.cell? ⟨w.heap.size, 4, none⟩ = some (.slice A vs.length c) := (blk_cell B_t_29.out 4).trans rfl
  go_wp2_with fail
  go_at_call 25
  refine (impl_RecordBytes.calls k kd sq id did _ _ ds wb wc _ (Kd.C_alloc (Kd.S_reads' O_x0_31.out).2.2 _) (by have h_ := Kd.S_reads' O_x0_31.out; have := h_.1; have := h_.2.1; omega) H4.out).mono ?_
  rintro e w36 ⟨v35, rfl, ho0, hb⟩
  have HB37 := Aside0.mk (below_step (below_alloc HB26.out _) hb)
  have O_d1_38 := Aside0.mk (Kd.S_below (Kd.S_alloc O_d1_27.out _) hb)
  have O_w0_39 := Aside0.mk (Kd.R_below (Kd.R_alloc O_w0_28.out _) hb)
  have O_x0_40 := Aside0.mk (Kd.S_below (Kd.S_alloc O_x0_31.out _) hb)
  have B_t_41 := Aside0.mk (blk_below (blk_alloc B_t_29.out _) hb)
  have B_x_42 := Aside0.mk (blk_below (blk_new w25 _) hb)
  have Z43 := Aside0.mk (show w25.heap.size + 1 ≤ w36.heap.size from by have := hb.size; simpa using this)
  have O_g0_44 := Aside0.mk (Kd.R_mono (ok' := fun k_ => w25.heap.size + 1 ≤ k_ ∧ k_ < w36.heap.size) (Kd.R_span ho0 (below_alloc HB26.out _).size) (fun k_ hk_ => by simpa using hk_))
  obtain ⟨A45, c46, e47⟩ := Kd.R_slice O_g0_44.out
  subst e47
  clear HB26 O_d1_27 O_w0_28 O_x0_31 B_t_29 hb ho0 hx_t_0 hx_t_1 hx_t_2 hx_t_3 hx_t_4
  have hx_t_0 : w36.cell? ⟨w.heap.size, 0, none⟩ = some (.int .i64 kd) := (blk_cell B_t_41.out 0).trans rfl
  have hx_t_1 : w36.cell? ⟨w.heap.size, 1, none⟩ = some (.int .i64 sq) := (blk_cell B_t_41.out 1).trans rfl
  have hx_t_2 : w36.cell? ⟨w.heap.size, 2, none⟩ = some (.string id) := (blk_cell B_t_41.out 2).trans rfl
  have hx_t_3 : w36.cell? ⟨w.heap.size, 3, none⟩ = some (.string did) := (blk_cell B_t_41.out 3).trans rfl
  have hx_t_4 : w36.cell? ⟨w.heap.size, 4, none⟩ = some (.slice A vs.length c) := (blk_cell B_t_41.out 4).trans rfl
  have hx_x_0 : w36.cell? ⟨w25.heap.size, 0, none⟩ = some (.int .i64 kd) := (blk_cell B_x_42.out 0).trans rfl
  have hx_x_1 : w36.cell? ⟨w25.heap.size, 1, none⟩ = some (.int .i64 sq) := (blk_cell B_x_42.out 1).trans rfl
  have hx_x_2 : w36.cell? ⟨w25.heap.size, 2, none⟩ = some (.string id) := (blk_cell B_x_42.out 2).trans rfl
  have hx_x_3 : w36.cell? ⟨w25.heap.size, 3, none⟩ = some (.string did) := (blk_cell B_x_42.out 3).trans rfl
  have hx_x_4 : w36.cell? ⟨w25.heap.size, 4, none⟩ = some (.slice A32 ds.length c33) := (blk_cell B_x_42.out 4).trans rfl
  go_wp2_with fail
  go_at_call 13
  refine (laws_eqByteS.calls k _ _ wb _ _ wb true _ (Kd.R_reads' O_g0_44.out).2.2 (by have h_ := Kd.R_reads' O_g0_44.out; have := h_.1; have := h_.2.1; omega) (Kd.R_reads' O_w0_39.out).2.2 (by have h_ := Kd.R_reads' O_w0_39.out; have := h_.1; have := h_.2.1; omega) H5.out).mono ?_
  rintro e w48 ⟨rfl, hd⟩
  have hb := hd.below
  have HB49 := Aside0.mk (below_step HB37.out hb)
  have O_d1_50 := Aside0.mk (Kd.S_below O_d1_38.out hb)
  have O_w0_51 := Aside0.mk (Kd.R_below O_w0_39.out hb)
  have O_x0_52 := Aside0.mk (Kd.S_below O_x0_40.out hb)
  have O_g0_53 := Aside0.mk (Kd.R_below O_g0_44.out hb)
  have B_t_54 := Aside0.mk (blk_below B_t_41.out hb)
  have B_x_55 := Aside0.mk (blk_below B_x_42.out hb)
  have Z56 := Aside0.mk (show w36.heap.size ≤ w48.heap.size from by have := hb.size; simpa using this)
  clear HB37 O_d1_38 O_w0_39 O_x0_40 O_g0_44 B_t_41 B_x_42 hb  hd hx_t_0 hx_t_1 hx_t_2 hx_t_3 hx_t_4 hx_x_0 hx_x_1 hx_x_2 hx_x_3 hx_x_4
  have hx_t_0 : w48.cell? ⟨w.heap.size, 0, none⟩ = some (.int .i64 kd) := (blk_cell B_t_54.out 0).trans rfl
  have hx_t_1 : w48.cell? ⟨w.heap.size, 1, none⟩ = some (.int .i64 sq) := (blk_cell B_t_54.out 1).trans rfl
  have hx_t_2 : w48.cell? ⟨w.heap.size, 2, none⟩ = some (.string id) := (blk_cell B_t_54.out 2).trans rfl
  have hx_t_3 : w48.cell? ⟨w.heap.size, 3, none⟩ = some (.string did) := (blk_cell B_t_54.out 3).trans rfl
  have hx_t_4 : w48.cell? ⟨w.heap.size, 4, none⟩ = some (.slice A vs.length c) := (blk_cell B_t_54.out 4).trans rfl
  have hx_x_0 : w48.cell? ⟨w25.heap.size, 0, none⟩ = some (.int .i64 kd) := (blk_cell B_x_55.out 0).trans rfl
  have hx_x_1 : w48.cell? ⟨w25.heap.size, 1, none⟩ = some (.int .i64 sq) := (blk_cell B_x_55.out 1).trans rfl
  have hx_x_2 : w48.cell? ⟨w25.heap.size, 2, none⟩ = some (.string id) := (blk_cell B_x_55.out 2).trans rfl
  have hx_x_3 : w48.cell? ⟨w25.heap.size, 3, none⟩ = some (.string did) := (blk_cell B_x_55.out 3).trans rfl
  have hx_x_4 : w48.cell? ⟨w25.heap.size, 4, none⟩ = some (.slice A32 ds.length c33) := (blk_cell B_x_55.out 4).trans rfl
  go_wp2_with fail
  go_region_held3 (fun w' => w'.cell? ⟨w.heap.size, 0, none⟩ = some (.int .i64 kd) ∧ w'.cell? ⟨w.heap.size, 1, none⟩ = some (.int .i64 sq) ∧ w'.cell? ⟨w.heap.size, 2, none⟩ = some (.string id) ∧ w'.cell? ⟨w.heap.size, 3, none⟩ = some (.string did) ∧ w'.cell? ⟨w.heap.size, 4, none⟩ = some (.slice A vs.length c) ∧ w'.cell? ⟨w25.heap.size, 0, none⟩ = some (.int .i64 kd) ∧ w'.cell? ⟨w25.heap.size, 1, none⟩ = some (.int .i64 sq) ∧ w'.cell? ⟨w25.heap.size, 2, none⟩ = some (.string id) ∧ w'.cell? ⟨w25.heap.size, 3, none⟩ = some (.string did) ∧ w'.cell? ⟨w25.heap.size, 4, none⟩ = some (.slice A32 ds.length c33))
    (first | exact ⟨hx_t_0, hx_t_1, hx_t_2, hx_t_3, hx_t_4, hx_x_0, hx_x_1, hx_x_2, hx_x_3, hx_x_4⟩ | exact ⟨hx0_.out, hx1_.out, hx2_.out, hx3_.out, hx4_.out, hx5_.out, hx6_.out, hx7_.out, hx8_.out, hx9_.out⟩ | exact ⟨hz0_.out, hz1_.out, hz2_.out, hz3_.out, hz4_.out, hz5_.out, hz6_.out, hz7_.out, hz8_.out, hz9_.out⟩)
    (first | (go_at_call 24; refine (laws_toRecord.calls k kd sq id did _ _ vs kd sq id did ds _ (Kd.C_below HR.out (below_drew HB49.out)) HC.out H2.out).mono ?_; rintro e w58 ⟨v57, rfl, ho0, hb⟩; have HB59 := Aside0.mk (below_step (below_drew HB49.out) hb); have O_d1_60 := Aside0.mk (Kd.S_below (Kd.S_drew O_d1_50.out) hb); have O_w0_61 := Aside0.mk (Kd.R_below (Kd.R_drew O_w0_51.out) hb); have O_x0_62 := Aside0.mk (Kd.S_below (Kd.S_drew O_x0_52.out) hb); have O_g0_63 := Aside0.mk (Kd.R_below (Kd.R_drew O_g0_53.out) hb); have B_t_64 := Aside0.mk (blk_below (blk_drew B_t_54.out) hb); have B_x_65 := Aside0.mk (blk_below (blk_drew B_x_55.out) hb); have Z66 := Aside0.mk (show w48.heap.size ≤ w58.heap.size from by have := hb.size; simpa using this); have O_y0_67 := Aside0.mk (Kd.S_mono (ok' := fun k_ => w48.heap.size ≤ k_ ∧ k_ < w58.heap.size) (Kd.S_span ho0 (below_drew HB49.out).size) (fun k_ hk_ => by simpa using hk_)); obtain ⟨A68, c69, e70⟩ := Kd.S_slice O_y0_67.out; subst e70; clear HB49 O_d1_50 O_w0_51 O_x0_52 O_g0_53 B_t_54 B_x_55 hb ho0; clear hx_t_0 hx_t_1 hx_t_2 hx_t_3 hx_t_4 hx_x_0 hx_x_1 hx_x_2 hx_x_3 hx_x_4; have hx0_ := Aside0.mk ((blk_cell B_t_64.out 0).trans rfl); have hx1_ := Aside0.mk ((blk_cell B_t_64.out 1).trans rfl); have hx2_ := Aside0.mk ((blk_cell B_t_64.out 2).trans rfl); have hx3_ := Aside0.mk ((blk_cell B_t_64.out 3).trans rfl); have hx4_ := Aside0.mk ((blk_cell B_t_64.out 4).trans rfl); have hx5_ := Aside0.mk ((blk_cell B_x_65.out 0).trans rfl); have hx6_ := Aside0.mk ((blk_cell B_x_65.out 1).trans rfl); have hx7_ := Aside0.mk ((blk_cell B_x_65.out 2).trans rfl); have hx8_ := Aside0.mk ((blk_cell B_x_65.out 3).trans rfl); have hx9_ := Aside0.mk ((blk_cell B_x_65.out 4).trans rfl)) | (go_at_call 26; refine (laws_eqRecord.calls k kd sq id did _ _ ds kd sq id did _ _ ds true _ (Kd.S_reads' O_x0_62.out).2.2 (by have h_ := Kd.S_reads' O_x0_62.out; have := h_.1; have := h_.2.1; omega) (Kd.S_reads' O_y0_67.out).2.2 (by have h_ := Kd.S_reads' O_y0_67.out; have := h_.1; have := h_.2.1; omega) H6.out).mono ?_; rintro e w71 ⟨rfl, hb⟩; have HB72 := Aside0.mk (below_step HB59.out hb); have O_d1_73 := Aside0.mk (Kd.S_below O_d1_60.out hb); have O_w0_74 := Aside0.mk (Kd.R_below O_w0_61.out hb); have O_x0_75 := Aside0.mk (Kd.S_below O_x0_62.out hb); have O_g0_76 := Aside0.mk (Kd.R_below O_g0_63.out hb); have O_y0_77 := Aside0.mk (Kd.S_below O_y0_67.out hb); have B_t_78 := Aside0.mk (blk_below B_t_64.out hb); have B_x_79 := Aside0.mk (blk_below B_x_65.out hb); have Z80 := Aside0.mk (show w58.heap.size ≤ w71.heap.size from by have := hb.size; simpa using this); clear HB59 O_d1_60 O_w0_61 O_x0_62 O_g0_63 O_y0_67 B_t_64 B_x_65 hb ; clear hx0_ hx1_ hx2_ hx3_ hx4_ hx5_ hx6_ hx7_ hx8_ hx9_; have hz0_ := Aside0.mk ((blk_cell B_t_78.out 0).trans rfl); have hz1_ := Aside0.mk ((blk_cell B_t_78.out 1).trans rfl); have hz2_ := Aside0.mk ((blk_cell B_t_78.out 2).trans rfl); have hz3_ := Aside0.mk ((blk_cell B_t_78.out 3).trans rfl); have hz4_ := Aside0.mk ((blk_cell B_t_78.out 4).trans rfl); have hz5_ := Aside0.mk ((blk_cell B_x_79.out 0).trans rfl); have hz6_ := Aside0.mk ((blk_cell B_x_79.out 1).trans rfl); have hz7_ := Aside0.mk ((blk_cell B_x_79.out 2).trans rfl); have hz8_ := Aside0.mk ((blk_cell B_x_79.out 3).trans rfl); have hz9_ := Aside0.mk ((blk_cell B_x_79.out 4).trans rfl)))
  clear hz0_ hz1_ hz2_ hz3_ hz4_ hz5_ hz6_ hz7_ hz8_ hz9_
  have hx_t_0 : w71.cell? ⟨w.heap.size, 0, none⟩ = some (.int .i64 kd) := (blk_cell B_t_78.out 0).trans rfl
  have hx_t_1 : w71.cell? ⟨w.heap.size, 1, none⟩ = some (.int .i64 sq) := (blk_cell B_t_78.out 1).trans rfl
  have hx_t_2 : w71.cell? ⟨w.heap.size, 2, none⟩ = some (.string id) := (blk_cell B_t_78.out 2).trans rfl
  have hx_t_3 : w71.cell? ⟨w.heap.size, 3, none⟩ = some (.string did) := (blk_cell B_t_78.out 3).trans rfl
  have hx_t_4 : w71.cell? ⟨w.heap.size, 4, none⟩ = some (.slice A vs.length c) := (blk_cell B_t_78.out 4).trans rfl
  have hx_x_0 : w71.cell? ⟨w25.heap.size, 0, none⟩ = some (.int .i64 kd) := (blk_cell B_x_79.out 0).trans rfl
  have hx_x_1 : w71.cell? ⟨w25.heap.size, 1, none⟩ = some (.int .i64 sq) := (blk_cell B_x_79.out 1).trans rfl
  have hx_x_2 : w71.cell? ⟨w25.heap.size, 2, none⟩ = some (.string id) := (blk_cell B_x_79.out 2).trans rfl
  have hx_x_3 : w71.cell? ⟨w25.heap.size, 3, none⟩ = some (.string did) := (blk_cell B_x_79.out 3).trans rfl
  have hx_x_4 : w71.cell? ⟨w25.heap.size, 4, none⟩ = some (.slice A32 ds.length c33) := (blk_cell B_x_79.out 4).trans rfl
  go_wp2_with fail
  go_at_call 27
  refine (laws_markRecord.calls k (fun k_ => w15.heap.size ≤ k_ ∧ k_ < w25.heap.size) kd sq id did _ ds 1 k1 ds' w _ HB72.out O_x0_75.out H7.out).mono ?_
  rintro e w81 ⟨rfl, hy, hb, hk⟩
  have HB82 := Aside0.mk hb
  have Z83 := Aside0.mk (show w71.heap.size ≤ w81.heap.size from by have := hk.1; simpa using this)
  have O_d1_84 := Aside0.mk (Kd.S_kept O_d1_73.out hk (fun k_ h1_ h2_ => by have := Z4.out; have := Z9.out; have := Z19.out; have := Z30.out; have := Z43.out; have := Z56.out; have := Z66.out; have := Z80.out; have := h1_.1; have := h1_.2; have := h2_.1; have := h2_.2; omega))
  have O_w0_85 := Aside0.mk (Kd.R_kept O_w0_74.out hk (fun k_ h1_ h2_ => by have := Z4.out; have := Z9.out; have := Z19.out; have := Z30.out; have := Z43.out; have := Z56.out; have := Z66.out; have := Z80.out; have := h1_.1; have := h1_.2; have := h2_.1; have := h2_.2; omega))
  have O_g0_86 := Aside0.mk (Kd.R_kept O_g0_76.out hk (fun k_ h1_ h2_ => by have := Z4.out; have := Z9.out; have := Z19.out; have := Z30.out; have := Z43.out; have := Z56.out; have := Z66.out; have := Z80.out; have := h1_.1; have := h1_.2; have := h2_.1; have := h2_.2; omega))
  have O_y0_87 := Aside0.mk (Kd.S_kept O_y0_77.out hk (fun k_ h1_ h2_ => by have := Z4.out; have := Z9.out; have := Z19.out; have := Z30.out; have := Z43.out; have := Z56.out; have := Z66.out; have := Z80.out; have := h1_.1; have := h1_.2; have := h2_.1; have := h2_.2; omega))
  have B_t_88 := Aside0.mk (blk_kept B_t_78.out hk (fun hs_ => absurd hs_ (by have := Z4.out; have := Z9.out; have := Z19.out; have := Z30.out; have := Z43.out; have := Z56.out; have := Z66.out; have := Z80.out; intro h_; have := h_.1; have := h_.2; omega)))
  have B_x_89 := Aside0.mk (blk_kept B_x_79.out hk (fun hs_ => absurd hs_ (by have := Z4.out; have := Z9.out; have := Z19.out; have := Z30.out; have := Z43.out; have := Z56.out; have := Z66.out; have := Z80.out; intro h_; have := h_.1; have := h_.2; omega)))
  have O_x0_90 := Aside0.mk (hy)
  clear HB72 O_d1_73 O_w0_74 O_g0_76 O_y0_77 B_t_78 B_x_79 O_x0_75 hy hb hk hx_t_0 hx_t_1 hx_t_2 hx_t_3 hx_t_4 hx_x_0 hx_x_1 hx_x_2 hx_x_3 hx_x_4
  have hx_t_0 : w81.cell? ⟨w.heap.size, 0, none⟩ = some (.int .i64 kd) := (blk_cell B_t_88.out 0).trans rfl
  have hx_t_1 : w81.cell? ⟨w.heap.size, 1, none⟩ = some (.int .i64 sq) := (blk_cell B_t_88.out 1).trans rfl
  have hx_t_2 : w81.cell? ⟨w.heap.size, 2, none⟩ = some (.string id) := (blk_cell B_t_88.out 2).trans rfl
  have hx_t_3 : w81.cell? ⟨w.heap.size, 3, none⟩ = some (.string did) := (blk_cell B_t_88.out 3).trans rfl
  have hx_t_4 : w81.cell? ⟨w.heap.size, 4, none⟩ = some (.slice A vs.length c) := (blk_cell B_t_88.out 4).trans rfl
  have hx_x_0 : w81.cell? ⟨w25.heap.size, 0, none⟩ = some (.int .i64 kd) := (blk_cell B_x_89.out 0).trans rfl
  have hx_x_1 : w81.cell? ⟨w25.heap.size, 1, none⟩ = some (.int .i64 sq) := (blk_cell B_x_89.out 1).trans rfl
  have hx_x_2 : w81.cell? ⟨w25.heap.size, 2, none⟩ = some (.string id) := (blk_cell B_x_89.out 2).trans rfl
  have hx_x_3 : w81.cell? ⟨w25.heap.size, 3, none⟩ = some (.string did) := (blk_cell B_x_89.out 3).trans rfl
  have hx_x_4 : w81.cell? ⟨w25.heap.size, 4, none⟩ = some (.slice A32 ds.length c33) := (blk_cell B_x_89.out 4).trans rfl
  go_wp2_with fail
  go_at_call 13
  refine (laws_eqByteS.calls k _ _ wb _ _ wb true _ (Kd.R_reads' O_g0_86.out).2.2 (by have h_ := Kd.R_reads' O_g0_86.out; have := h_.1; have := h_.2.1; omega) (Kd.R_reads' O_w0_85.out).2.2 (by have h_ := Kd.R_reads' O_w0_85.out; have := h_.1; have := h_.2.1; omega) H5.out).mono ?_
  rintro e w91 ⟨rfl, hd⟩
  have hb := hd.below
  have HB92 := Aside0.mk (below_step HB82.out hb)
  have O_d1_93 := Aside0.mk (Kd.S_below O_d1_84.out hb)
  have O_w0_94 := Aside0.mk (Kd.R_below O_w0_85.out hb)
  have O_x0_95 := Aside0.mk (Kd.S_below O_x0_90.out hb)
  have O_g0_96 := Aside0.mk (Kd.R_below O_g0_86.out hb)
  have O_y0_97 := Aside0.mk (Kd.S_below O_y0_87.out hb)
  have B_t_98 := Aside0.mk (blk_below B_t_88.out hb)
  have B_x_99 := Aside0.mk (blk_below B_x_89.out hb)
  have Z100 := Aside0.mk (show w81.heap.size ≤ w91.heap.size from by have := hb.size; simpa using this)
  clear HB82 O_d1_84 O_w0_85 O_x0_90 O_g0_86 O_y0_87 B_t_88 B_x_89 hb  hd hx_t_0 hx_t_1 hx_t_2 hx_t_3 hx_t_4 hx_x_0 hx_x_1 hx_x_2 hx_x_3 hx_x_4
  have hx_t_0 : w91.cell? ⟨w.heap.size, 0, none⟩ = some (.int .i64 kd) := (blk_cell B_t_98.out 0).trans rfl
  have hx_t_1 : w91.cell? ⟨w.heap.size, 1, none⟩ = some (.int .i64 sq) := (blk_cell B_t_98.out 1).trans rfl
  have hx_t_2 : w91.cell? ⟨w.heap.size, 2, none⟩ = some (.string id) := (blk_cell B_t_98.out 2).trans rfl
  have hx_t_3 : w91.cell? ⟨w.heap.size, 3, none⟩ = some (.string did) := (blk_cell B_t_98.out 3).trans rfl
  have hx_t_4 : w91.cell? ⟨w.heap.size, 4, none⟩ = some (.slice A vs.length c) := (blk_cell B_t_98.out 4).trans rfl
  have hx_x_0 : w91.cell? ⟨w25.heap.size, 0, none⟩ = some (.int .i64 kd) := (blk_cell B_x_99.out 0).trans rfl
  have hx_x_1 : w91.cell? ⟨w25.heap.size, 1, none⟩ = some (.int .i64 sq) := (blk_cell B_x_99.out 1).trans rfl
  have hx_x_2 : w91.cell? ⟨w25.heap.size, 2, none⟩ = some (.string id) := (blk_cell B_x_99.out 2).trans rfl
  have hx_x_3 : w91.cell? ⟨w25.heap.size, 3, none⟩ = some (.string did) := (blk_cell B_x_99.out 3).trans rfl
  have hx_x_4 : w91.cell? ⟨w25.heap.size, 4, none⟩ = some (.slice A32 ds.length c33) := (blk_cell B_x_99.out 4).trans rfl
  go_wp2_with fail
  go_at_call 16
  refine (laws_markByteS.calls k (fun k_ => w25.heap.size + 1 ≤ k_ ∧ k_ < w36.heap.size) _ wb 1 m wb' w _ HB92.out O_g0_96.out H8.out).mono ?_
  rintro e w101 ⟨rfl, hy, hb, hk⟩
  have HB102 := Aside0.mk hb
  have Z103 := Aside0.mk (show w91.heap.size ≤ w101.heap.size from by have := hk.1; simpa using this)
  have O_d1_104 := Aside0.mk (Kd.S_kept O_d1_93.out hk (fun k_ h1_ h2_ => by have := Z4.out; have := Z9.out; have := Z19.out; have := Z30.out; have := Z43.out; have := Z56.out; have := Z66.out; have := Z80.out; have := Z83.out; have := Z100.out; have := h1_.1; have := h1_.2; have := h2_.1; have := h2_.2; omega))
  have O_w0_105 := Aside0.mk (Kd.R_kept O_w0_94.out hk (fun k_ h1_ h2_ => by have := Z4.out; have := Z9.out; have := Z19.out; have := Z30.out; have := Z43.out; have := Z56.out; have := Z66.out; have := Z80.out; have := Z83.out; have := Z100.out; have := h1_.1; have := h1_.2; have := h2_.1; have := h2_.2; omega))
  have O_x0_106 := Aside0.mk (Kd.S_kept O_x0_95.out hk (fun k_ h1_ h2_ => by have := Z4.out; have := Z9.out; have := Z19.out; have := Z30.out; have := Z43.out; have := Z56.out; have := Z66.out; have := Z80.out; have := Z83.out; have := Z100.out; have := h1_.1; have := h1_.2; have := h2_.1; have := h2_.2; omega))
  have O_y0_107 := Aside0.mk (Kd.S_kept O_y0_97.out hk (fun k_ h1_ h2_ => by have := Z4.out; have := Z9.out; have := Z19.out; have := Z30.out; have := Z43.out; have := Z56.out; have := Z66.out; have := Z80.out; have := Z83.out; have := Z100.out; have := h1_.1; have := h1_.2; have := h2_.1; have := h2_.2; omega))
  have B_t_108 := Aside0.mk (blk_kept B_t_98.out hk (fun hs_ => absurd hs_ (by have := Z4.out; have := Z9.out; have := Z19.out; have := Z30.out; have := Z43.out; have := Z56.out; have := Z66.out; have := Z80.out; have := Z83.out; have := Z100.out; intro h_; have := h_.1; have := h_.2; omega)))
  have B_x_109 := Aside0.mk (blk_kept B_x_99.out hk (fun hs_ => absurd hs_ (by have := Z4.out; have := Z9.out; have := Z19.out; have := Z30.out; have := Z43.out; have := Z56.out; have := Z66.out; have := Z80.out; have := Z83.out; have := Z100.out; intro h_; have := h_.1; have := h_.2; omega)))
  have O_g0_110 := Aside0.mk (Kd.R_reok rfl hy (fun k_ e_ => O_g0_96.out.1 k_ e_))
  clear HB92 O_d1_93 O_w0_94 O_x0_95 O_y0_97 B_t_98 B_x_99 O_g0_96 hy hb hk hx_t_0 hx_t_1 hx_t_2 hx_t_3 hx_t_4 hx_x_0 hx_x_1 hx_x_2 hx_x_3 hx_x_4
  have hx_t_0 : w101.cell? ⟨w.heap.size, 0, none⟩ = some (.int .i64 kd) := (blk_cell B_t_108.out 0).trans rfl
  have hx_t_1 : w101.cell? ⟨w.heap.size, 1, none⟩ = some (.int .i64 sq) := (blk_cell B_t_108.out 1).trans rfl
  have hx_t_2 : w101.cell? ⟨w.heap.size, 2, none⟩ = some (.string id) := (blk_cell B_t_108.out 2).trans rfl
  have hx_t_3 : w101.cell? ⟨w.heap.size, 3, none⟩ = some (.string did) := (blk_cell B_t_108.out 3).trans rfl
  have hx_t_4 : w101.cell? ⟨w.heap.size, 4, none⟩ = some (.slice A vs.length c) := (blk_cell B_t_108.out 4).trans rfl
  have hx_x_0 : w101.cell? ⟨w25.heap.size, 0, none⟩ = some (.int .i64 kd) := (blk_cell B_x_109.out 0).trans rfl
  have hx_x_1 : w101.cell? ⟨w25.heap.size, 1, none⟩ = some (.int .i64 sq) := (blk_cell B_x_109.out 1).trans rfl
  have hx_x_2 : w101.cell? ⟨w25.heap.size, 2, none⟩ = some (.string id) := (blk_cell B_x_109.out 2).trans rfl
  have hx_x_3 : w101.cell? ⟨w25.heap.size, 3, none⟩ = some (.string did) := (blk_cell B_x_109.out 3).trans rfl
  have hx_x_4 : w101.cell? ⟨w25.heap.size, 4, none⟩ = some (.slice A32 ds.length c33) := (blk_cell B_x_109.out 4).trans rfl
  go_wp2_with fail
  go_at_call 17
  refine calls_of_args (args' := #[.slice A45 wb'.length c46, .int .i64 1]) (by first | rfl | (rw [show wb'.length = wb.length from (Kd.R_reads' O_g0_110.out).1.symm])) ?_
  refine (laws_heldByteS.calls k _ _ wb' 1 m _ (Kd.R_reads' O_g0_110.out).2.2 (by have h_ := Kd.R_reads' O_g0_110.out; have := h_.1; have := h_.2.1; omega) H9.out).mono ?_
  rintro e w111 ⟨rfl, hd⟩
  have hb := hd.below
  have HB112 := Aside0.mk (below_step HB102.out hb)
  have O_d1_113 := Aside0.mk (Kd.S_below O_d1_104.out hb)
  have O_w0_114 := Aside0.mk (Kd.R_below O_w0_105.out hb)
  have O_x0_115 := Aside0.mk (Kd.S_below O_x0_106.out hb)
  have O_g0_116 := Aside0.mk (Kd.R_below O_g0_110.out hb)
  have O_y0_117 := Aside0.mk (Kd.S_below O_y0_107.out hb)
  have B_t_118 := Aside0.mk (blk_below B_t_108.out hb)
  have B_x_119 := Aside0.mk (blk_below B_x_109.out hb)
  have Z120 := Aside0.mk (show w101.heap.size ≤ w111.heap.size from by have := hb.size; simpa using this)
  clear HB102 O_d1_104 O_w0_105 O_x0_106 O_g0_110 O_y0_107 B_t_108 B_x_109 hb  hd hx_t_0 hx_t_1 hx_t_2 hx_t_3 hx_t_4 hx_x_0 hx_x_1 hx_x_2 hx_x_3 hx_x_4
  have hx_t_0 : w111.cell? ⟨w.heap.size, 0, none⟩ = some (.int .i64 kd) := (blk_cell B_t_118.out 0).trans rfl
  have hx_t_1 : w111.cell? ⟨w.heap.size, 1, none⟩ = some (.int .i64 sq) := (blk_cell B_t_118.out 1).trans rfl
  have hx_t_2 : w111.cell? ⟨w.heap.size, 2, none⟩ = some (.string id) := (blk_cell B_t_118.out 2).trans rfl
  have hx_t_3 : w111.cell? ⟨w.heap.size, 3, none⟩ = some (.string did) := (blk_cell B_t_118.out 3).trans rfl
  have hx_t_4 : w111.cell? ⟨w.heap.size, 4, none⟩ = some (.slice A vs.length c) := (blk_cell B_t_118.out 4).trans rfl
  have hx_x_0 : w111.cell? ⟨w25.heap.size, 0, none⟩ = some (.int .i64 kd) := (blk_cell B_x_119.out 0).trans rfl
  have hx_x_1 : w111.cell? ⟨w25.heap.size, 1, none⟩ = some (.int .i64 sq) := (blk_cell B_x_119.out 1).trans rfl
  have hx_x_2 : w111.cell? ⟨w25.heap.size, 2, none⟩ = some (.string id) := (blk_cell B_x_119.out 2).trans rfl
  have hx_x_3 : w111.cell? ⟨w25.heap.size, 3, none⟩ = some (.string did) := (blk_cell B_x_119.out 3).trans rfl
  have hx_x_4 : w111.cell? ⟨w25.heap.size, 4, none⟩ = some (.slice A32 ds.length c33) := (blk_cell B_x_119.out 4).trans rfl
  go_wp2_with fail
  go_at_call 24
  refine (laws_toRecord.calls k kd sq id did _ _ vs kd sq id did ds _ (Kd.C_below HR.out HB112.out) HC.out H2.out).mono ?_
  rintro e w122 ⟨v121, rfl, ho0, hb⟩
  have HB123 := Aside0.mk (below_step HB112.out hb)
  have O_d1_124 := Aside0.mk (Kd.S_below O_d1_113.out hb)
  have O_w0_125 := Aside0.mk (Kd.R_below O_w0_114.out hb)
  have O_x0_126 := Aside0.mk (Kd.S_below O_x0_115.out hb)
  have O_g0_127 := Aside0.mk (Kd.R_below O_g0_116.out hb)
  have O_y0_128 := Aside0.mk (Kd.S_below O_y0_117.out hb)
  have B_t_129 := Aside0.mk (blk_below B_t_118.out hb)
  have B_x_130 := Aside0.mk (blk_below B_x_119.out hb)
  have Z131 := Aside0.mk (show w111.heap.size ≤ w122.heap.size from by have := hb.size; simpa using this)
  have O_d2_132 := Aside0.mk (Kd.S_mono (ok' := fun k_ => w111.heap.size ≤ k_ ∧ k_ < w122.heap.size) (Kd.S_span ho0 HB112.out.size) (fun k_ hk_ => by simpa using hk_))
  obtain ⟨A133, c134, e135⟩ := Kd.S_slice O_d2_132.out
  subst e135
  clear HB112 O_d1_113 O_w0_114 O_x0_115 O_g0_116 O_y0_117 B_t_118 B_x_119 hb ho0 hx_t_0 hx_t_1 hx_t_2 hx_t_3 hx_t_4 hx_x_0 hx_x_1 hx_x_2 hx_x_3 hx_x_4
  have hx_t_0 : w122.cell? ⟨w.heap.size, 0, none⟩ = some (.int .i64 kd) := (blk_cell B_t_129.out 0).trans rfl
  have hx_t_1 : w122.cell? ⟨w.heap.size, 1, none⟩ = some (.int .i64 sq) := (blk_cell B_t_129.out 1).trans rfl
  have hx_t_2 : w122.cell? ⟨w.heap.size, 2, none⟩ = some (.string id) := (blk_cell B_t_129.out 2).trans rfl
  have hx_t_3 : w122.cell? ⟨w.heap.size, 3, none⟩ = some (.string did) := (blk_cell B_t_129.out 3).trans rfl
  have hx_t_4 : w122.cell? ⟨w.heap.size, 4, none⟩ = some (.slice A vs.length c) := (blk_cell B_t_129.out 4).trans rfl
  have hx_x_0 : w122.cell? ⟨w25.heap.size, 0, none⟩ = some (.int .i64 kd) := (blk_cell B_x_130.out 0).trans rfl
  have hx_x_1 : w122.cell? ⟨w25.heap.size, 1, none⟩ = some (.int .i64 sq) := (blk_cell B_x_130.out 1).trans rfl
  have hx_x_2 : w122.cell? ⟨w25.heap.size, 2, none⟩ = some (.string id) := (blk_cell B_x_130.out 2).trans rfl
  have hx_x_3 : w122.cell? ⟨w25.heap.size, 3, none⟩ = some (.string did) := (blk_cell B_x_130.out 3).trans rfl
  have hx_x_4 : w122.cell? ⟨w25.heap.size, 4, none⟩ = some (.slice A32 ds.length c33) := (blk_cell B_x_130.out 4).trans rfl
  go_wp2_with fail
  go_at_call 25
  refine (impl_RecordBytes.calls k kd sq id did _ _ ds wb wc _ (Kd.S_reads' O_d2_132.out).2.2 (by have h_ := Kd.S_reads' O_d2_132.out; have := h_.1; have := h_.2.1; omega) H4.out).mono ?_
  rintro e w137 ⟨v136, rfl, ho0, hb⟩
  have HB138 := Aside0.mk (below_step HB123.out hb)
  have O_d1_139 := Aside0.mk (Kd.S_below O_d1_124.out hb)
  have O_w0_140 := Aside0.mk (Kd.R_below O_w0_125.out hb)
  have O_x0_141 := Aside0.mk (Kd.S_below O_x0_126.out hb)
  have O_g0_142 := Aside0.mk (Kd.R_below O_g0_127.out hb)
  have O_y0_143 := Aside0.mk (Kd.S_below O_y0_128.out hb)
  have O_d2_144 := Aside0.mk (Kd.S_below O_d2_132.out hb)
  have B_t_145 := Aside0.mk (blk_below B_t_129.out hb)
  have B_x_146 := Aside0.mk (blk_below B_x_130.out hb)
  have Z147 := Aside0.mk (show w122.heap.size ≤ w137.heap.size from by have := hb.size; simpa using this)
  have O_h0_148 := Aside0.mk (Kd.R_mono (ok' := fun k_ => w122.heap.size ≤ k_ ∧ k_ < w137.heap.size) (Kd.R_span ho0 HB123.out.size) (fun k_ hk_ => by simpa using hk_))
  obtain ⟨A149, c150, e151⟩ := Kd.R_slice O_h0_148.out
  subst e151
  clear HB123 O_d1_124 O_w0_125 O_x0_126 O_g0_127 O_y0_128 O_d2_132 B_t_129 B_x_130 hb ho0 hx_t_0 hx_t_1 hx_t_2 hx_t_3 hx_t_4 hx_x_0 hx_x_1 hx_x_2 hx_x_3 hx_x_4
  have hx_t_0 : w137.cell? ⟨w.heap.size, 0, none⟩ = some (.int .i64 kd) := (blk_cell B_t_145.out 0).trans rfl
  have hx_t_1 : w137.cell? ⟨w.heap.size, 1, none⟩ = some (.int .i64 sq) := (blk_cell B_t_145.out 1).trans rfl
  have hx_t_2 : w137.cell? ⟨w.heap.size, 2, none⟩ = some (.string id) := (blk_cell B_t_145.out 2).trans rfl
  have hx_t_3 : w137.cell? ⟨w.heap.size, 3, none⟩ = some (.string did) := (blk_cell B_t_145.out 3).trans rfl
  have hx_t_4 : w137.cell? ⟨w.heap.size, 4, none⟩ = some (.slice A vs.length c) := (blk_cell B_t_145.out 4).trans rfl
  have hx_x_0 : w137.cell? ⟨w25.heap.size, 0, none⟩ = some (.int .i64 kd) := (blk_cell B_x_146.out 0).trans rfl
  have hx_x_1 : w137.cell? ⟨w25.heap.size, 1, none⟩ = some (.int .i64 sq) := (blk_cell B_x_146.out 1).trans rfl
  have hx_x_2 : w137.cell? ⟨w25.heap.size, 2, none⟩ = some (.string id) := (blk_cell B_x_146.out 2).trans rfl
  have hx_x_3 : w137.cell? ⟨w25.heap.size, 3, none⟩ = some (.string did) := (blk_cell B_x_146.out 3).trans rfl
  have hx_x_4 : w137.cell? ⟨w25.heap.size, 4, none⟩ = some (.slice A32 ds.length c33) := (blk_cell B_x_146.out 4).trans rfl
  go_wp2_with fail
  go_at_call 13
  refine (laws_eqByteS.calls k _ _ wb _ _ wb true _ (Kd.R_reads' O_h0_148.out).2.2 (by have h_ := Kd.R_reads' O_h0_148.out; have := h_.1; have := h_.2.1; omega) (Kd.R_reads' O_w0_140.out).2.2 (by have h_ := Kd.R_reads' O_w0_140.out; have := h_.1; have := h_.2.1; omega) H5.out).mono ?_
  rintro e w152 ⟨rfl, hd⟩
  have hb := hd.below
  have HB153 := Aside0.mk (below_step HB138.out hb)
  have O_d1_154 := Aside0.mk (Kd.S_below O_d1_139.out hb)
  have O_w0_155 := Aside0.mk (Kd.R_below O_w0_140.out hb)
  have O_x0_156 := Aside0.mk (Kd.S_below O_x0_141.out hb)
  have O_g0_157 := Aside0.mk (Kd.R_below O_g0_142.out hb)
  have O_y0_158 := Aside0.mk (Kd.S_below O_y0_143.out hb)
  have O_d2_159 := Aside0.mk (Kd.S_below O_d2_144.out hb)
  have O_h0_160 := Aside0.mk (Kd.R_below O_h0_148.out hb)
  have B_t_161 := Aside0.mk (blk_below B_t_145.out hb)
  have B_x_162 := Aside0.mk (blk_below B_x_146.out hb)
  have Z163 := Aside0.mk (show w137.heap.size ≤ w152.heap.size from by have := hb.size; simpa using this)
  clear HB138 O_d1_139 O_w0_140 O_x0_141 O_g0_142 O_y0_143 O_d2_144 O_h0_148 B_t_145 B_x_146 hb  hd hx_t_0 hx_t_1 hx_t_2 hx_t_3 hx_t_4 hx_x_0 hx_x_1 hx_x_2 hx_x_3 hx_x_4
  have hx_t_0 : w152.cell? ⟨w.heap.size, 0, none⟩ = some (.int .i64 kd) := (blk_cell B_t_161.out 0).trans rfl
  have hx_t_1 : w152.cell? ⟨w.heap.size, 1, none⟩ = some (.int .i64 sq) := (blk_cell B_t_161.out 1).trans rfl
  have hx_t_2 : w152.cell? ⟨w.heap.size, 2, none⟩ = some (.string id) := (blk_cell B_t_161.out 2).trans rfl
  have hx_t_3 : w152.cell? ⟨w.heap.size, 3, none⟩ = some (.string did) := (blk_cell B_t_161.out 3).trans rfl
  have hx_t_4 : w152.cell? ⟨w.heap.size, 4, none⟩ = some (.slice A vs.length c) := (blk_cell B_t_161.out 4).trans rfl
  have hx_x_0 : w152.cell? ⟨w25.heap.size, 0, none⟩ = some (.int .i64 kd) := (blk_cell B_x_162.out 0).trans rfl
  have hx_x_1 : w152.cell? ⟨w25.heap.size, 1, none⟩ = some (.int .i64 sq) := (blk_cell B_x_162.out 1).trans rfl
  have hx_x_2 : w152.cell? ⟨w25.heap.size, 2, none⟩ = some (.string id) := (blk_cell B_x_162.out 2).trans rfl
  have hx_x_3 : w152.cell? ⟨w25.heap.size, 3, none⟩ = some (.string did) := (blk_cell B_x_162.out 3).trans rfl
  have hx_x_4 : w152.cell? ⟨w25.heap.size, 4, none⟩ = some (.slice A32 ds.length c33) := (blk_cell B_x_162.out 4).trans rfl
  go_wp2_with fail
  go_at_call 17
  refine calls_of_args (args' := #[.slice A45 wb'.length c46, .int .i64 1]) (by first | rfl | (rw [show wb'.length = wb.length from (Kd.R_reads' O_g0_157.out).1.symm])) ?_
  refine (laws_heldByteS.calls k _ _ wb' 1 m _ (Kd.R_reads' O_g0_157.out).2.2 (by have h_ := Kd.R_reads' O_g0_157.out; have := h_.1; have := h_.2.1; omega) H9.out).mono ?_
  rintro e w164 ⟨rfl, hd⟩
  have hb := hd.below
  have HB165 := Aside0.mk (below_step HB153.out hb)
  have O_d1_166 := Aside0.mk (Kd.S_below O_d1_154.out hb)
  have O_w0_167 := Aside0.mk (Kd.R_below O_w0_155.out hb)
  have O_x0_168 := Aside0.mk (Kd.S_below O_x0_156.out hb)
  have O_g0_169 := Aside0.mk (Kd.R_below O_g0_157.out hb)
  have O_y0_170 := Aside0.mk (Kd.S_below O_y0_158.out hb)
  have O_d2_171 := Aside0.mk (Kd.S_below O_d2_159.out hb)
  have O_h0_172 := Aside0.mk (Kd.R_below O_h0_160.out hb)
  have B_t_173 := Aside0.mk (blk_below B_t_161.out hb)
  have B_x_174 := Aside0.mk (blk_below B_x_162.out hb)
  have Z175 := Aside0.mk (show w152.heap.size ≤ w164.heap.size from by have := hb.size; simpa using this)
  clear HB153 O_d1_154 O_w0_155 O_x0_156 O_g0_157 O_y0_158 O_d2_159 O_h0_160 B_t_161 B_x_162 hb  hd hx_t_0 hx_t_1 hx_t_2 hx_t_3 hx_t_4 hx_x_0 hx_x_1 hx_x_2 hx_x_3 hx_x_4
  go_wp2_with fail
  go_ret
  exact ⟨rfl, HB165.out⟩
end Go.Proofs.Ytndjodgcemgpfaa.Q
end

section
set_option linter.unusedVariables false
set_option linter.unusedSimpArgs false
namespace Go.Proofs.YtndjodgcemgpfaaW.PrintMore
open Go.RowKit Go.Proofs.YtndjodgcemgpfaaW.PrintWords Go.Proofs.YtndjodgcemgpfaaW.PrintLast
theorem Ev.ite_pos {α : Type} {c : Prop} [Decidable c] {f g : Nat → Option α} {r : α} (h : c) (k : Ev f r) : Ev (fun n => if c then f n else g n) r := by
  simp only [if_pos h]
  exact k
theorem Ev.ite_neg {α : Type} {c : Prop} [Decidable c] {f g : Nat → Option α} {r : α} (h : ¬ c) (k : Ev g r) : Ev (fun n => if c then f n else g n) r := by
  simp only [if_neg h]
  exact k
theorem Ev.eq {α : Type} {g : Nat → Option α} {r r' : α} (k : Ev g r) (h : r = r') : Ev g r' := h ▸ k
theorem Ev.const {α β : Type} {o : Option α} {f : Nat → α → Option β} {a : α} {r : β} (h : o = some a) (k : Ev (fun n => f n a) r) : Ev (fun n => o.bind (f n)) r := by
  subst h
  exact k
theorem Ev.some_bind {α β : Type} {f : Nat → α → Option β} {a : α} {r : β} (k : Ev (fun n => f n a) r) : Ev (fun n => (some a).bind (f n)) r := k
theorem mid_getD {α : Type} {pre rest : List α} {x : α} (z : α) : (pre ++ x :: rest).getD ((pre.length : Int)).toNat z = x := by
  rw [Int.toNat_natCast, List.getD_eq_getElem?_getD, List.getElem?_append_right (Nat.le_refl _)]
  simp
theorem mid_set {α : Type} {pre rest : List α} {x y : α} : (pre ++ x :: rest).set ((pre.length : Int)).toNat y = pre ++ y :: rest := by
  rw [Int.toNat_natCast, List.set_append_right _ _ (Nat.le_refl _)]
  simp
theorem mid_lt {α : Type} {pre rest : List α} {x : α} : ((pre.length : Int)) < ((pre ++ x :: rest).length : Int) := by
  simp only [List.length_append, List.length_cons]
  omega
theorem end_lt {α : Type} {pre : List α} : ¬ ((pre.length : Int)) < ((pre ++ []).length : Int) := by simp
theorem wrap64_of {x : Int} (h0 : -9223372036854775808 ≤ x) (h1 : x ≤ 9223372036854775807) : wrap64 x = x := by
  unfold wrap64
  omega
theorem wrap_next {α : Type} {pre : List α} {x : α} (h : pre.length < 4611686018427387904) : wrap64 ((pre.length : Int) + 1) = (((pre ++ [x]).length : Nat) : Int) := by
  rw [wrap64_of (by omega) (by omega)]
  simp
theorem snoc_cons {α : Type} {pre rest : List α} {x : α} : pre ++ x :: rest = (pre ++ [x]) ++ rest := by simp
end Go.Proofs.YtndjodgcemgpfaaW.PrintMore
end

section
set_option linter.unusedVariables false
set_option linter.unusedSimpArgs false
namespace Go.Proofs.Ytndjodgcemgpfaa.Q
open Go.RowKit Go.Proofs.YtndjodgcemgpfaaW.PrintWords Go.Proofs.YtndjodgcemgpfaaW.PrintLast Go.Proofs.YtndjodgcemgpfaaW.PrintMore
def lessBy (left : Int) (n : Nat) : Int := if (n : Int) ≤ left then left - n else -1
theorem lessBy_neg {left : Int} {n : Nat} (h : ¬ (n : Int) ≤ left) : lessBy left n = -1 := if_neg h
theorem lessBy_pos {left : Int} {n : Nat} (h : (n : Int) ≤ left) : lessBy left n = left - n := if_pos h
def sumS (xs : List ByteArray) : Nat := (xs.map fun s => s.size).sum
theorem sumS_cons (x : ByteArray) (xs : List ByteArray) : sumS (x :: xs) = x.size + sumS xs := by simp [sumS]
theorem szStringS_l0 (xs : List ByteArray) (hl : xs.length ≤ 1048576) (hs : ∀ x ∈ xs, x.size ≤ maxLen) : ∀ (rest pre : List ByteArray) (left : Int), xs = pre ++ rest → 0 ≤ left → left ≤ 1048576 →
    Ev (fun k => laws_szStringS.l0 k xs left (pre.length : Int)) (lessBy left (sumS rest))
  | [], pre, left, hx, h0, h1 => by
    subst hx
    refine Ev.step (fun k => laws_szStringS.l0.eq_2 _ _ _ k) (Ev.ite_neg end_lt (Ev.eq (Ev.now _) ?_))
    rw [lessBy_pos (by simpa [sumS] using h0)]
    simp [sumS]
  | x :: rest, pre, left, hx, h0, h1 => by
    have hsz := hs x (by rw [hx]; simp)
    have hlt : pre.length < 1048576 := by rw [hx] at hl; simp at hl; omega
    have hrd : rdOf ByteArray.empty xs (pre.length : Int) = x := by rw [hx]; exact mid_getD _
    simp only [maxLen] at hsz
    refine Ev.step (fun k => laws_szStringS.l0.eq_2 _ _ _ k) (Ev.ite_pos (by rw [hx]; exact mid_lt) (Ev.ite_pos (by omega) ?_))
    rw [hrd, wrap64_of (by omega) (by omega), wrap_next (x := x) (by omega), sumS_cons]
    by_cases h : left - (x.size : Int) < 0
    · exact Ev.ite_pos h (Ev.eq (Ev.now _) (by rw [lessBy_neg (by omega)]))
    · refine Ev.ite_neg h (Ev.eq (szStringS_l0 xs hl hs rest (pre ++ [x]) _ (by rw [hx]; simp) (by omega) (by omega)) ?_)
      unfold lessBy
      by_cases h2 : (sumS rest : Int) ≤ left - (x.size : Int)
      · rw [if_pos h2, if_pos (by omega)]
        omega
      · rw [if_neg h2, if_neg (by omega)]
def wS (xs : List ByteArray) : Nat := xs.length + sumS xs
theorem szStringS_ev (xs : List ByteArray) (left : Int) (hn : xs.length ≤ 9223372036854775807) (hs : ∀ x ∈ xs, x.size ≤ maxLen) (h0 : 0 ≤ left) (h1 : left ≤ 1048576) : Ev (fun k => laws_szStringS.f k xs left) (lessBy left (wS xs)) := by
  unfold laws_szStringS.f
  rw [wrap64_of (by omega) (by omega)]
  by_cases h : left - (xs.length : Int) < 0
  · exact Ev.ite_pos h (Ev.eq (Ev.now _) (by rw [lessBy_neg (by unfold wS; omega)]))
  · refine Ev.ite_neg h (Ev.eq (szStringS_l0 xs (by omega) hs xs [] _ rfl (by omega) (by omega)) ?_)
    unfold lessBy wS
    by_cases h2 : (sumS xs : Int) ≤ left - (xs.length : Int)
    · rw [if_pos h2, if_pos (by omega)]
      omega
    · rw [if_neg h2, if_neg (by omega)]
theorem szIntS_eq (xs : List Int) (left : Int) (hn : xs.length ≤ 9223372036854775807) (h0 : 0 ≤ left) (h1 : left ≤ 1048576) : laws_szIntS.f xs left = some (lessBy left xs.length) := by
  unfold laws_szIntS.f lessBy
  rw [wrap64_of (by omega) (by omega)]
  by_cases h : left - (xs.length : Int) < 0
  · rw [if_pos h, if_neg (by omega)]
  · rw [if_neg h, if_pos (by omega)]
def wV (x : S134) : Nat := x.f0.size + wS x.f1 + x.f2.length
def OkV (x : S134) : Prop := x.f0.size ≤ maxLen ∧ (x.f1.length ≤ 9223372036854775807 ∧ ∀ y ∈ x.f1, y.size ≤ maxLen) ∧ x.f2.length ≤ 9223372036854775807
theorem szValue_ev (x : S134) (left : Int) (ho : OkV x) (h0 : 0 ≤ left) (h1 : left ≤ 1048576) : Ev (fun k => laws_szValue.f k x.f0 x.f1 x.f2 left) (lessBy left (wV x)) := by
  obtain ⟨ha, ⟨hb, hc⟩, hd⟩ := ho
  simp only [maxLen] at ha
  unfold laws_szValue.f
  rw [wrap64_of (by omega) (by omega)]
  by_cases h : left - (x.f0.size : Int) < 0
  · exact Ev.ite_pos h (Ev.eq (Ev.now _) (by rw [lessBy_neg (by unfold wV; omega)]))
  · refine Ev.ite_neg h (Ev.bind (szStringS_ev x.f1 _ hb hc (by omega) (by omega)) ?_)
    by_cases h2 : (wS x.f1 : Int) ≤ left - (x.f0.size : Int)
    · rw [lessBy_pos h2]
      refine Ev.ite_neg (by omega) (Ev.const (szIntS_eq _ _ hd (by omega) (by omega)) ?_)
      by_cases h3 : (x.f2.length : Int) ≤ left - (x.f0.size : Int) - (wS x.f1 : Int)
      · rw [lessBy_pos h3]
        refine Ev.ite_neg (by omega) (Ev.eq (Ev.now _) ?_)
        rw [lessBy_pos (by unfold wV; omega)]
        unfold wV
        omega
      · rw [lessBy_neg h3]
        exact Ev.ite_pos (by omega) (Ev.eq (Ev.now _) (by rw [lessBy_neg (by unfold wV; omega)]))
    · rw [lessBy_neg h2]
      exact Ev.ite_pos (by omega) (Ev.eq (Ev.now _) (by rw [lessBy_neg (by unfold wV; omega)]))
def sumV (xs : List S134) : Nat := (xs.map wV).sum
theorem sumV_cons (x : S134) (xs : List S134) : sumV (x :: xs) = wV x + sumV xs := by simp [sumV]
theorem szValueS_l0 (xs : List S134) (hl : xs.length ≤ 1048576) (hs : ∀ x ∈ xs, OkV x) : ∀ (rest pre : List S134) (left : Int), xs = pre ++ rest → 0 ≤ left → left ≤ 1048576 →
    Ev (fun k => laws_szValueS.l0 k xs left (pre.length : Int)) (lessBy left (sumV rest))
  | [], pre, left, hx, h0, h1 => by
    subst hx
    refine Ev.step (fun k => laws_szValueS.l0.eq_2 _ _ _ k) (Ev.ite_neg end_lt (Ev.eq (Ev.now _) ?_))
    rw [lessBy_pos (by simpa [sumV] using h0)]
    simp [sumV]
  | x :: rest, pre, left, hx, h0, h1 => by
    have hok := hs x (by rw [hx]; simp)
    have hlt : pre.length < 1048576 := by rw [hx] at hl; simp at hl; omega
    have hrd : rd_T134 xs (pre.length : Int) = x := by rw [hx]; exact mid_getD _
    refine Ev.step (fun k => laws_szValueS.l0.eq_2 _ _ _ k) (Ev.ite_pos (by rw [hx]; exact mid_lt) (Ev.ite_pos (by omega) ?_))
    rw [hrd, wrap_next (x := x) (by omega), sumV_cons]
    refine Ev.bind (szValue_ev x left hok h0 h1) ?_
    by_cases h : (wV x : Int) ≤ left
    · rw [lessBy_pos h]
      refine Ev.ite_neg (by omega) (Ev.eq (szValueS_l0 xs hl hs rest (pre ++ [x]) _ (by rw [hx]; simp) (by omega) (by omega)) ?_)
      unfold lessBy
      by_cases h2 : (sumV rest : Int) ≤ left - (wV x : Int)
      · rw [if_pos h2, if_pos (by omega)]
        omega
      · rw [if_neg h2, if_neg (by omega)]
    · rw [lessBy_neg h]
      exact Ev.ite_pos (by omega) (Ev.eq (Ev.now _) (by rw [lessBy_neg (by omega)]))
def wVS (xs : List S134) : Nat := xs.length + sumV xs
theorem szValueS_ev (xs : List S134) (left : Int) (hn : xs.length ≤ 9223372036854775807) (hs : ∀ x ∈ xs, OkV x) (h0 : 0 ≤ left) (h1 : left ≤ 1048576) : Ev (fun k => laws_szValueS.f k xs left) (lessBy left (wVS xs)) := by
  unfold laws_szValueS.f
  rw [wrap64_of (by omega) (by omega)]
  by_cases h : left - (xs.length : Int) < 0
  · exact Ev.ite_pos h (Ev.eq (Ev.now _) (by rw [lessBy_neg (by unfold wVS; omega)]))
  · refine Ev.ite_neg h (Ev.eq (szValueS_l0 xs (by omega) hs xs [] _ rfl (by omega) (by omega)) ?_)
    unfold lessBy wVS
    by_cases h2 : (sumV xs : Int) ≤ left - (xs.length : Int)
    · rw [if_pos h2, if_pos (by omega)]
      omega
    · rw [if_neg h2, if_neg (by omega)]
def wD (id : ByteArray) (vs : List S134) : Nat := id.size + wVS vs
theorem szDoc_ev (id : ByteArray) (vs : List S134) (left : Int) (hid : id.size ≤ maxLen) (hn : vs.length ≤ 9223372036854775807) (hs : ∀ x ∈ vs, OkV x) (h0 : 0 ≤ left) (h1 : left ≤ 1048576) : Ev (fun k => laws_szDoc.f k id vs left) (lessBy left (wD id vs)) := by
  simp only [maxLen] at hid
  unfold laws_szDoc.f
  rw [wrap64_of (by omega) (by omega)]
  by_cases h : left - (id.size : Int) < 0
  · exact Ev.ite_pos h (Ev.eq (Ev.now _) (by rw [lessBy_neg (by unfold wD; omega)]))
  · refine Ev.ite_neg h (Ev.bind (szValueS_ev vs _ hn hs (by omega) (by omega)) ?_)
    by_cases h2 : (wVS vs : Int) ≤ left - (id.size : Int)
    · rw [lessBy_pos h2]
      refine Ev.ite_neg (by omega) (Ev.eq (Ev.now _) ?_)
      rw [lessBy_pos (by unfold wD; omega)]
      unfold wD
      omega
    · rw [lessBy_neg h2]
      exact Ev.ite_pos (by omega) (Ev.eq (Ev.now _) (by rw [lessBy_neg (by unfold wD; omega)]))
theorem toStringS_l0 (xs : List ByteArray) (hl : xs.length ≤ 1048576) : ∀ (rest pre : List ByteArray), xs = pre ++ rest →
    Ev (fun k => laws_toStringS.l0 k xs (pre ++ List.replicate rest.length (⟨#[]⟩ : ByteArray)) (pre.length : Int)) xs
  | [], pre, hx => by
    subst hx
    exact Ev.step (fun k => laws_toStringS.l0.eq_2 _ _ _ k) (Ev.ite_neg end_lt (Ev.eq (Ev.now _) (by simp)))
  | x :: rest, pre, hx => by
    have hlt : pre.length < 1048576 := by rw [hx] at hl; simp at hl; omega
    have hrd : rdOf ByteArray.empty xs (pre.length : Int) = x := by rw [hx]; exact mid_getD _
    refine Ev.step (fun k => laws_toStringS.l0.eq_2 _ _ _ k) (Ev.ite_pos (by rw [hx]; exact mid_lt) (Ev.ite_pos (by omega) (Ev.ite_pos (by rw [List.length_cons, List.replicate_succ]; exact mid_lt) ?_)))
    rw [hrd, List.length_cons, List.replicate_succ, mid_set, wrap_next (x := x) (by omega), snoc_cons]
    exact toStringS_l0 xs hl rest (pre ++ [x]) (by rw [hx]; simp)
theorem toStringS_ev (xs : List ByteArray) (hl : xs.length ≤ 1048576) : Ev (fun k => laws_toStringS.f k xs) xs := by
  unfold laws_toStringS.f
  refine Ev.ite_pos (by omega) (Ev.ite_pos (by rw [Int.toNat_natCast]; omega) ?_)
  rw [Int.toNat_natCast]
  exact toStringS_l0 xs hl xs [] rfl
theorem toIntS_l0 (xs : List Int) (hl : xs.length ≤ 1048576) : ∀ (rest pre : List Int), xs = pre ++ rest →
    Ev (fun k => laws_toIntS.l0 k xs (pre ++ List.replicate rest.length 0) (pre.length : Int)) xs
  | [], pre, hx => by
    subst hx
    exact Ev.step (fun k => laws_toIntS.l0.eq_2 _ _ _ k) (Ev.ite_neg end_lt (Ev.eq (Ev.now _) (by simp)))
  | x :: rest, pre, hx => by
    have hlt : pre.length < 1048576 := by rw [hx] at hl; simp at hl; omega
    have hrd : rd xs (pre.length : Int) = x := by rw [hx]; exact mid_getD _
    refine Ev.step (fun k => laws_toIntS.l0.eq_2 _ _ _ k) (Ev.ite_pos (by rw [hx]; exact mid_lt) (Ev.ite_pos (by omega) (Ev.ite_pos (by rw [List.length_cons, List.replicate_succ]; exact mid_lt) ?_)))
    rw [hrd, List.length_cons, List.replicate_succ, mid_set, wrap_next (x := x) (by omega), snoc_cons]
    exact toIntS_l0 xs hl rest (pre ++ [x]) (by rw [hx]; simp)
theorem toIntS_ev (xs : List Int) (hl : xs.length ≤ 1048576) : Ev (fun k => laws_toIntS.f k xs) xs := by
  unfold laws_toIntS.f
  refine Ev.ite_pos (by omega) (Ev.ite_pos (by rw [Int.toNat_natCast]; omega) ?_)
  rw [Int.toNat_natCast]
  exact toIntS_l0 xs hl xs [] rfl
def cV (x : S134) : S84 := ⟨x.f0, x.f1, x.f2⟩
def LenV (x : S134) : Prop := x.f1.length ≤ 1048576 ∧ x.f2.length ≤ 1048576
theorem toValueS_l0 (xs : List S134) (hl : xs.length ≤ 1048576) (hv : ∀ x ∈ xs, LenV x) : ∀ (rest pre : List S134), xs = pre ++ rest →
    Ev (fun k => laws_toValueS.l0 k xs (pre.map cV ++ List.replicate rest.length z84) (pre.length : Int)) (xs.map cV)
  | [], pre, hx => by
    subst hx
    exact Ev.step (fun k => laws_toValueS.l0.eq_2 _ _ _ k) (Ev.ite_neg end_lt (Ev.eq (Ev.now _) (by simp)))
  | x :: rest, pre, hx => by
    have hlt : pre.length < 1048576 := by rw [hx] at hl; simp at hl; omega
    have hrd : rd_T134 xs (pre.length : Int) = x := by rw [hx]; exact mid_getD _
    have hvx := hv x (by rw [hx]; simp)
    have hpm : ((pre.length : Nat) : Int) = ((pre.map cV).length : Int) := by simp
    refine Ev.step (fun k => laws_toValueS.l0.eq_2 _ _ _ k) (Ev.ite_pos (by rw [hx]; exact mid_lt) (Ev.ite_pos (by omega) ?_))
    rw [hrd]
    refine Ev.bind (g := fun k => laws_toValue.f k x.f0 x.f1 x.f2) (a := (x.f0, x.f1, x.f2)) ?_ (Ev.ite_pos (by rw [hpm, List.length_cons, List.replicate_succ]; exact mid_lt) ?_)
    · exact Ev.bind (toStringS_ev x.f1 hvx.1) (Ev.bind (toIntS_ev x.f2 hvx.2) (Ev.now _))
    · rw [wrap_next (x := x) (by omega), List.length_cons, List.replicate_succ, hpm, mid_set, snoc_cons]
      exact Ev.congr (fun k => by rw [List.map_append]; rfl) (toValueS_l0 xs hl hv rest (pre ++ [x]) (by rw [hx]; simp))
theorem toValueS_ev (xs : List S134) (hl : xs.length ≤ 1048576) (hv : ∀ x ∈ xs, LenV x) : Ev (fun k => laws_toValueS.f k xs) (xs.map cV) := by
  unfold laws_toValueS.f
  refine Ev.ite_pos (by omega) (Ev.ite_pos (by rw [Int.toNat_natCast]; omega) ?_)
  rw [Int.toNat_natCast]
  exact toValueS_l0 xs hl hv xs [] rfl
theorem toDoc_ev (id : ByteArray) (vs : List S134) (hl : vs.length ≤ 1048576) (hv : ∀ x ∈ vs, LenV x) : Ev (fun k => laws_toDoc.f k id vs) (id, vs.map cV) :=
  Ev.bind (toValueS_ev vs hl hv) (Ev.now _)
theorem sum_le {α : Type} (f : α → Nat) : ∀ (xs : List α) (x : α), x ∈ xs → f x ≤ (xs.map f).sum
  | y :: xs, x, h => by
    rw [List.map_cons, List.sum_cons]
    rcases List.mem_cons.1 h with rfl | h
    · omega
    · have := sum_le f xs x h
      omega
theorem lenV_of {vs : List S134} (h : sumV vs ≤ 1048576) : ∀ x ∈ vs, LenV x := fun x hx => by
  have := sum_le wV vs x hx
  have e : wV x = x.f0.size + (x.f1.length + sumS x.f1) + x.f2.length := rfl
  unfold sumV at h
  unfold LenV
  omega
end Go.Proofs.Ytndjodgcemgpfaa.Q
end

section
namespace Go.Proofs.Ytndjodgcemgpfaa.Q
open Go.RowKit Go.Proofs.YtndjodgcemgpfaaW.PrintWords Go.Proofs.YtndjodgcemgpfaaW.PrintLast Go.Proofs.YtndjodgcemgpfaaW.PrintMore
attribute [local go_sem] max2_int min2_int max_two min_two max_three min_three max_four min_four
set_option linter.unusedVariables false
set_option linter.unusedSimpArgs false
def laws_heldIntS.l0 : Nat → List Int → Int → Int → Option (Int)
  | 0, _, _, _ => none
  | k + 1, x0, x1, x5 => if x5 < (x0.length : Int) then (if 0 ≤ x5 then (if (rd x0 x5) = x1 then (laws_heldIntS.l0 k x0 (wrap64 (x1 + 1)) (wrap64 (x5 + 1))) else (some (-1))) else (none)) else (some x1)
def laws_heldIntS.f (k : Nat) (l0 : List Int) (a1 : Int) : Option (Int) := laws_heldIntS.l0 k l0 a1 0
theorem laws_heldIntS.mono_l : ∀ k, (∀ y0 y1 y2, LeO (laws_heldIntS.l0 k y0 y1 y2) (laws_heldIntS.l0 (k + 1) y0 y1 y2))
  | 0 => fun _ _ _ r h => by simp [laws_heldIntS.l0] at h
  | k + 1 => by
    have ih0 := laws_heldIntS.mono_l k
    · intro y0 y1 y2
      unfold laws_heldIntS.l0
      repeat' first
      | (with_reducible exact ih0 _ _ _)
      | (with_reducible exact LeO.refl _)
      | (with_reducible exact LeO.none _)
      | (with_reducible refine LeO.ite ?_ ?_)
      | (with_reducible refine LeO.bind ?_ (fun _ => ?_))
      | exact ih0 _ _ _
      | exact LeO.none _
      | refine LeO.ite ?_ ?_
      | refine LeO.bind ?_ (fun _ => ?_)
theorem laws_heldIntS.mono : ∀ a0 a1 k, LeO (laws_heldIntS.f k a0 a1) (laws_heldIntS.f (k + 1) a0 a1) := by
  intro a0 a1 k
  have ih0 := laws_heldIntS.mono_l k
  unfold laws_heldIntS.f
  repeat' first
      | (with_reducible exact ih0 _ _ _)
      | (with_reducible exact LeO.refl _)
      | (with_reducible exact LeO.none _)
      | (with_reducible refine LeO.ite ?_ ?_)
      | (with_reducible refine LeO.bind ?_ (fun _ => ?_))
      | exact ih0 _ _ _
      | exact LeO.none _
      | refine LeO.ite ?_ ?_
      | refine LeO.bind ?_ (fun _ => ?_)
end Go.Proofs.Ytndjodgcemgpfaa.Q
end

section
namespace Go.Proofs.Ytndjodgcemgpfaa.Q
open Go.RowKit Go.Proofs.YtndjodgcemgpfaaW.PrintWords Go.Proofs.YtndjodgcemgpfaaW.PrintLast Go.Proofs.YtndjodgcemgpfaaW.PrintMore
attribute [local go_sem] max2_int min2_int max_two min_two max_three min_three max_four min_four
set_option linter.unusedVariables false
set_option linter.unusedSimpArgs false
def laws_heldStringS.l0 : Nat → List ByteArray → Int → Int → Option (Int)
  | 0, _, _, _ => none
  | k + 1, x0, x1, x5 => if x5 < (x0.length : Int) then (if 0 ≤ x5 then ((laws_markText.f k x1).bind fun t434 => (if (rdOf ByteArray.empty x0 x5).toList = t434.toList then (laws_heldStringS.l0 k x0 (wrap64 (x1 + 1)) (wrap64 (x5 + 1))) else (some (-1)))) else (none)) else (some x1)
def laws_heldStringS.f (k : Nat) (l0 : List ByteArray) (a1 : Int) : Option (Int) := laws_heldStringS.l0 k l0 a1 0
theorem laws_heldStringS.mono_l : ∀ k, (∀ y0 y1 y2, LeO (laws_heldStringS.l0 k y0 y1 y2) (laws_heldStringS.l0 (k + 1) y0 y1 y2))
  | 0 => fun _ _ _ r h => by simp [laws_heldStringS.l0] at h
  | k + 1 => by
    have ih0 := laws_heldStringS.mono_l k
    · intro y0 y1 y2
      unfold laws_heldStringS.l0
      repeat' first
      | (with_reducible exact ih0 _ _ _)
      | (with_reducible exact laws_markText.mono _ _)
      | (with_reducible exact LeO.refl _)
      | (with_reducible exact LeO.none _)
      | (with_reducible refine LeO.ite ?_ ?_)
      | (with_reducible refine LeO.bind ?_ (fun _ => ?_))
      | exact ih0 _ _ _
      | exact laws_markText.mono _ _
      | exact LeO.none _
      | refine LeO.ite ?_ ?_
      | refine LeO.bind ?_ (fun _ => ?_)
theorem laws_heldStringS.mono : ∀ a0 a1 k, LeO (laws_heldStringS.f k a0 a1) (laws_heldStringS.f (k + 1) a0 a1) := by
  intro a0 a1 k
  have ih0 := laws_heldStringS.mono_l k
  unfold laws_heldStringS.f
  repeat' first
      | (with_reducible exact ih0 _ _ _)
      | (with_reducible exact laws_markText.mono _ _)
      | (with_reducible exact LeO.refl _)
      | (with_reducible exact LeO.none _)
      | (with_reducible refine LeO.ite ?_ ?_)
      | (with_reducible refine LeO.bind ?_ (fun _ => ?_))
      | exact ih0 _ _ _
      | exact laws_markText.mono _ _
      | exact LeO.none _
      | refine LeO.ite ?_ ?_
      | refine LeO.bind ?_ (fun _ => ?_)
end Go.Proofs.Ytndjodgcemgpfaa.Q
end

section
namespace Go.Proofs.Ytndjodgcemgpfaa.Q
open Go.RowKit Go.Proofs.YtndjodgcemgpfaaW.PrintWords Go.Proofs.YtndjodgcemgpfaaW.PrintLast Go.Proofs.YtndjodgcemgpfaaW.PrintMore
attribute [local go_sem] max2_int min2_int max_two min_two max_three min_three max_four min_four
set_option linter.unusedVariables false
set_option linter.unusedSimpArgs false
def laws_heldValueS.l0 : Nat → List (S84) → Int → Int → Option (Int)
  | 0, _, _, _ => none
  | k + 1, x0, x1, x5 => if x5 < (x0.length : Int) then (if 0 ≤ x5 then ((laws_markText.f k x1).bind fun t436 => (if ((rd_T84 x0 x5).f0).toList = t436.toList then ((laws_heldStringS.f k ((rd_T84 x0 x5).f1) (wrap64 (x1 + 1))).bind fun t438 => (if t438 < 0 then (some (-1)) else ((laws_heldIntS.f k ((rd_T84 x0 x5).f2) t438).bind fun t440 => (if t440 < 0 then (some (-1)) else (laws_heldValueS.l0 k x0 t440 (wrap64 (x5 + 1))))))) else (some (-1)))) else (none)) else (some x1)
def laws_heldValueS.f (k : Nat) (l0 : List (S84)) (a1 : Int) : Option (Int) := laws_heldValueS.l0 k l0 a1 0
theorem laws_heldValueS.mono_l : ∀ k, (∀ y0 y1 y2, LeO (laws_heldValueS.l0 k y0 y1 y2) (laws_heldValueS.l0 (k + 1) y0 y1 y2))
  | 0 => fun _ _ _ r h => by simp [laws_heldValueS.l0] at h
  | k + 1 => by
    have ih0 := laws_heldValueS.mono_l k
    · intro y0 y1 y2
      unfold laws_heldValueS.l0
      repeat' first
      | (with_reducible exact ih0 _ _ _)
      | (with_reducible exact laws_heldIntS.mono _ _ _)
      | (with_reducible exact laws_heldStringS.mono _ _ _)
      | (with_reducible exact laws_markText.mono _ _)
      | (with_reducible exact LeO.refl _)
      | (with_reducible exact LeO.none _)
      | (with_reducible refine LeO.ite ?_ ?_)
      | (with_reducible refine LeO.bind ?_ (fun _ => ?_))
      | exact ih0 _ _ _
      | exact laws_heldIntS.mono _ _ _
      | exact laws_heldStringS.mono _ _ _
      | exact laws_markText.mono _ _
      | exact LeO.none _
      | refine LeO.ite ?_ ?_
      | refine LeO.bind ?_ (fun _ => ?_)
theorem laws_heldValueS.mono : ∀ a0 a1 k, LeO (laws_heldValueS.f k a0 a1) (laws_heldValueS.f (k + 1) a0 a1) := by
  intro a0 a1 k
  have ih0 := laws_heldValueS.mono_l k
  unfold laws_heldValueS.f
  repeat' first
      | (with_reducible exact ih0 _ _ _)
      | (with_reducible exact laws_heldIntS.mono _ _ _)
      | (with_reducible exact laws_heldStringS.mono _ _ _)
      | (with_reducible exact laws_markText.mono _ _)
      | (with_reducible exact LeO.refl _)
      | (with_reducible exact LeO.none _)
      | (with_reducible refine LeO.ite ?_ ?_)
      | (with_reducible refine LeO.bind ?_ (fun _ => ?_))
      | exact ih0 _ _ _
      | exact laws_heldIntS.mono _ _ _
      | exact laws_heldStringS.mono _ _ _
      | exact laws_markText.mono _ _
      | exact LeO.none _
      | refine LeO.ite ?_ ?_
      | refine LeO.bind ?_ (fun _ => ?_)
end Go.Proofs.Ytndjodgcemgpfaa.Q
end

section
namespace Go.Proofs.Ytndjodgcemgpfaa.Q
open Go.RowKit Go.Proofs.YtndjodgcemgpfaaW.PrintWords Go.Proofs.YtndjodgcemgpfaaW.PrintLast Go.Proofs.YtndjodgcemgpfaaW.PrintMore
attribute [local go_sem] max2_int min2_int max_two min_two max_three min_three max_four min_four
set_option linter.unusedVariables false
set_option linter.unusedSimpArgs false
def laws_heldDoc.f (k : Nat) (a0_0 : ByteArray) (l0_1 : List (S84)) (a1 : Int) : Option (Int) := (laws_heldValueS.f k l0_1 a1).bind fun t442 => (if t442 < 0 then (some (-1)) else (some t442))
theorem laws_heldDoc.mono : ∀ a0 a1 a2 k, LeO (laws_heldDoc.f k a0 a1 a2) (laws_heldDoc.f (k + 1) a0 a1 a2) := by
  intro a0 a1 a2 k
  unfold laws_heldDoc.f
  repeat' first
      | (with_reducible exact laws_heldValueS.mono _ _ _)
      | (with_reducible exact LeO.refl _)
      | (with_reducible exact LeO.none _)
      | (with_reducible refine LeO.ite ?_ ?_)
      | (with_reducible refine LeO.bind ?_ (fun _ => ?_))
      | exact laws_heldValueS.mono _ _ _
      | exact LeO.none _
      | refine LeO.ite ?_ ?_
      | refine LeO.bind ?_ (fun _ => ?_)
end Go.Proofs.Ytndjodgcemgpfaa.Q
end

section
set_option linter.unusedVariables false
set_option linter.unusedSimpArgs false
namespace Go.Proofs.Ytndjodgcemgpfaa.Q
open Go.RowKit Go.Proofs.YtndjodgcemgpfaaW.PrintWords Go.Proofs.YtndjodgcemgpfaaW.PrintLast Go.Proofs.YtndjodgcemgpfaaW.PrintMore
theorem eqByteS_l0 (xs : List Int) (hl : xs.length ≤ 4611686018427387903) : ∀ (rest pre : List Int), xs = pre ++ rest → Ev (fun k => laws_eqByteS.l0 k xs xs (pre.length : Int)) true
  | [], pre, hx => by
    subst hx
    exact Ev.step (fun k => laws_eqByteS.l0.eq_2 _ _ _ k) (Ev.ite_neg end_lt (Ev.now _))
  | x :: rest, pre, hx => by
    have hlt : pre.length < 4611686018427387903 := by rw [hx] at hl; simp at hl; omega
    have hm : (pre.length : Int) < (xs.length : Int) := by rw [hx]; exact mid_lt
    refine Ev.step (fun k => laws_eqByteS.l0.eq_2 _ _ _ k) (Ev.ite_pos hm (Ev.ite_pos (by omega) (Ev.ite_pos hm (Ev.ite_pos rfl ?_))))
    rw [wrap_next (x := x) (by omega)]
    exact eqByteS_l0 xs hl rest (pre ++ [x]) (by rw [hx]; simp)
theorem eqByteS_ev (xs : List Int) (hl : xs.length ≤ 4611686018427387903) : Ev (fun k => laws_eqByteS.f k xs xs) true := by
  unfold laws_eqByteS.f
  exact Ev.ite_pos rfl (eqByteS_l0 xs hl xs [] rfl)
theorem eqIntS_l0 (xs : List Int) (hl : xs.length ≤ 4611686018427387903) : ∀ (rest pre : List Int), xs = pre ++ rest → Ev (fun k => laws_eqIntS.l0 k xs xs (pre.length : Int)) true
  | [], pre, hx => by
    subst hx
    exact Ev.step (fun k => laws_eqIntS.l0.eq_2 _ _ _ k) (Ev.ite_neg end_lt (Ev.now _))
  | x :: rest, pre, hx => by
    have hlt : pre.length < 4611686018427387903 := by rw [hx] at hl; simp at hl; omega
    have hm : (pre.length : Int) < (xs.length : Int) := by rw [hx]; exact mid_lt
    refine Ev.step (fun k => laws_eqIntS.l0.eq_2 _ _ _ k) (Ev.ite_pos hm (Ev.ite_pos (by omega) (Ev.ite_pos hm (Ev.ite_pos rfl ?_))))
    rw [wrap_next (x := x) (by omega)]
    exact eqIntS_l0 xs hl rest (pre ++ [x]) (by rw [hx]; simp)
theorem eqIntS_ev (xs : List Int) (hl : xs.length ≤ 4611686018427387903) : Ev (fun k => laws_eqIntS.f k xs xs) true := by
  unfold laws_eqIntS.f
  exact Ev.ite_pos rfl (eqIntS_l0 xs hl xs [] rfl)
theorem eqStringS_l0 (xs : List ByteArray) (hl : xs.length ≤ 4611686018427387903) : ∀ (rest pre : List ByteArray), xs = pre ++ rest → Ev (fun k => laws_eqStringS.l0 k xs xs (pre.length : Int)) true
  | [], pre, hx => by
    subst hx
    exact Ev.step (fun k => laws_eqStringS.l0.eq_2 _ _ _ k) (Ev.ite_neg end_lt (Ev.now _))
  | x :: rest, pre, hx => by
    have hlt : pre.length < 4611686018427387903 := by rw [hx] at hl; simp at hl; omega
    have hm : (pre.length : Int) < (xs.length : Int) := by rw [hx]; exact mid_lt
    refine Ev.step (fun k => laws_eqStringS.l0.eq_2 _ _ _ k) (Ev.ite_pos hm (Ev.ite_pos (by omega) (Ev.ite_pos hm (Ev.ite_pos rfl ?_))))
    rw [wrap_next (x := x) (by omega)]
    exact eqStringS_l0 xs hl rest (pre ++ [x]) (by rw [hx]; simp)
theorem eqStringS_ev (xs : List ByteArray) (hl : xs.length ≤ 4611686018427387903) : Ev (fun k => laws_eqStringS.f k xs xs) true := by
  unfold laws_eqStringS.f
  exact Ev.ite_pos rfl (eqStringS_l0 xs hl xs [] rfl)
def LenV84 (x : S84) : Prop := x.f1.length ≤ 1048576 ∧ x.f2.length ≤ 1048576
theorem eqValue_ev (x : S84) (h : LenV84 x) : Ev (fun k => laws_eqValue.f k x.f0 x.f1 x.f2 x.f0 x.f1 x.f2) true := by
  unfold laws_eqValue.f
  refine Ev.ite_pos rfl (Ev.bind (eqStringS_ev x.f1 (by have := h.1; omega)) (Ev.ite_pos rfl (Ev.bind (eqIntS_ev x.f2 (by have := h.2; omega)) (Ev.ite_pos rfl (Ev.now _)))))
theorem eqValueS_l0 (xs : List S84) (hl : xs.length ≤ 4611686018427387903) (hv : ∀ x ∈ xs, LenV84 x) : ∀ (rest pre : List S84), xs = pre ++ rest → Ev (fun k => laws_eqValueS.l0 k xs xs (pre.length : Int)) true
  | [], pre, hx => by
    subst hx
    exact Ev.step (fun k => laws_eqValueS.l0.eq_2 _ _ _ k) (Ev.ite_neg end_lt (Ev.now _))
  | x :: rest, pre, hx => by
    have hlt : pre.length < 4611686018427387903 := by rw [hx] at hl; simp at hl; omega
    have hm : (pre.length : Int) < (xs.length : Int) := by rw [hx]; exact mid_lt
    have hrd : rd_T84 xs (pre.length : Int) = x := by rw [hx]; exact mid_getD _
    refine Ev.step (fun k => laws_eqValueS.l0.eq_2 _ _ _ k) (Ev.ite_pos hm (Ev.ite_pos (by omega) (Ev.ite_pos hm ?_)))
    rw [hrd, wrap_next (x := x) (by omega)]
    exact Ev.bind (eqValue_ev x (hv x (by rw [hx]; simp))) (Ev.ite_pos rfl (eqValueS_l0 xs hl hv rest (pre ++ [x]) (by rw [hx]; simp)))
theorem eqValueS_ev (xs : List S84) (hl : xs.length ≤ 4611686018427387903) (hv : ∀ x ∈ xs, LenV84 x) : Ev (fun k => laws_eqValueS.f k xs xs) true := by
  unfold laws_eqValueS.f
  exact Ev.ite_pos rfl (eqValueS_l0 xs hl hv xs [] rfl)
theorem eqDoc_ev (id : ByteArray) (xs : List S84) (hl : xs.length ≤ 4611686018427387903) (hv : ∀ x ∈ xs, LenV84 x) : Ev (fun k => laws_eqDoc.f k id xs id xs) true := by
  unfold laws_eqDoc.f
  exact Ev.ite_pos rfl (Ev.bind (eqValueS_ev xs hl hv) (Ev.ite_pos rfl (Ev.now _)))
theorem markText_l0 : ∀ (n : Nat) (m : Int) (t : ByteArray), 0 ≤ m → m < 10 ^ n → m ≤ 9223372036854775807 → t.size + n ≤ 1000 → ∃ r, Ev (fun k => laws_markText.l0 k m t) r
  | 0, m, t, h0, h1, hb, h2 => by
    have : ¬ m > 0 := by simp at h1; omega
    exact ⟨_, Ev.step (fun k => laws_markText.l0.eq_2 _ _ k) (Ev.ite_neg this (Ev.ite_pos (by omega) (Ev.now _)))⟩
  | n + 1, m, t, h0, h1, hb, h2 => by
    by_cases hm : m > 0
    · have hsz : ∀ z : List Int, z.length = 1 → (strOfNums z).size = 1 := fun z hz => by simp [strOfNums, ByteArray.size, hz]
      have hdiv : Int.tdiv m 10 = m / 10 := by rw [Int.tdiv_eq_ediv_of_nonneg h0]
      have hw : wrap64 (Int.tdiv m 10) = m / 10 := by rw [hdiv]; exact wrap64_of (by omega) (by omega)
      have hlt : m / 10 < 10 ^ n := by
        rw [Int.pow_succ] at h1
        omega
      obtain ⟨r, hr⟩ := markText_l0 n (m / 10) (strOfNums [(wrap64 (48 + (Int.tmod m 10))) % 256] ++ t) (by omega) hlt (by omega) (by rw [ByteArray.size_append, hsz _ rfl]; omega)
      refine ⟨r, Ev.step (fun k => laws_markText.l0.eq_2 _ _ k) (Ev.ite_pos hm (Ev.some_bind (Ev.ite_pos (by rw [hsz _ rfl]; omega) ?_)))⟩
      rw [hw]
      exact hr
    · exact ⟨_, Ev.step (fun k => laws_markText.l0.eq_2 _ _ k) (Ev.ite_neg hm (Ev.ite_pos (by omega) (Ev.now _)))⟩
theorem markText_some (m : Int) (hb : m ≤ 9223372036854775807) : ∃ t, Ev (fun k => laws_markText.f k m) t := by
  unfold laws_markText.f
  by_cases h : m ≤ 0
  · exact ⟨_, Ev.ite_pos h (Ev.now _)⟩
  · obtain ⟨t, ht⟩ := markText_l0 20 m ⟨#[]⟩ (by omega) (by omega) hb (by decide)
    exact ⟨t, Ev.ite_neg h ht⟩
open Classical in
 
noncomputable def mkText (m : Int) : ByteArray := if h : ∃ t, Ev (fun k => laws_markText.f k m) t then Classical.choose h else ⟨#[]⟩
theorem markText_ev (m : Int) (hb : m ≤ 9223372036854775807) : Ev (fun k => laws_markText.f k m) (mkText m) := by
  have h := markText_some m hb
  unfold mkText
  rw [dif_pos h]
  exact Classical.choose_spec h
noncomputable def mkS : Int → Nat → List ByteArray
  | _, 0 => []
  | m, n + 1 => mkText m :: mkS (m + 1) n
def mkI : Int → Nat → List Int
  | _, 0 => []
  | m, n + 1 => m :: mkI (m + 1) n
def mkB : Int → Nat → List Int
  | _, 0 => []
  | m, n + 1 => m % 256 :: mkB (m + 1) n
theorem markStringS_l0 : ∀ (rest pre : List ByteArray) (m : Int), 0 ≤ m → m + rest.length ≤ 4611686018427387903 → rest.length + pre.length ≤ 4611686018427387903 →
    Ev (fun k => laws_markStringS.l0 k (pre ++ rest) m (pre.length : Int)) (m + rest.length, pre ++ mkS m rest.length)
  | [], pre, m, h0, h1, h2 => by
    exact Ev.step (fun k => laws_markStringS.l0.eq_2 _ _ _ k) (Ev.ite_neg end_lt (Ev.eq (Ev.now _) (by simp [mkS])))
  | x :: rest, pre, m, h0, h1, h2 => by
    simp only [List.length_cons] at h1 h2
    refine Ev.step (fun k => laws_markStringS.l0.eq_2 _ _ _ k) (Ev.ite_pos mid_lt (Ev.bind (markText_ev m (by omega)) (Ev.ite_pos (by omega) ?_)))
    rw [mid_set, wrap_next (x := mkText m) (by omega), wrap64_of (by omega) (by omega), snoc_cons]
    refine Ev.eq (markStringS_l0 rest (pre ++ [mkText m]) (m + 1) (by omega) (by omega) (by simp only [List.length_append, List.length_singleton]; omega)) ?_
    simp [mkS]
    omega
theorem markStringS_ev (xs : List ByteArray) (m : Int) (h0 : 0 ≤ m) (h1 : m + xs.length ≤ 4611686018427387903) : Ev (fun k => laws_markStringS.f k xs m) (m + xs.length, mkS m xs.length) := by
  have := markStringS_l0 xs [] m h0 h1 (by simp; omega)
  simpa [laws_markStringS.f] using this
theorem markIntS_l0 : ∀ (rest pre : List Int) (m : Int), 0 ≤ m → m + rest.length ≤ 4611686018427387903 → rest.length + pre.length ≤ 4611686018427387903 →
    Ev (fun k => laws_markIntS.l0 k (pre ++ rest) m (pre.length : Int)) (m + rest.length, pre ++ mkI m rest.length)
  | [], pre, m, h0, h1, h2 => by
    exact Ev.step (fun k => laws_markIntS.l0.eq_2 _ _ _ k) (Ev.ite_neg end_lt (Ev.eq (Ev.now _) (by simp [mkI])))
  | x :: rest, pre, m, h0, h1, h2 => by
    simp only [List.length_cons] at h1 h2
    refine Ev.step (fun k => laws_markIntS.l0.eq_2 _ _ _ k) (Ev.ite_pos mid_lt (Ev.ite_pos (by omega) ?_))
    rw [mid_set, wrap_next (x := m) (by omega), wrap64_of (by omega) (by omega), snoc_cons]
    refine Ev.eq (markIntS_l0 rest (pre ++ [m]) (m + 1) (by omega) (by omega) (by simp only [List.length_append, List.length_singleton]; omega)) ?_
    simp [mkI]
    omega
theorem markIntS_ev (xs : List Int) (m : Int) (h0 : 0 ≤ m) (h1 : m + xs.length ≤ 4611686018427387903) : Ev (fun k => laws_markIntS.f k xs m) (m + xs.length, mkI m xs.length) := by
  have := markIntS_l0 xs [] m h0 h1 (by simp; omega)
  simpa [laws_markIntS.f] using this
theorem markByteS_l0 : ∀ (rest pre : List Int) (m : Int), 0 ≤ m → m + rest.length ≤ 4611686018427387903 → rest.length + pre.length ≤ 4611686018427387903 →
    Ev (fun k => laws_markByteS.l0 k (pre ++ rest) m (pre.length : Int)) (m + rest.length, pre ++ mkB m rest.length)
  | [], pre, m, h0, h1, h2 => by
    exact Ev.step (fun k => laws_markByteS.l0.eq_2 _ _ _ k) (Ev.ite_neg end_lt (Ev.eq (Ev.now _) (by simp [mkB])))
  | x :: rest, pre, m, h0, h1, h2 => by
    simp only [List.length_cons] at h1 h2
    refine Ev.step (fun k => laws_markByteS.l0.eq_2 _ _ _ k) (Ev.ite_pos mid_lt (Ev.ite_pos (by omega) ?_))
    rw [mid_set, wrap_next (x := m % 256) (by omega), wrap64_of (by omega) (by omega), snoc_cons]
    refine Ev.eq (markByteS_l0 rest (pre ++ [m % 256]) (m + 1) (by omega) (by omega) (by simp only [List.length_append, List.length_singleton]; omega)) ?_
    simp [mkB]
    omega
theorem markByteS_ev (xs : List Int) (m : Int) (h0 : 0 ≤ m) (h1 : m + xs.length ≤ 4611686018427387903) : Ev (fun k => laws_markByteS.f k xs m) (m + xs.length, mkB m xs.length) := by
  have := markByteS_l0 xs [] m h0 h1 (by simp; omega)
  simpa [laws_markByteS.f] using this
theorem heldByteS_l0 (xs : List Int) : ∀ (n : Nat) (pre : List Int) (m : Int), xs = pre ++ mkB m n → 0 ≤ m → m + n ≤ 4611686018427387903 → n + pre.length ≤ 4611686018427387903 →
    Ev (fun k => laws_heldByteS.l0 k xs m (pre.length : Int)) (m + n)
  | 0, pre, m, hx, h0, h1, h2 => by
    subst hx
    exact Ev.step (fun k => laws_heldByteS.l0.eq_2 _ _ _ k) (Ev.ite_neg end_lt (Ev.eq (Ev.now _) (by simp)))
  | n + 1, pre, m, hx, h0, h1, h2 => by
    have hx' : xs = pre ++ m % 256 :: mkB (m + 1) n := hx
    have hrd : rd xs (pre.length : Int) = m % 256 := by rw [hx']; exact mid_getD _
    refine Ev.step (fun k => laws_heldByteS.l0.eq_2 _ _ _ k) (Ev.ite_pos (by rw [hx']; exact mid_lt) (Ev.ite_pos (by omega) (Ev.ite_pos hrd ?_)))
    rw [wrap_next (x := m % 256) (by omega), wrap64_of (by omega) (by omega)]
    exact Ev.eq (heldByteS_l0 xs n (pre ++ [m % 256]) (m + 1) (by rw [hx']; simp) (by omega) (by omega) (by simp only [List.length_append, List.length_singleton]; omega)) (by omega)
theorem heldByteS_ev (n : Nat) (m : Int) (h0 : 0 ≤ m) (h1 : m + n ≤ 4611686018427387903) : Ev (fun k => laws_heldByteS.f k (mkB m n) m) (m + n) :=
  heldByteS_l0 _ n [] m rfl h0 h1 (by simp; omega)
def cntV (x : S84) : Nat := 1 + x.f1.length + x.f2.length
noncomputable def mkV1 (m : Int) (x : S84) : S84 := ⟨mkText m, mkS (m + 1) x.f1.length, mkI (m + 1 + x.f1.length) x.f2.length⟩
noncomputable def mkV : Int → List S84 → List S84
  | _, [] => []
  | m, x :: r => mkV1 m x :: mkV (m + cntV x) r
def cntVS (xs : List S84) : Nat := (xs.map cntV).sum
theorem cntVS_cons (x : S84) (xs : List S84) : cntVS (x :: xs) = cntV x + cntVS xs := by simp [cntVS]
theorem markValueS_l0 : ∀ (rest pre : List S84) (m : Int), 0 ≤ m → m + cntVS rest ≤ 4611686018427387903 → rest.length + pre.length ≤ 4611686018427387903 →
    Ev (fun k => laws_markValueS.l0 k (pre ++ rest) m (pre.length : Int)) (m + cntVS rest, pre ++ mkV m rest)
  | [], pre, m, h0, h1, h2 => by
    exact Ev.step (fun k => laws_markValueS.l0.eq_2 _ _ _ k) (Ev.ite_neg end_lt (Ev.eq (Ev.now _) (by simp [mkV, cntVS])))
  | x :: rest, pre, m, h0, h1, h2 => by
    rw [cntVS_cons] at h1
    have hc : cntV x = 1 + x.f1.length + x.f2.length := rfl
    simp only [List.length_cons] at h2
    have hrd : rd_T84 (pre ++ x :: rest) (pre.length : Int) = x := mid_getD _
    refine Ev.step (fun k => laws_markValueS.l0.eq_2 _ _ _ k) (Ev.ite_pos mid_lt (Ev.ite_pos (by omega) (Ev.bind (markText_ev m (by omega)) ?_)))
    rw [hrd, wrap64_of (x := m + 1) (by omega) (by omega)]
    refine Ev.bind (markStringS_ev x.f1 (m + 1) (by omega) (by omega)) (Ev.bind (markIntS_ev x.f2 (m + 1 + x.f1.length) (by omega) (by omega)) ?_)
    rw [mid_set, wrap_next (x := mkV1 m x) (by omega), snoc_cons]
    refine Ev.eq (markValueS_l0 rest (pre ++ [mkV1 m x]) (m + 1 + x.f1.length + x.f2.length) (by omega) (by omega) (by simp; omega)) ?_
    rw [cntVS_cons, mkV]
    have e : m + 1 + (x.f1.length : Int) + x.f2.length = m + (cntV x : Nat) := by rw [hc]; omega
    rw [e]
    simp
    omega
theorem markValueS_ev (xs : List S84) (m : Int) (h0 : 0 ≤ m) (h1 : m + cntVS xs ≤ 4611686018427387903) (h2 : xs.length ≤ 4611686018427387903) : Ev (fun k => laws_markValueS.f k xs m) (m + cntVS xs, mkV m xs) := by
  have := markValueS_l0 xs [] m h0 h1 (by simpa using h2)
  simpa [laws_markValueS.f] using this
end Go.Proofs.Ytndjodgcemgpfaa.Q
end

section
namespace Go.Proofs.Ytndjodgcemgpfaa.Q
open Go.RowKit Go.Proofs.YtndjodgcemgpfaaW.PrintWords Go.Proofs.YtndjodgcemgpfaaW.PrintLast Go.Proofs.YtndjodgcemgpfaaW.PrintMore
attribute [local go_sem] max2_int min2_int max_two min_two max_three min_three max_four min_four
set_option linter.unusedVariables false
set_option linter.unusedSimpArgs false
def spec_DocBytes.f (k : Nat) (a0_0 : ByteArray) (l0_1 : List (S84)) : Option (List Int × Int) := (spec_l06Fits.f k a0_0 l0_1).bind fun t187 => (if t187 = true then ((spec_l06Bytes.f k a0_0 l0_1).bind fun t188 => (some (t188, 0))) else (some ((([] : List Int)), 12)))
theorem spec_DocBytes.mono : ∀ a0 a1 k, LeO (spec_DocBytes.f k a0 a1) (spec_DocBytes.f (k + 1) a0 a1) := by
  intro a0 a1 k
  unfold spec_DocBytes.f
  repeat' first
      | (with_reducible exact spec_l06Bytes.mono _ _ _)
      | (with_reducible exact spec_l06Fits.mono _ _ _)
      | (with_reducible exact LeO.refl _)
      | (with_reducible exact LeO.none _)
      | (with_reducible refine LeO.ite ?_ ?_)
      | (with_reducible refine LeO.bind ?_ (fun _ => ?_))
      | exact spec_l06Bytes.mono _ _ _
      | exact spec_l06Fits.mono _ _ _
      | exact LeO.none _
      | refine LeO.ite ?_ ?_
      | refine LeO.bind ?_ (fun _ => ?_)
set_option maxHeartbeats 8000000 in
set_option maxRecDepth 100000 in
theorem spec_DocBytes.calls (k : Nat) (a0_0 : ByteArray) (A0_1 : Option Addr) (c0_1 : Nat) (l0_1 : List (S84)) (r1 : List Int) (r2 : Int) (w : World) (hr0_1 : Kd.C k84 w A0_1 l0_1.length l0_1) (hc0_1 : l0_1.length ≤ c0_1) (h : spec_DocBytes.f k a0_0 l0_1 = some (r1, r2)) :
    Calls Try.prog 10 #[.agg #[.string a0_0, .slice A0_1 l0_1.length c0_1]] w fun e w' => ∃ v0_ : Value, e = .returned (.tuple #[v0_, .int .i64 r2]) ∧ Kd.R (Kd.int .u8) 5 w' w.heap.size (fun _ => True) v0_ r1 ∧ Below w.heap.size w w' := by
  have hu31 := Try.underlying31
  have HR0_1 := Aside0.mk hr0_1
  have HC0_1 := Aside0.mk hc0_1
  clear hr0_1 hc0_1
  have HB := Aside0.mk (Below.refl w.heap.size w)
  have H : ((spec_l06Fits.f k a0_0 l0_1).bind fun t187 => (if t187 = true then ((spec_l06Bytes.f k a0_0 l0_1).bind fun t188 => (some (t188, 0))) else (some ((([] : List Int)), 12)))) = some (r1, r2) := h
  clear h
  replace H := Option.bind_eq_some_iff.mp H
  obtain ⟨t187, A20, H⟩ := H
  replace H : (if t187 = true then ((spec_l06Bytes.f k a0_0 l0_1).bind fun t188 => (some (t188, 0))) else (some ((([] : List Int)), 12))) = some (r1, r2) := H
  have A2 := Aside0.mk A20
  clear A20
  by_cases c3 : t187 = true
  · subst c3
    have H1 : ((spec_l06Bytes.f k a0_0 l0_1).bind fun t188 => (some (t188, 0))) = some (r1, r2) := by rw [if_pos rfl] at H; exact H
    clear H
    have H := H1
    clear H1
    replace H := Option.bind_eq_some_iff.mp H
    obtain ⟨t188, A40, H⟩ := H
    replace H : (some (t188, 0)) = some (r1, r2) := H
    have A4 := Aside0.mk A40
    clear A40
    simp only [Option.some.injEq, Prod.mk.injEq] at H
    obtain ⟨rfl, rfl⟩ := H
    go_enter Try.func10, Try.ntmps10
    go_wp2_with (first | ((with_reducible refine gate_dst (N := 1) rfl ?_); refine box_event ?hg (N := 1) ?hd (cs := #[.string a0_0, .slice A0_1 l0_1.length c0_1]) (t := 31) ?hr ?_; (case hd => rfl); (case hg => rfl); (case hr => first | (go_simp; done) | (go_simp; rfl)); intro gb186 hg w5 hbox hb; have n0_ := Aside0.mk (below_step (by repeat (first | (with_reducible first | exact HB.out | apply below_alloc | apply pw_below_drewN | apply below_drew1) | exact HB.out)) hb); have n1_ := Aside0.mk (hbox); have n2_ := Aside0.mk ((by rw [hg]; exact (below_size (by repeat (first | (with_reducible first | exact HB.out | apply below_alloc | apply pw_below_drewN | apply below_drew1) | exact HB.out))) : w.heap.size ≤ gb186)); have n3_ := Aside0.mk ((by rw [hg]; exact (below_size (by repeat (first | (with_reducible first | exact HB.out | apply below_alloc | apply pw_below_drewN | apply below_drew1) | exact HB.out))) : w.heap.size ≤ gb186)); clear HB; have HB := n0_; have BK186 := n1_; have GW186 := n2_; have GE186 := n3_; clear n0_ n1_ n2_ n3_; clear hb hbox hg; have hcz6_0 : w5.cell? ⟨gb186, 0, none⟩ = some (.string a0_0) := (blk_cell BK186.out 0).trans rfl; have hcz6_1 : w5.cell? ⟨gb186, 1, none⟩ = some (.slice A0_1 l0_1.length c0_1) := (blk_cell BK186.out 1).trans rfl; have hfz6_0 := blk_frozen BK186.out 0; have hfz6_1 := blk_frozen BK186.out 1) | ((with_reducible refine gate_callee (f := 49) rfl ?_); refine goesL_ (some 5) rfl rfl Try.func49 (by kernel_rfl) rfl #[.agg #[.string a0_0, .slice A0_1 l0_1.length c0_1]] rfl (by (try simp only [List.map_toArray, List.map_cons, List.map_nil]); first | done | rfl | (simp only [List.length_drop, List.length_take]; rfl)) ?_; (with_reducible refine (spec_l06Fits.calls k a0_0 _ _ l0_1 true _ ?side1 ?side2 A2.out).mono ?_); (case side1 => repeat (first | exact (Kd.C_below HR0_1.out HB.out) | (with_reducible refine Kd.C_alloc ?_ _) | (with_reducible refine Kd.C_drewN ?_ _) | (with_reducible refine Kd.C_drew ?_))); (case side2 => exact HC0_1.out); rintro e w7 ⟨rfl, hb⟩; refine ⟨_, rfl, ?_⟩; have n0_ := Aside0.mk (blk_below (g := gb186) (o := .cells #[.string a0_0, .slice A0_1 l0_1.length c0_1] 31 (0, 0)) (by (with_reducible repeat (first | refine blk_drewN ?_ _ | refine blk_drew ?_ | refine blk_alloc ?_ _)); exact BK186.out) hb); have n1_ := Aside0.mk (below_step (by repeat (first | (with_reducible first | exact HB.out | apply below_alloc | apply pw_below_drewN | apply below_drew1 | refine below_set ?_ GE186.out) | exact HB.out)) hb); clear BK186; clear HB; have BK186 := n0_; have HB := n1_; clear n0_ n1_; (try clear hb); (try clear hb2); (try clear hk); (try clear hi); have hcz8_0 : w7.cell? ⟨gb186, 0, none⟩ = some (.string a0_0) := (blk_cell BK186.out 0).trans rfl; have hcz8_1 : w7.cell? ⟨gb186, 1, none⟩ = some (.slice A0_1 l0_1.length c0_1) := (blk_cell BK186.out 1).trans rfl; have hfz8_0 := blk_frozen BK186.out 0; have hfz8_1 := blk_frozen BK186.out 1) | ((with_reducible refine gate_callee (f := 50) rfl ?_); refine goesL_ (some 9) rfl rfl Try.func50 (by kernel_rfl) rfl #[.agg #[.string a0_0, .slice A0_1 l0_1.length c0_1]] rfl (by (try simp only [List.map_toArray, List.map_cons, List.map_nil]); first | done | rfl | (simp only [List.length_drop, List.length_take]; rfl)) ?_; (with_reducible refine (spec_l06Bytes.calls k a0_0 _ _ l0_1 t188 _ ?side1 ?side2 A4.out).mono ?_); (case side1 => repeat (first | exact (Kd.C_below HR0_1.out HB.out) | (with_reducible refine Kd.C_alloc ?_ _) | (with_reducible refine Kd.C_drewN ?_ _) | (with_reducible refine Kd.C_drew ?_))); (case side2 => exact HC0_1.out); rintro e w9 ⟨v189, rfl, ho0, hb⟩; refine ⟨_, rfl, ?_⟩; have n0_ := Aside0.mk (Kd.R_lower ho0 (below_size (by repeat (first | (with_reducible first | exact HB.out | apply below_alloc | apply pw_below_drewN | apply below_drew1 | refine below_set ?_ GE186.out) | exact HB.out)))); have n1_ := Aside0.mk (blk_below (g := gb186) (o := .cells #[.string a0_0, .slice A0_1 l0_1.length c0_1] 31 (0, 0)) (by (with_reducible repeat (first | refine blk_drewN ?_ _ | refine blk_drew ?_ | refine blk_alloc ?_ _)); exact BK186.out) hb); have n2_ := Aside0.mk (below_step (by repeat (first | (with_reducible first | exact HB.out | apply below_alloc | apply pw_below_drewN | apply below_drew1 | refine below_set ?_ GE186.out) | exact HB.out)) hb); clear BK186; clear HB; have HO190 := n0_; have BK186 := n1_; have HB := n2_; clear n0_ n1_ n2_; (try clear hb); (try clear hb2); (try clear hk); (try clear hi); (try clear ho0)))
    go_ret2
    exact ⟨_, by first | rfl | (simp [errW_none, errW_some] <;> rfl) | (simp [*, errW_none, errW_some] <;> rfl), by (with_reducible repeat (first | apply Kd.R_alloc | apply Kd.R_drewN | apply Kd.R_drew)); exact HO190.out, by repeat (first | (with_reducible first | exact HB.out | apply below_alloc | apply pw_below_drewN | apply below_drew1 | refine below_set ?_ GE186.out) | exact HB.out)⟩
  · replace c3 := Bool.eq_false_iff.mpr c3
    subst c3
    have H1 : (some ((([] : List Int)), 12)) = some (r1, r2) := by rw [if_neg (show ¬ (false = true) by decide)] at H; exact H
    clear H
    have H := H1
    clear H1
    obtain ⟨y191, hy191⟩ : ∃ y_ : List Int, y_ = (([] : List Int)) := ⟨_, rfl⟩
    replace H : (some (y191, 12)) = some (r1, r2) := by first | (rw [hy191]; with_reducible exact H) | (have H2_ := (Option.bind_some _ _).symm.trans H; rw [hy191]; with_reducible exact H2_) | (have H2_ := (Option.bind_some _ _).symm.trans H; with_reducible exact H2_) | with_reducible exact H | (rw [hy191]; exact H) | exact H
    have Ny191 := Aside0.mk hy191
    clear hy191
    simp only [Option.some.injEq, Prod.mk.injEq] at H
    obtain ⟨rfl, rfl⟩ := H
    go_enter Try.func10, Try.ntmps10
    go_wp2_with (first | ((with_reducible refine gate_dst (N := 1) rfl ?_); refine box_event ?hg (N := 1) ?hd (cs := #[.string a0_0, .slice A0_1 l0_1.length c0_1]) (t := 31) ?hr ?_; (case hd => rfl); (case hg => rfl); (case hr => first | (go_simp; done) | (go_simp; rfl)); intro gb186 hg w10 hbox hb; have n0_ := Aside0.mk (below_step (by repeat (first | (with_reducible first | exact HB.out | apply below_alloc | apply pw_below_drewN | apply below_drew1) | exact HB.out)) hb); have n1_ := Aside0.mk (hbox); have n2_ := Aside0.mk ((by rw [hg]; exact (below_size (by repeat (first | (with_reducible first | exact HB.out | apply below_alloc | apply pw_below_drewN | apply below_drew1) | exact HB.out))) : w.heap.size ≤ gb186)); have n3_ := Aside0.mk ((by rw [hg]; exact (below_size (by repeat (first | (with_reducible first | exact HB.out | apply below_alloc | apply pw_below_drewN | apply below_drew1) | exact HB.out))) : w.heap.size ≤ gb186)); clear HB; have HB := n0_; have BK186 := n1_; have GW186 := n2_; have GE186 := n3_; clear n0_ n1_ n2_ n3_; clear hb hbox hg; have hcz11_0 : w10.cell? ⟨gb186, 0, none⟩ = some (.string a0_0) := (blk_cell BK186.out 0).trans rfl; have hcz11_1 : w10.cell? ⟨gb186, 1, none⟩ = some (.slice A0_1 l0_1.length c0_1) := (blk_cell BK186.out 1).trans rfl; have hfz11_0 := blk_frozen BK186.out 0; have hfz11_1 := blk_frozen BK186.out 1) | ((with_reducible refine gate_callee (f := 49) rfl ?_); refine goesL_ (some 5) rfl rfl Try.func49 (by kernel_rfl) rfl #[.agg #[.string a0_0, .slice A0_1 l0_1.length c0_1]] rfl (by (try simp only [List.map_toArray, List.map_cons, List.map_nil]); first | done | rfl | (simp only [List.length_drop, List.length_take]; rfl)) ?_; (with_reducible refine (spec_l06Fits.calls k a0_0 _ _ l0_1 false _ ?side1 ?side2 A2.out).mono ?_); (case side1 => repeat (first | exact (Kd.C_below HR0_1.out HB.out) | (with_reducible refine Kd.C_alloc ?_ _) | (with_reducible refine Kd.C_drewN ?_ _) | (with_reducible refine Kd.C_drew ?_))); (case side2 => exact HC0_1.out); rintro e w12 ⟨rfl, hb⟩; refine ⟨_, rfl, ?_⟩; have n0_ := Aside0.mk (blk_below (g := gb186) (o := .cells #[.string a0_0, .slice A0_1 l0_1.length c0_1] 31 (0, 0)) (by (with_reducible repeat (first | refine blk_drewN ?_ _ | refine blk_drew ?_ | refine blk_alloc ?_ _)); exact BK186.out) hb); have n1_ := Aside0.mk (below_step (by repeat (first | (with_reducible first | exact HB.out | apply below_alloc | apply pw_below_drewN | apply below_drew1 | refine below_set ?_ GE186.out) | exact HB.out)) hb); clear BK186; clear HB; have BK186 := n0_; have HB := n1_; clear n0_ n1_; (try clear hb); (try clear hb2); (try clear hk); (try clear hi)) | ((with_reducible refine gate_dst (N := 7) rfl ?_); refine Kd.R_lit (Kd.int .u8) _ 5 ?hg (N := 7) ?hd (xs := ([] : List Int)) (inner := []) (ok := fun _ => True) (okp := fun _ => True) ?hr ?hp (fun _ hk => hk) trivial (Below.refl _ _) (Nat.le_refl _) (by simp) ?_; (case hd => rfl); (case hg => rfl); (case hr => first | (go_simp; done) | (go_simp; rfl)); (case hp => exact (Reps.none _ _)); intro v192 w13 ho14 hb hg_ hnew_; clear hg_ hnew_; (first | rw [← Ny191.out] at ho14 | (simp only [Int.reduceToNat] at ho14; rw [← Ny191.out] at ho14)); have n0_ := Aside0.mk (Kd.R_lower ho14 (below_size (by repeat (first | (with_reducible first | exact HB.out | apply below_alloc | apply pw_below_drewN | apply below_drew1 | refine below_set ?_ GE186.out) | exact HB.out)))); have n1_ := Aside0.mk (blk_below (g := gb186) (o := .cells #[.string a0_0, .slice A0_1 l0_1.length c0_1] 31 (0, 0)) (by (with_reducible repeat (first | refine blk_drewN ?_ _ | refine blk_drew ?_ | refine blk_alloc ?_ _)); exact BK186.out) hb); have n2_ := Aside0.mk (below_step (by repeat (first | (with_reducible first | exact HB.out | apply below_alloc | apply pw_below_drewN | apply below_drew1 | refine below_set ?_ GE186.out) | exact HB.out)) hb); clear BK186; clear HB; have HO193 := n0_; have BK186 := n1_; have HB := n2_; clear n0_ n1_ n2_; clear hb ho14))
    go_ret2
    exact ⟨_, by first | rfl | (simp [errW_none, errW_some] <;> rfl) | (simp [*, errW_none, errW_some] <;> rfl), by (with_reducible repeat (first | apply Kd.R_alloc | apply Kd.R_drewN | apply Kd.R_drew)); exact HO193.out, by repeat (first | (with_reducible first | exact HB.out | apply below_alloc | apply pw_below_drewN | apply below_drew1 | refine below_set ?_ GE186.out) | exact HB.out)⟩
end Go.Proofs.Ytndjodgcemgpfaa.Q
end
