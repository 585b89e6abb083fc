/- A part of the proof: the texts Qh18, Qxs96, Qxf52, Qxf113, Qhrd96, Qxf58, Qh20, packed. -/
import Derived.Test.YtndjodgcemgpfaaKc4

section
set_option linter.unusedVariables false
set_option linter.unusedSimpArgs false
namespace Go.Proofs.Ytndjodgcemgpfaa.Q
open Go.RowKit Go.Proofs.YtndjodgcemgpfaaW.PrintWords Go.Proofs.YtndjodgcemgpfaaW.PrintLast Go.Proofs.YtndjodgcemgpfaaW.PrintMore
def spec_ReadDoc.f (k : Nat) (l0 : List Int) : Option (ByteArray × List S84 × Int) := if (l0.length : Int) > 1048576 then some (ByteArray.empty, [], 2) else (spec_l06Reader_doc.f k l0 0 false).bind fun t => if t.2.2.2 = true then some (ByteArray.empty, [], 15) else if t.2.2.1 = (l0.length : Int) then some (t.1, t.2.1, 0) else some (ByteArray.empty, [], 15)
theorem spec_ReadDoc.mono : ∀ a0 k, LeO (spec_ReadDoc.f k a0) (spec_ReadDoc.f (k + 1) a0) := by
  intro a0 k
  unfold spec_ReadDoc.f
  exact LeO.ite (LeO.refl _) (LeO.bind (spec_l06Reader_doc.mono _ _ _ _) (fun _ => LeO.refl _))
set_option maxHeartbeats 8000000 in
set_option maxRecDepth 100000 in
theorem spec_ReadDoc.calls (k : Nat) (A0 : Option Addr) (c0 : Nat) (l0 : List Int) (r1 : ByteArray) (r2 : List S84) (r3 : Int) (w : World) (hr0 : Kd.C (Kd.int .u8) w A0 l0.length l0) (hc0 : l0.length ≤ c0) (h : spec_ReadDoc.f k l0 = some (r1, r2, r3)) :
    Calls Try.prog 18 #[.slice A0 l0.length c0] w fun e w' => ∃ v1_ : Value, e = .returned (.tuple #[.agg #[.string r1, v1_], .int .i64 r3]) ∧ Kd.S k84 84 w' w.heap.size (fun _ => True) v1_ r2 ∧ Below w.heap.size w w' := by
  unfold spec_ReadDoc.f at h
  have HR := Aside0.mk hr0
  have HC := Aside0.mk hc0
  clear hr0 hc0
  have hu31 := Try.underlying31
  have hu92 := Try.underlying92
  have HB := Aside0.mk (Below.refl w.heap.size w)
  by_cases k1 : (l0.length : Int) > 1048576
  · rw [if_pos k1] at h
    have k1' : decide (1048576 < (l0.length : Int)) = true := decide_eq_true k1
    clear k1
    simp only [Option.some.injEq, Prod.mk.injEq] at h
    obtain ⟨rfl, rfl, rfl⟩ := h
    go_enter Try.func18, Try.ntmps18
    go_wp2_with fail
    refine bodyPost_ret (results_list (rs := [.cell 2 31, .tmp 3]) rfl (by simp) (.cell w.heap.size 31 #[.string ⟨#[]⟩, .slice none 0 0] (0, 0) _ rfl (blk_new w _) Try.underlying31 rfl (by kernel_rfl) (.tmp .nil))) rfl ?_
    exact ⟨_, rfl, Kd.S_nil _ _ _ _ _, below_alloc HB.out _⟩
  · rw [if_neg k1] at h
    have k1' : decide (1048576 < (l0.length : Int)) = false := decide_eq_false k1
    clear k1
    obtain ⟨⟨t1, t2, t3, t4⟩, h1, h⟩ := Option.bind_eq_some_iff.mp h
    have H1 := Aside0.mk h1
    clear h1
    replace h : (if t4 = true then some (ByteArray.empty, [], 15) else if t3 = (l0.length : Int) then some (t1, t2, 0) else some (ByteArray.empty, [], 15)) = some (r1, r2, r3) := h
    have HH := Aside0.mk h
    clear h
    go_enter Try.func18, Try.ntmps18
    go_wp2_with fail
    go_at_call 57
    refine (spec_l06Reader_doc.calls k (w.heap.size + 1) l0 0 false t1 t2 t3 t4 w _ (by simpa using IsS92.new w (w.alloc _) A0 c0 l0 0 false (below_alloc HB.out _) HR.out HC.out) (below_alloc (below_alloc HB.out _) _) H1.out).mono ?_
    rintro e w1 ⟨v1, rfl, hS, hI, hB, hK⟩
    have hb2 := hK.blk (blk_alloc (blk_new w (.cells #[.string ⟨#[]⟩, .slice none 0 0] 31)) _) (show w.heap.size ≠ w.heap.size + 1 by omega) (by simp)
    have B2 := Aside0.mk hb2
    have HS := Aside0.mk (Kd.S_span hS (show w.heap.size ≤ ((w.alloc _).alloc _).heap.size by simp; omega))
    have HI := Aside0.mk hI
    have HB1 := Aside0.mk hB
    have h2 := hB.size
    obtain ⟨A1, c1, e1⟩ := Kd.S_slice hS
    subst e1
    clear hS hI hB hK hb2 HB H1
    obtain ⟨AX, cX, HG, _, _, _⟩ := IsS92.alloc HI.out (.cells #[.string t1, .slice A1 t2.length c1] 31)
    have hx1 := cellS92_1 HG
    have hx2 := cellS92_2 HG
    clear HG
    have hy := blk_alloc B2.out (.cells #[.string t1, .slice A1 t2.length c1] 31)
    have BY := Aside0.mk hy
    have hy0 := (blk_cell hy 0).trans rfl
    have hy1 := (blk_cell hy 1).trans rfl
    have hyf := blk_frozen hy
    clear hy
    cases t4 with
    | true =>
      have h := HH.out
      rw [if_pos rfl] at h
      simp only [Option.some.injEq, Prod.mk.injEq] at h
      obtain ⟨rfl, rfl, rfl⟩ := h
      go_wp2_with fail
      refine bodyPost_ret (results_list (rs := [.cell 2 31, .tmp 3]) rfl (by simp) (.cell w.heap.size 31 #[.string ⟨#[]⟩, .slice none 0 0] (0, 0) _ rfl (by simpa using blk_set (blk_set BY.out 0 _) 1 _) Try.underlying31 rfl (by kernel_rfl) (.tmp .nil))) rfl ?_
      exact ⟨_, rfl, Kd.S_nil _ _ _ _ _, below_set (below_set (below_alloc HB1.out _) (Nat.le_refl _)) (Nat.le_refl _)⟩
    | false =>
      have h := HH.out
      rw [if_neg (by simp)] at h
      by_cases k2 : t3 = (l0.length : Int)
      · rw [if_pos k2] at h
        simp only [Option.some.injEq, Prod.mk.injEq] at h
        obtain ⟨rfl, rfl, rfl⟩ := h
        clear HH
        subst k2
        go_wp2_with fail
        refine bodyPost_ret (results_list (rs := [.cell 2 31, .tmp 3]) rfl (by simp) (.cell w.heap.size 31 #[.string t1, .slice A1 t2.length c1] (0, 0) _ rfl (by simpa using blk_set (blk_set BY.out 0 _) 1 _) Try.underlying31 rfl (by kernel_rfl) (.tmp .nil))) rfl ?_
        exact ⟨_, rfl, Kd.S_mono (Kd.S_kept HS.out (((Kept.alloc (Kept.refl w1 (fun k_ => k_ = w.heap.size)) _).setCell (.inl rfl) _).setCell (.inl rfl) _) (fun k_ h1_ h2_ => by have h1_ := h1_.1; simp at h1_; omega)) (fun _ _ => trivial), below_set (below_set (below_alloc HB1.out _) (Nat.le_refl _)) (Nat.le_refl _)⟩
      · rw [if_neg k2] at h
        simp only [Option.some.injEq, Prod.mk.injEq] at h
        obtain ⟨rfl, rfl, rfl⟩ := h
        clear HH
        go_wp2_with fail
        all_goals first
          | (exfalso; omega)
          | (refine bodyPost_ret (results_list (rs := [.cell 2 31, .tmp 3]) rfl (by simp) (.cell w.heap.size 31 #[.string ⟨#[]⟩, .slice none 0 0] (0, 0) _ rfl (by simpa using blk_set (blk_set BY.out 0 _) 1 _) Try.underlying31 rfl (by kernel_rfl) (.tmp .nil))) rfl ?_
             exact ⟨_, rfl, Kd.S_nil _ _ _ _ _, below_set (below_set (below_alloc HB1.out _) (Nat.le_refl _)) (Nat.le_refl _)⟩)
end Go.Proofs.Ytndjodgcemgpfaa.Q
end

section
namespace Go.Proofs.Ytndjodgcemgpfaa.Q
open Go.RowKit Go.Proofs.YtndjodgcemgpfaaW.PrintWords Go.Proofs.YtndjodgcemgpfaaW.PrintLast Go.Proofs.YtndjodgcemgpfaaW.PrintMore
attribute [local go_sem] max2_int min2_int max_two min_two max_three min_three max_four min_four
set_option linter.unusedVariables false
set_option linter.unusedSimpArgs false
def IsS96 (w0 W : World) (g : Nat) (f0 : List Int) (f1 : Int) (f2 : Bool) : Prop := ∃ A0 c0, W.heap[g]? = some (.cells #[.slice A0 f0.length c0, .int .i64 f1, .bool f2] 96 (0, 0)) ∧ w0.heap.size ≤ g ∧ Kd.C (Kd.int .u8) w0 A0 f0.length f0 ∧ f0.length ≤ c0
theorem IsS96.grown {w0 W : World} {g : Nat} {f0 : List Int} {f1 : Int} {f2 : Bool} {W1 : World} {row : Option Nat} (h : IsS96 w0 W g f0 f1 f2) (hw : W.grownBy W1 row) (hne : some g ≠ row) : IsS96 w0 W1 g f0 f1 f2 := by
  obtain ⟨A0, c0, hb, hg, hr0, hz0⟩ := h
  exact ⟨A0, c0, blk_grown hb hw hne, hg, hr0, hz0⟩
theorem IsS96.kept {w0 W : World} {g : Nat} {f0 : List Int} {f1 : Int} {f2 : Bool} {W1 : World} {S : Nat → Prop} (h : IsS96 w0 W g f0 f1 f2) (hk : Kept W W1 S) (hne : ¬ S g) : IsS96 w0 W1 g f0 f1 f2 := by
  obtain ⟨A0, c0, hb, hg, hr0, hz0⟩ := h
  exact ⟨A0, c0, blk_kept hb hk hne, hg, hr0, hz0⟩
theorem IsS96.below {w0 W : World} {g : Nat} {f0 : List Int} {f1 : Int} {f2 : Bool} {W1 : World} (h : IsS96 w0 W g f0 f1 f2) (hw : Below W.heap.size W W1) : IsS96 w0 W1 g f0 f1 f2 := h.grown (grown_of_below hw none) (by simp)
theorem IsS96.alloc {w0 W : World} {g : Nat} {f0 : List Int} {f1 : Int} {f2 : Bool} (h : IsS96 w0 W g f0 f1 f2) (o : Obj) : IsS96 w0 (W.alloc o) g f0 f1 f2 := h.below (below_alloc (Below.refl _ _) o)
theorem IsS96.drewN {w0 W : World} {g : Nat} {f0 : List Int} {f1 : Int} {f2 : Bool} (h : IsS96 w0 W g f0 f1 f2) (m : Nat) : IsS96 w0 (W.drewN m) g f0 f1 f2 := h
theorem IsS96.drew {w0 W : World} {g : Nat} {f0 : List Int} {f1 : Int} {f2 : Bool} (h : IsS96 w0 W g f0 f1 f2) : IsS96 w0 W.drew g f0 f1 f2 := h
theorem IsS96.at_ {w0 W : World} {g : Nat} {f0 : List Int} {f1 : Int} {f2 : Bool} {w' : World} {m : Nat} (hq : W.drewN m = w') (h : IsS96 w0 W g f0 f1 f2) : IsS96 w0 w' g f0 f1 f2 := by subst hq; exact IsS96.drewN h m
theorem IsS96.apart {w0 W : World} {g : Nat} {f0 : List Int} {f1 : Int} {f2 : Bool} {α : Type} {d : Kd α} {e : Nat} {base : Nat} {ok : Nat → Prop} {v : Value} {xs : List α} (h : IsS96 w0 W g f0 f1 f2) (ho : d.R e W base ok v xs) (ht : ∀ q, q ∈ e :: d.E → q ≠ 96) : d.R e W base (fun k => ok k ∧ k ≠ g) v xs := by
  obtain ⟨A0, c0, hb, hg, hr0, hz0⟩ := h
  exact Kd.R_types ho hb ht
theorem IsS96.own_ne {w0 W : World} {g : Nat} {f0 : List Int} {f1 : Int} {f2 : Bool} {α : Type} {d : Kd α} {e : Nat} {base : Nat} {ok : Nat → Prop} {v : Value} {xs : List α} (h : IsS96 w0 W g f0 f1 f2) (ho : d.R e W base ok v xs) (ht : e ≠ 96) : some g ≠ v.ownBlock := by
  obtain ⟨A0, c0, hb, hg, hr0, hz0⟩ := h
  exact Kd.R_ne ho hb ht
theorem IsS96.apartS {w0 W : World} {g : Nat} {f0 : List Int} {f1 : Int} {f2 : Bool} {α : Type} {d : Kd α} {e : Nat} {base : Nat} {ok : Nat → Prop} {v : Value} {xs : List α} (h : IsS96 w0 W g f0 f1 f2) (ho : d.S e W base ok v xs) (ht : ∀ q, q ∈ e :: d.E → q ≠ 96) : d.S e W base (fun k => ok k ∧ k ≠ g) v xs := by
  obtain ⟨A0, c0, hb, hg, hr0, hz0⟩ := h
  exact Kd.S_types ho hb ht
theorem IsS96.own_neS {w0 W : World} {g : Nat} {f0 : List Int} {f1 : Int} {f2 : Bool} {α : Type} {d : Kd α} {e : Nat} {base : Nat} {ok : Nat → Prop} {v : Value} {xs : List α} (h : IsS96 w0 W g f0 f1 f2) (ho : d.S e W base ok v xs) (ht : e ≠ 96) : some g ≠ v.ownBlock := by
  obtain ⟨A0, c0, hb, hg, hr0, hz0⟩ := h
  exact Kd.S_ne ho hb ht
theorem IsS96.lt {w0 W : World} {g : Nat} {f0 : List Int} {f1 : Int} {f2 : Bool} (h : IsS96 w0 W g f0 f1 f2) : g < W.heap.size := by
  obtain ⟨A0, c0, hb, hg, hr0, hz0⟩ := h
  exact blk_lt hb
theorem IsS96.ge {w0 W : World} {g : Nat} {f0 : List Int} {f1 : Int} {f2 : Bool} (h : IsS96 w0 W g f0 f1 f2) : w0.heap.size ≤ g := by
  obtain ⟨A0, c0, hb, hg, hr0, hz0⟩ := h
  exact hg
theorem IsS96.far {w0 W : World} {g : Nat} {f0 : List Int} {f1 : Int} {f2 : Bool} {p : Addr} (h : IsS96 w0 W g f0 f1 f2) (hne : g ≠ p.block) (u : Value) : IsS96 w0 (W.setCell p u) g f0 f1 f2 := by
  obtain ⟨A0, c0, hb, hg, hr0, hz0⟩ := h
  exact ⟨A0, c0, blk_far hb hne u, hg, hr0, hz0⟩
theorem cellS96_0 {W : World} {g : Nat} {A0 : Option Addr} {c0 : Nat} {f0 : List Int} {f1 : Int} {f2 : Bool} (h : W.heap[g]? = some (.cells #[.slice A0 f0.length c0, .int .i64 f1, .bool f2] 96 (0, 0))) : W.cell? ⟨g, 0, none⟩ = some (.slice A0 f0.length c0) := (blk_cell h 0).trans rfl
theorem cellS96_1 {W : World} {g : Nat} {A0 : Option Addr} {c0 : Nat} {f0 : List Int} {f1 : Int} {f2 : Bool} (h : W.heap[g]? = some (.cells #[.slice A0 f0.length c0, .int .i64 f1, .bool f2] 96 (0, 0))) : W.cell? ⟨g, 1, none⟩ = some (.int .i64 f1) := (blk_cell h 1).trans rfl
theorem IsS96.set_1 {w0 W : World} {g : Nat} {f0 : List Int} {f1 : Int} {f2 : Bool} (h : IsS96 w0 W g f0 f1 f2) (x : Int) : IsS96 w0 (W.setCell ⟨g, 1, none⟩ (.int .i64 x)) g f0 x f2 := by
  obtain ⟨A0, c0, hb, hg, hr0, hz0⟩ := h
  exact ⟨A0, c0, by simpa using blk_set hb 1 (.int .i64 x), hg, hr0, hz0⟩
theorem cellS96_2 {W : World} {g : Nat} {A0 : Option Addr} {c0 : Nat} {f0 : List Int} {f1 : Int} {f2 : Bool} (h : W.heap[g]? = some (.cells #[.slice A0 f0.length c0, .int .i64 f1, .bool f2] 96 (0, 0))) : W.cell? ⟨g, 2, none⟩ = some (.bool f2) := (blk_cell h 2).trans rfl
theorem IsS96.set_2 {w0 W : World} {g : Nat} {f0 : List Int} {f1 : Int} {f2 : Bool} (h : IsS96 w0 W g f0 f1 f2) (x : Bool) : IsS96 w0 (W.setCell ⟨g, 2, none⟩ (.bool x)) g f0 f1 x := by
  obtain ⟨A0, c0, hb, hg, hr0, hz0⟩ := h
  exact ⟨A0, c0, by simpa using blk_set hb 2 (.bool x), hg, hr0, hz0⟩
theorem IsS96.new (w0 W : World) (A0 : Option Addr) (c0 : Nat) (f0 : List Int) (f1 : Int) (f2 : Bool) (hB : Below w0.heap.size w0 W) (hr0 : Kd.C (Kd.int .u8) w0 A0 f0.length f0) (hz0 : f0.length ≤ c0) : IsS96 w0 (W.alloc (.cells #[.slice A0 f0.length c0, .int .i64 f1, .bool f2] 96)) W.heap.size f0 f1 f2 := ⟨A0, c0, by simpa using heap_alloc_new W _, hB.size, hr0, hz0⟩
end Go.Proofs.Ytndjodgcemgpfaa.Q
end

section
namespace Go.Proofs.Ytndjodgcemgpfaa.Q
open Go.RowKit Go.Proofs.YtndjodgcemgpfaaW.PrintWords Go.Proofs.YtndjodgcemgpfaaW.PrintLast Go.Proofs.YtndjodgcemgpfaaW.PrintMore
attribute [local go_sem] max2_int min2_int max_two min_two max_three min_three max_four min_four
set_option linter.unusedVariables false
set_option linter.unusedSimpArgs false
def impl_within.f (a0 : Int) (a1 : Int) (a2 : Int) : Option (Bool) := if a0 ≥ a1 then (some (decide (a0 ≤ a2))) else (some false)
set_option maxHeartbeats 8000000 in
set_option maxRecDepth 100000 in
theorem impl_within.calls (a0 : Int) (a1 : Int) (a2 : Int) (r : Bool) (w : World) (h : impl_within.f a0 a1 a2 = some r) :
    Calls Try.prog 52 #[.int .i64 a0, .int .i64 a1, .int .i64 a2] w fun e w' => e = .returned (.bool r) ∧ Drawn0 w w' := by
  have H : (if a0 ≥ a1 then (some (decide (a0 ≤ a2))) else (some false)) = some r := h
  clear h
  by_cases c4 : a0 ≥ a1
  · rw [if_pos c4] at H
    have c4b0 : decide (a1 ≤ a0) = true := decide_eq_true c4
    clear c4
    obtain rfl := Option.some.inj H
    go_enter Try.func52, Try.ntmps52
    go_wp2
    go_ret
    exact ⟨by first | rfl | (simp; done) | (simp [*]; done), by repeat (first | exact Drawn0.refl _ | apply Drawn0.step)⟩
  · rw [if_neg c4] at H
    have c4b0 : decide (a1 ≤ a0) = false := decide_eq_false c4
    clear c4
    obtain rfl := Option.some.inj H
    go_enter Try.func52, Try.ntmps52
    go_wp2
    go_ret
    exact ⟨by first | rfl | (simp; done) | (simp [*]; done), by repeat (first | exact Drawn0.refl _ | apply Drawn0.step)⟩
end Go.Proofs.Ytndjodgcemgpfaa.Q
end

section
namespace Go.Proofs.Ytndjodgcemgpfaa.Q
open Go.RowKit Go.Proofs.YtndjodgcemgpfaaW.PrintWords Go.Proofs.YtndjodgcemgpfaaW.PrintLast Go.Proofs.YtndjodgcemgpfaaW.PrintMore
attribute [local go_sem] max2_int min2_int max_two min_two max_three min_three max_four min_four
set_option linter.unusedVariables false
set_option linter.unusedSimpArgs false
mutual
def impl_GetInt.l0 : Nat → List Int → Int → Int → Int → Option (Int × Int × Int)
  | 0, _, _, _, _ => none
  | k + 1, x0, x1, x7, x8 => if x8 < 9 then (impl_GetInt.j1 k x0 x1 x7 x8 (decide ((wrap64 (x1 + x8)) < (x0.length : Int)))) else (impl_GetInt.j1 k x0 x1 x7 x8 false)
def impl_GetInt.j1 : Nat → List Int → Int → Int → Int → Bool → Option (Int × Int × Int)
  | 0, _, _, _, _, _ => none
  | k + 1, x0, x1, x7, x8, x27 => if x27 = true then (if 0 ≤ (wrap64 (x1 + x8)) then (if (wrap64 (x1 + x8)) < (x0.length : Int) then (if 0 ≤ (wrap64 (7 * x8)) then (if (rd x0 (wrap64 (x1 + x8))) < 128 then (if (Go.bits .or .i64 x7 (shl .i64 (wrap64 (Go.bits .and .u8 (rd x0 (wrap64 (x1 + x8))) 127)) (wrap64 (7 * x8)))) > 4611686018427387903 then (some (0, 0, 3)) else (if (Go.bits .or .i64 x7 (shl .i64 (wrap64 (Go.bits .and .u8 (rd x0 (wrap64 (x1 + x8))) 127)) (wrap64 (7 * x8)))) < 0 then (some (0, 0, 3)) else (if (rd x0 (wrap64 (x1 + x8))) = 0 then (if x8 > 0 then (some (0, 0, 3)) else (some (Go.bits .or .i64 x7 (shl .i64 (wrap64 (Go.bits .and .u8 (rd x0 (wrap64 (x1 + x8))) 127)) (wrap64 (7 * x8))), wrap64 ((wrap64 (x1 + x8)) + 1), 0))) else (some (Go.bits .or .i64 x7 (shl .i64 (wrap64 (Go.bits .and .u8 (rd x0 (wrap64 (x1 + x8))) 127)) (wrap64 (7 * x8))), wrap64 ((wrap64 (x1 + x8)) + 1), 0))))) else (impl_GetInt.l0 k x0 x1 (Go.bits .or .i64 x7 (shl .i64 (wrap64 (Go.bits .and .u8 (rd x0 (wrap64 (x1 + x8))) 127)) (wrap64 (7 * x8)))) (wrap64 (x8 + 1)))) else (none)) else (none)) else (none)) else (some (0, 0, 3))
end
def impl_GetInt.f (k : Nat) (l0 : List Int) (a1 : Int) : Option (Int × Int × Int) := if (l0.length : Int) > 1048576 then (some (0, 0, 2)) else ((impl_within.f a1 0 (l0.length : Int)).bind fun t376 => (if t376 = true then (impl_GetInt.l0 k l0 a1 0 0) else (some (0, 0, 1))))
theorem impl_GetInt.mono_l : ∀ k, (∀ y0 y1 y2 y3, LeO (impl_GetInt.l0 k y0 y1 y2 y3) (impl_GetInt.l0 (k + 1) y0 y1 y2 y3)) ∧ (∀ y0 y1 y2 y3 y4, LeO (impl_GetInt.j1 k y0 y1 y2 y3 y4) (impl_GetInt.j1 (k + 1) y0 y1 y2 y3 y4))
  | 0 => ⟨fun _ _ _ _ r h => by simp [impl_GetInt.l0] at h, fun _ _ _ _ _ r h => by simp [impl_GetInt.j1] at h⟩
  | k + 1 => by
    obtain ⟨ih0, ih1⟩ := impl_GetInt.mono_l k
    refine ⟨?_, ?_⟩
    · intro y0 y1 y2 y3
      unfold impl_GetInt.l0
      repeat' first
      | (with_reducible exact ih0 _ _ _ _)
      | (with_reducible exact ih1 _ _ _ _ _)
      | (with_reducible exact LeO.refl _)
      | (with_reducible exact LeO.none _)
      | (with_reducible refine LeO.ite ?_ ?_)
      | (with_reducible refine LeO.bind ?_ (fun _ => ?_))
      | exact ih0 _ _ _ _
      | exact ih1 _ _ _ _ _
      | exact LeO.none _
      | refine LeO.ite ?_ ?_
      | refine LeO.bind ?_ (fun _ => ?_)
    · intro y0 y1 y2 y3 y4
      unfold impl_GetInt.j1
      repeat' first
      | (with_reducible exact ih0 _ _ _ _)
      | (with_reducible exact ih1 _ _ _ _ _)
      | (with_reducible exact LeO.refl _)
      | (with_reducible exact LeO.none _)
      | (with_reducible refine LeO.ite ?_ ?_)
      | (with_reducible refine LeO.bind ?_ (fun _ => ?_))
      | exact ih0 _ _ _ _
      | exact ih1 _ _ _ _ _
      | exact LeO.none _
      | refine LeO.ite ?_ ?_
      | refine LeO.bind ?_ (fun _ => ?_)
theorem impl_GetInt.mono : ∀ a0 a1 k, LeO (impl_GetInt.f k a0 a1) (impl_GetInt.f (k + 1) a0 a1) := by
  intro a0 a1 k
  obtain ⟨ih0, ih1⟩ := impl_GetInt.mono_l k
  unfold impl_GetInt.f
  repeat' first
      | (with_reducible exact ih0 _ _ _ _)
      | (with_reducible exact ih1 _ _ _ _ _)
      | (with_reducible exact LeO.refl _)
      | (with_reducible exact LeO.none _)
      | (with_reducible refine LeO.ite ?_ ?_)
      | (with_reducible refine LeO.bind ?_ (fun _ => ?_))
      | exact ih0 _ _ _ _
      | exact ih1 _ _ _ _ _
      | exact LeO.none _
      | refine LeO.ite ?_ ?_
      | refine LeO.bind ?_ (fun _ => ?_)
set_option maxHeartbeats 8000000 in
set_option maxRecDepth 100000 in
theorem impl_GetInt.calls (k : Nat) (A0 : Option Addr) (c0 : Nat) (l0 : List Int) (a1 : Int) (r1 : Int) (r2 : Int) (r3 : Int) (w : World) (hr0 : Kd.C (Kd.int .u8) w A0 l0.length l0) (hc0 : l0.length ≤ c0) (h : impl_GetInt.f k l0 a1 = some (r1, r2, r3)) :
    Calls Try.prog 113 #[.slice A0 l0.length c0, .int .i64 a1] w fun e w' => e = .returned (.tuple #[.int .i64 r1, .int .i64 r2, .int .i64 r3]) ∧ Drawn0 w w' := by
  have HR0 := Aside0.mk hr0
  have HC0 := Aside0.mk hc0
  clear hr0 hc0
  have H : (if (l0.length : Int) > 1048576 then (some (0, 0, 2)) else ((impl_within.f a1 0 (l0.length : Int)).bind fun t376 => (if t376 = true then (impl_GetInt.l0 k l0 a1 0 0) else (some (0, 0, 1))))) = some (r1, r2, r3) := h
  clear h
  by_cases c3 : (l0.length : Int) > 1048576
  · rw [if_pos c3] at H
    have c3b0 : decide (1048576 < (l0.length : Int)) = true := decide_eq_true c3
    have c3b1 : decide (1048576 < l0.length) = true := decide_eq_true (by omega)
    clear c3
    simp only [Option.some.injEq, Prod.mk.injEq] at H
    obtain ⟨rfl, rfl, rfl⟩ := H
    go_enter Try.func113, Try.ntmps113
    go_wp2
    go_ret3
    exact ⟨by first | rfl | (simp; done) | (simp [*]; done), by repeat (first | exact Drawn0.refl _ | apply Drawn0.step)⟩
  · rw [if_neg c3] at H
    have c3b0 : decide (1048576 < (l0.length : Int)) = false := decide_eq_false c3
    have c3b1 : decide (1048576 < l0.length) = false := decide_eq_false (by omega)
    clear c3
    replace H := Option.bind_eq_some_iff.mp H
    obtain ⟨t376, A40, H⟩ := H
    replace H : (if t376 = true then (impl_GetInt.l0 k l0 a1 0 0) else (some (0, 0, 1))) = some (r1, r2, r3) := H
    have A4 := Aside0.mk A40
    clear A40
    by_cases c5 : t376 = true
    · subst c5
      have H1 : (impl_GetInt.l0 k l0 a1 0 0) = some (r1, r2, r3) := by rw [if_pos rfl] at H; exact H
      clear H
      have H := H1
      clear H1
      have H' := Aside0.mk H
      clear H
      go_enter Try.func113, Try.ntmps113
      go_wp2_with (first | ((with_reducible refine gate_callee (f := 52) rfl ?_); refine goesL_ (some 16) rfl rfl Try.func52 (by kernel_rfl) rfl #[.int .i64 a1, .int .i64 0, .int .i64 (l0.length : Int)] rfl (by (try simp only [List.map_toArray, List.map_cons, List.map_nil]); first | done | rfl | (simp only [List.length_drop, List.length_take]; rfl)) ?_; (with_reducible refine (impl_within.calls a1 0 (l0.length : Int) true _ A4.out).mono ?_); rintro e w' ⟨rfl, ⟨nd, rfl⟩⟩; refine ⟨_, rfl, ?_⟩))
      go_loopg [7, 8] k (fun kq v7 v8 w' => ∃ (x7_1 : Int) (x8_1 : Int), v7 = .int .i64 x7_1 ∧ v8 = .int .i64 x8_1 ∧ Aside0 (impl_GetInt.l0 kq l0 a1 x7_1 x8_1 = some (r1, r2, r3)) ∧ Aside0 (kq ≤ k) ∧ Drawn0 w w')
      case atStart => exact ⟨(0), (0), (by first | rfl | (simp; done) | (simp [*]; done)), (by first | rfl | (simp; done) | (simp [*]; done)), H', ⟨Nat.le_refl _⟩, by repeat (first | exact Drawn0.refl _ | apply Drawn0.step)⟩
      case round =>
        clear H'
        try clear c1
        try clear p2
        try clear c3
        try clear c3b0
        try clear c3b1
        try clear c5
        obtain ⟨x7_1, x8_1, rfl, rfl, HA, HK1, ⟨m1, rfl⟩⟩ := hrel
        cases gk with
        | zero => exact absurd HA.out (by simp [impl_GetInt.l0])
        | succ k1 =>
          have H := HA.out
          clear HA
          simp only [impl_GetInt.l0] at H
          have HC6 := Aside0.mk H
          clear H
          go_upto_region 7 with (fail)
          go_cut [27] (fun v27 wc => ∃ (kq : Nat) (x27_5 : Bool), v27 = .bool x27_5 ∧ Aside0 (impl_GetInt.j1 kq l0 a1 x7_1 x8_1 x27_5 = some (r1, r2, r3)) ∧ Aside0 (kq ≤ k1) ∧ Drawn0 w wc)
          case first =>
            have H := HC6.out
            clear HC6
            by_cases c7 : x8_1 < 9
            · rw [if_pos c7] at H
              have c7b0 : decide (x8_1 < 9) = true := decide_eq_true c7
              clear c7
              (first | rw [c7b0] | (simp only [i64_w, i32_w]; rw [c7b0]) | skip)
              have H' := Aside0.mk H
              clear H
              go_wp2
              go_meet
              case rel => exact ⟨_, (decide ((wrap64 (a1 + x8_1)) < (l0.length : Int))), (by first | rfl | (simp; done) | (simp [*]; done)), H', ⟨by have := HK1.out; first | omega | exact Nat.le_refl _⟩, by repeat (first | exact Drawn0.refl _ | apply Drawn0.step)⟩
            · rw [if_neg c7] at H
              have c7b0 : decide (x8_1 < 9) = false := decide_eq_false c7
              clear c7
              (first | rw [c7b0] | (simp only [i64_w, i32_w]; rw [c7b0]) | skip)
              have H' := Aside0.mk H
              clear H
              go_wp2
              go_meet
              case rel => exact ⟨_, (false), (by first | rfl | (simp; done) | (simp [*]; done)), H', ⟨by have := HK1.out; first | omega | exact Nat.le_refl _⟩, by repeat (first | exact Drawn0.refl _ | apply Drawn0.step)⟩
          case rest =>
            clear HC6
            try clear c1
            try clear p2
            try clear c3
            try clear c3b0
            try clear c3b1
            try clear c5
            try clear p6
            try clear c7
            try clear c7b0
            try clear p2
            obtain ⟨kq, x27_5, rfl, HA, HJ5, ⟨mc5, rfl⟩⟩ := hcut
            cases kq with
            | zero => exact absurd HA.out (by simp [impl_GetInt.j1])
            | succ kj5 =>
              have H := HA.out
              clear HA
              simp only [impl_GetInt.j1] at H
              by_cases c8 : x27_5 = true
              · subst c8
                have H1 : (if 0 ≤ (wrap64 (a1 + x8_1)) then (if (wrap64 (a1 + x8_1)) < (l0.length : Int) then (if 0 ≤ (wrap64 (7 * x8_1)) then (if (rd l0 (wrap64 (a1 + x8_1))) < 128 then (if (Go.bits .or .i64 x7_1 (shl .i64 (wrap64 (Go.bits .and .u8 (rd l0 (wrap64 (a1 + x8_1))) 127)) (wrap64 (7 * x8_1)))) > 4611686018427387903 then (some (0, 0, 3)) else (if (Go.bits .or .i64 x7_1 (shl .i64 (wrap64 (Go.bits .and .u8 (rd l0 (wrap64 (a1 + x8_1))) 127)) (wrap64 (7 * x8_1)))) < 0 then (some (0, 0, 3)) else (if (rd l0 (wrap64 (a1 + x8_1))) = 0 then (if x8_1 > 0 then (some (0, 0, 3)) else (some (Go.bits .or .i64 x7_1 (shl .i64 (wrap64 (Go.bits .and .u8 (rd l0 (wrap64 (a1 + x8_1))) 127)) (wrap64 (7 * x8_1))), wrap64 ((wrap64 (a1 + x8_1)) + 1), 0))) else (some (Go.bits .or .i64 x7_1 (shl .i64 (wrap64 (Go.bits .and .u8 (rd l0 (wrap64 (a1 + x8_1))) 127)) (wrap64 (7 * x8_1))), wrap64 ((wrap64 (a1 + x8_1)) + 1), 0))))) else (impl_GetInt.l0 kj5 l0 a1 (Go.bits .or .i64 x7_1 (shl .i64 (wrap64 (Go.bits .and .u8 (rd l0 (wrap64 (a1 + x8_1))) 127)) (wrap64 (7 * x8_1)))) (wrap64 (x8_1 + 1)))) else (none)) else (none)) else (none)) = some (r1, r2, r3) := by rw [if_pos rfl] at H; exact H
                clear H
                have H := H1
                clear H1
                obtain ⟨ji9, hji9⟩ : ∃ j_ : Int, (wrap64 (a1 + x8_1)) = j_ := ⟨_, rfl⟩
                replace H : (if 0 ≤ (ji9) then (if (ji9) < (l0.length : Int) then (if 0 ≤ (wrap64 (7 * x8_1)) then (if (rd l0 (ji9)) < 128 then (if (Go.bits .or .i64 x7_1 (shl .i64 (wrap64 (Go.bits .and .u8 (rd l0 (ji9)) 127)) (wrap64 (7 * x8_1)))) > 4611686018427387903 then (some (0, 0, 3)) else (if (Go.bits .or .i64 x7_1 (shl .i64 (wrap64 (Go.bits .and .u8 (rd l0 (ji9)) 127)) (wrap64 (7 * x8_1)))) < 0 then (some (0, 0, 3)) else (if (rd l0 (ji9)) = 0 then (if x8_1 > 0 then (some (0, 0, 3)) else (some (Go.bits .or .i64 x7_1 (shl .i64 (wrap64 (Go.bits .and .u8 (rd l0 (ji9)) 127)) (wrap64 (7 * x8_1))), wrap64 ((ji9) + 1), 0))) else (some (Go.bits .or .i64 x7_1 (shl .i64 (wrap64 (Go.bits .and .u8 (rd l0 (ji9)) 127)) (wrap64 (7 * x8_1))), wrap64 ((ji9) + 1), 0))))) else (impl_GetInt.l0 kj5 l0 a1 (Go.bits .or .i64 x7_1 (shl .i64 (wrap64 (Go.bits .and .u8 (rd l0 (ji9)) 127)) (wrap64 (7 * x8_1)))) (wrap64 (x8_1 + 1)))) else (none)) else (none)) else (none)) = some (r1, r2, r3) := by first | (rw [hji9] at H; exact H) | (simp only [hji9] at H ⊢; exact H)
                have hji9w : (IntKind.i64.wrap (a1 + x8_1)) = ji9 := (i64_w _).trans hji9
                by_cases c10 : 0 ≤ (ji9)
                · rw [if_pos c10] at H
                  have c10b0 : decide (0 ≤ (ji9)) = true := decide_eq_true c10
                  clear c10
                  by_cases c11 : (ji9) < (l0.length : Int)
                  · rw [if_pos c11] at H
                    have c11b0 : decide ((ji9) < (l0.length : Int)) = true := decide_eq_true c11
                    clear c11
                    obtain ⟨ji12, hji12⟩ : ∃ j_ : Int, (wrap64 (7 * x8_1)) = j_ := ⟨_, rfl⟩
                    replace H : (if 0 ≤ (ji12) then (if (rd l0 (ji9)) < 128 then (if (Go.bits .or .i64 x7_1 (shl .i64 (wrap64 (Go.bits .and .u8 (rd l0 (ji9)) 127)) (ji12))) > 4611686018427387903 then (some (0, 0, 3)) else (if (Go.bits .or .i64 x7_1 (shl .i64 (wrap64 (Go.bits .and .u8 (rd l0 (ji9)) 127)) (ji12))) < 0 then (some (0, 0, 3)) else (if (rd l0 (ji9)) = 0 then (if x8_1 > 0 then (some (0, 0, 3)) else (some (Go.bits .or .i64 x7_1 (shl .i64 (wrap64 (Go.bits .and .u8 (rd l0 (ji9)) 127)) (ji12)), wrap64 ((ji9) + 1), 0))) else (some (Go.bits .or .i64 x7_1 (shl .i64 (wrap64 (Go.bits .and .u8 (rd l0 (ji9)) 127)) (ji12)), wrap64 ((ji9) + 1), 0))))) else (impl_GetInt.l0 kj5 l0 a1 (Go.bits .or .i64 x7_1 (shl .i64 (wrap64 (Go.bits .and .u8 (rd l0 (ji9)) 127)) (ji12))) (wrap64 (x8_1 + 1)))) else (none)) = some (r1, r2, r3) := by first | (rw [hji12] at H; exact H) | (simp only [hji12] at H ⊢; exact H)
                    have hji12w : (IntKind.i64.wrap (7 * x8_1)) = ji12 := (i64_w _).trans hji12
                    by_cases c13 : 0 ≤ (ji12)
                    · rw [if_pos c13] at H
                      have c13b0 := eq_true c13
                      have c13b1 : decide (0 ≤ (ji12)) = true := decide_eq_true c13
                      clear c13
                      obtain ⟨ji14, hji14⟩ : ∃ j_ : Int, (shl .i64 (wrap64 (Go.bits .and .u8 (rd l0 (ji9)) 127)) (ji12)) = j_ := ⟨_, rfl⟩
                      replace H : (if (rd l0 (ji9)) < 128 then (if (Go.bits .or .i64 x7_1 (ji14)) > 4611686018427387903 then (some (0, 0, 3)) else (if (Go.bits .or .i64 x7_1 (ji14)) < 0 then (some (0, 0, 3)) else (if (rd l0 (ji9)) = 0 then (if x8_1 > 0 then (some (0, 0, 3)) else (some (Go.bits .or .i64 x7_1 (ji14), wrap64 ((ji9) + 1), 0))) else (some (Go.bits .or .i64 x7_1 (ji14), wrap64 ((ji9) + 1), 0))))) else (impl_GetInt.l0 kj5 l0 a1 (Go.bits .or .i64 x7_1 (ji14)) (wrap64 (x8_1 + 1)))) = some (r1, r2, r3) := by first | (rw [hji14] at H; exact H) | (simp only [hji14] at H ⊢; exact H)
                      have hji14_ : (IntKind.i64.wrap ((wrap64 (Go.bits .and .u8 (rd l0 (ji9)) 127)) * 2 ^ min (ji12).toNat 64)) = ji14 := hji14
                      have hji14z : (ji12) ≤ 64 → (IntKind.i64.wrap ((wrap64 (Go.bits .and .u8 (rd l0 (ji9)) 127)) * 2 ^ (ji12).toNat)) = ji14 := shl_small hji14
                      have hji14y : (wrap64 ((wrap64 (Go.bits .and .u8 (rd l0 (ji9)) 127)) * 2 ^ min (ji12).toNat 64)) = ji14 := (i64_w _).symm.trans hji14_
                      have hji14x : (ji12) ≤ 64 → (wrap64 ((wrap64 (Go.bits .and .u8 (rd l0 (ji9)) 127)) * 2 ^ (ji12).toNat)) = ji14 := fun h_ => (i64_w _).symm.trans (hji14z h_)
                      by_cases c15 : (rd l0 (ji9)) < 128
                      · rw [if_pos c15] at H
                        have c15b0 : decide ((rd l0 (ji9)) < 128) = true := decide_eq_true c15
                        clear c15
                        by_cases c16 : (Go.bits .or .i64 x7_1 (ji14)) > 4611686018427387903
                        · rw [if_pos c16] at H
                          have c16b0 : decide (4611686018427387903 < (Go.bits .or .i64 x7_1 (ji14))) = true := decide_eq_true c16
                          clear c16
                          simp only [Option.some.injEq, Prod.mk.injEq] at H
                          obtain ⟨rfl, rfl, rfl⟩ := H
                          have p377 : 0 ≤ ((ji9) : Int) := of_decide_eq_true (by first | (with_reducible assumption) | assumption)
                          have q377 : (ji9) < (l0.length : Int) := of_decide_eq_true (by first | (with_reducible assumption) | assumption)
                          obtain ⟨ad377, e377, hx377_0⟩ := Kd.at_int HR0.out (ji9) p377 q377
                          cases e377
                          replace p377 := eq_true p377
                          replace q377 := eq_true q377
                          go_wp2
                          go_ret3
                          exact ⟨by first | rfl | (simp; done) | (simp only [← hji9, ← hji12, ← hji14] <;> (first | rfl | simp)) | (simp [*]; done), by repeat (first | exact Drawn0.refl _ | apply Drawn0.step)⟩
                        · rw [if_neg c16] at H
                          have c16b0 : decide (4611686018427387903 < (Go.bits .or .i64 x7_1 (ji14))) = false := decide_eq_false c16
                          clear c16
                          by_cases c17 : (Go.bits .or .i64 x7_1 (ji14)) < 0
                          · rw [if_pos c17] at H
                            have c17b0 : decide ((Go.bits .or .i64 x7_1 (ji14)) < 0) = true := decide_eq_true c17
                            clear c17
                            simp only [Option.some.injEq, Prod.mk.injEq] at H
                            obtain ⟨rfl, rfl, rfl⟩ := H
                            have p377 : 0 ≤ ((ji9) : Int) := of_decide_eq_true (by first | (with_reducible assumption) | assumption)
                            have q377 : (ji9) < (l0.length : Int) := of_decide_eq_true (by first | (with_reducible assumption) | assumption)
                            obtain ⟨ad377, e377, hx377_0⟩ := Kd.at_int HR0.out (ji9) p377 q377
                            cases e377
                            replace p377 := eq_true p377
                            replace q377 := eq_true q377
                            go_wp2
                            go_ret3
                            exact ⟨by first | rfl | (simp; done) | (simp only [← hji9, ← hji12, ← hji14] <;> (first | rfl | simp)) | (simp [*]; done), by repeat (first | exact Drawn0.refl _ | apply Drawn0.step)⟩
                          · rw [if_neg c17] at H
                            have c17b0 : decide ((Go.bits .or .i64 x7_1 (ji14)) < 0) = false := decide_eq_false c17
                            clear c17
                            by_cases c18 : (rd l0 (ji9)) = 0
                            · rw [if_pos c18] at H
                              have c18b0 : ((rd l0 (ji9)) == 0) = true := beq_iff_eq.mpr c18
                              have c18b1 : ((rd l0 (ji9)) != 0) = false := bne_eq_false_iff_eq.mpr c18
                              clear c18
                              by_cases c19 : x8_1 > 0
                              · rw [if_pos c19] at H
                                have c19b0 : decide (0 < x8_1) = true := decide_eq_true c19
                                clear c19
                                simp only [Option.some.injEq, Prod.mk.injEq] at H
                                obtain ⟨rfl, rfl, rfl⟩ := H
                                have p377 : 0 ≤ ((ji9) : Int) := of_decide_eq_true (by first | (with_reducible assumption) | assumption)
                                have q377 : (ji9) < (l0.length : Int) := of_decide_eq_true (by first | (with_reducible assumption) | assumption)
                                obtain ⟨ad377, e377, hx377_0⟩ := Kd.at_int HR0.out (ji9) p377 q377
                                cases e377
                                replace p377 := eq_true p377
                                replace q377 := eq_true q377
                                go_wp2
                                go_ret3
                                exact ⟨by first | rfl | (simp; done) | (simp only [← hji9, ← hji12, ← hji14] <;> (first | rfl | simp)) | (simp [*]; done), by repeat (first | exact Drawn0.refl _ | apply Drawn0.step)⟩
                              · rw [if_neg c19] at H
                                have c19b0 : decide (0 < x8_1) = false := decide_eq_false c19
                                clear c19
                                simp only [Option.some.injEq, Prod.mk.injEq] at H
                                obtain ⟨rfl, rfl, rfl⟩ := H
                                have p377 : 0 ≤ ((ji9) : Int) := of_decide_eq_true (by first | (with_reducible assumption) | assumption)
                                have q377 : (ji9) < (l0.length : Int) := of_decide_eq_true (by first | (with_reducible assumption) | assumption)
                                obtain ⟨ad377, e377, hx377_0⟩ := Kd.at_int HR0.out (ji9) p377 q377
                                cases e377
                                replace p377 := eq_true p377
                                replace q377 := eq_true q377
                                go_wp2
                                go_ret3
                                exact ⟨by first | rfl | (simp; done) | (simp only [← hji9, ← hji12, ← hji14] <;> (first | rfl | simp)) | (simp [*]; done), by repeat (first | exact Drawn0.refl _ | apply Drawn0.step)⟩
                            · rw [if_neg c18] at H
                              have c18b0 : ((rd l0 (ji9)) == 0) = false := beq_eq_false_iff_ne.mpr c18
                              have c18b1 : ((rd l0 (ji9)) != 0) = true := bne_iff_ne.mpr c18
                              simp only [Option.some.injEq, Prod.mk.injEq] at H
                              obtain ⟨rfl, rfl, rfl⟩ := H
                              have p377 : 0 ≤ ((ji9) : Int) := of_decide_eq_true (by first | (with_reducible assumption) | assumption)
                              have q377 : (ji9) < (l0.length : Int) := of_decide_eq_true (by first | (with_reducible assumption) | assumption)
                              obtain ⟨ad377, e377, hx377_0⟩ := Kd.at_int HR0.out (ji9) p377 q377
                              cases e377
                              replace p377 := eq_true p377
                              replace q377 := eq_true q377
                              go_wp2
                              go_ret3
                              exact ⟨by first | rfl | (simp; done) | (simp only [← hji9, ← hji12, ← hji14] <;> (first | rfl | simp)) | (simp [*]; done), by repeat (first | exact Drawn0.refl _ | apply Drawn0.step)⟩
                      · rw [if_neg c15] at H
                        have c15b0 : decide ((rd l0 (ji9)) < 128) = false := decide_eq_false c15
                        clear c15
                        have H' := Aside0.mk H
                        clear H
                        have p377 : 0 ≤ ((ji9) : Int) := of_decide_eq_true (by first | (with_reducible assumption) | assumption)
                        have q377 : (ji9) < (l0.length : Int) := of_decide_eq_true (by first | (with_reducible assumption) | assumption)
                        obtain ⟨ad377, e377, hx377_0⟩ := Kd.at_int HR0.out (ji9) p377 q377
                        cases e377
                        replace p377 := eq_true p377
                        replace q377 := eq_true q377
                        go_wp2
                        go_roundg kj5
                        case measure => have := HK1.out; have := HJ5.out; omega
                        case rel => exact ⟨(Go.bits .or .i64 x7_1 (ji14)), (wrap64 (x8_1 + 1)), (by first | rfl | (simp; done) | (simp only [← hji14] <;> (first | rfl | simp)) | (simp [*]; done)), (by first | rfl | (simp; done) | (simp [*]; done)), H', ⟨by have := HK1.out; have := HJ5.out; omega⟩, by repeat (first | exact Drawn0.refl _ | apply Drawn0.step)⟩
                    · rw [if_neg c13] at H
                      exact absurd H (by simp)
                  · rw [if_neg c11] at H
                    exact absurd H (by simp)
                · rw [if_neg c10] at H
                  exact absurd H (by simp)
              · replace c8 := Bool.eq_false_iff.mpr c8
                subst c8
                have H1 : (some (0, 0, 3)) = some (r1, r2, r3) := by rw [if_neg (show ¬ (false = true) by decide)] at H; exact H
                clear H
                have H := H1
                clear H1
                simp only [Option.some.injEq, Prod.mk.injEq] at H
                obtain ⟨rfl, rfl, rfl⟩ := H
                go_wp2
                go_ret3
                exact ⟨by first | rfl | (simp; done) | (simp [*]; done), by repeat (first | exact Drawn0.refl _ | apply Drawn0.step)⟩
    · replace c5 := Bool.eq_false_iff.mpr c5
      subst c5
      have H1 : (some (0, 0, 1)) = some (r1, r2, r3) := by rw [if_neg (show ¬ (false = true) by decide)] at H; exact H
      clear H
      have H := H1
      clear H1
      simp only [Option.some.injEq, Prod.mk.injEq] at H
      obtain ⟨rfl, rfl, rfl⟩ := H
      go_enter Try.func113, Try.ntmps113
      go_wp2_with (first | ((with_reducible refine gate_callee (f := 52) rfl ?_); refine goesL_ (some 16) rfl rfl Try.func52 (by kernel_rfl) rfl #[.int .i64 a1, .int .i64 0, .int .i64 (l0.length : Int)] rfl (by (try simp only [List.map_toArray, List.map_cons, List.map_nil]); first | done | rfl | (simp only [List.length_drop, List.length_take]; rfl)) ?_; (with_reducible refine (impl_within.calls a1 0 (l0.length : Int) false _ A4.out).mono ?_); rintro e w' ⟨rfl, ⟨nd, rfl⟩⟩; refine ⟨_, rfl, ?_⟩))
      go_ret3
      exact ⟨by first | rfl | (simp; done) | (simp [*]; done), by repeat (first | exact Drawn0.refl _ | apply Drawn0.step)⟩
end Go.Proofs.Ytndjodgcemgpfaa.Q
end

section
set_option linter.unusedVariables false
set_option linter.unusedSimpArgs false
namespace Go.Proofs.Ytndjodgcemgpfaa.Q
open Go.RowKit Go.Proofs.YtndjodgcemgpfaaW.PrintWords Go.Proofs.YtndjodgcemgpfaaW.PrintLast Go.Proofs.YtndjodgcemgpfaaW.PrintMore
def impl_docReader_int.f (k : Nat) (s0_0 : List Int) (s0_1 : Int) (s0_2 : Bool) (a1 : Int) : Option (Int × Int × Bool) := if s0_2 = true then some (0, s0_1, true) else (impl_GetInt.f k s0_0 s0_1).bind fun t => if t.2.2 = 0 then (if t.1 > a1 then some (0, s0_1, true) else some (t.1, t.2.1, false)) else some (0, s0_1, true)
theorem impl_docReader_int.mono : ∀ a0 a1 a2 a3 k, LeO (impl_docReader_int.f k a0 a1 a2 a3) (impl_docReader_int.f (k + 1) a0 a1 a2 a3) := by
  intro a0 a1 a2 a3 k
  unfold impl_docReader_int.f
  exact LeO.ite (LeO.refl _) (LeO.bind (impl_GetInt.mono _ _ _) (fun _ => LeO.refl _))
theorem getInt_quiet (k : Nat) (A0 : Option Addr) (c0 : Nat) (l0 : List Int) (a1 : Int) (r1 : Int) (r2 : Int) (r3 : Int) (w : World) (n : Nat) (hr0 : Kd.C (Kd.int .u8) w A0 l0.length l0) (hc0 : l0.length ≤ c0) (h : impl_GetInt.f k l0 a1 = some (r1, r2, r3)) :
    Calls Try.prog 113 #[.slice A0 l0.length c0, .int .i64 a1] (w.drewN n) fun e w'' => e = .returned (.tuple #[.int .i64 r1, .int .i64 r2, .int .i64 r3]) ∧ ∃ m, w'' = w.drewN m := by
  refine Calls.quiet_of ((impl_GetInt.calls k A0 c0 l0 a1 r1 r2 r3 _ (Kd.C_drewN hr0 _) hc0 h).mono ?_)
  rintro e w' ⟨rfl, ⟨nd, rfl⟩⟩
  exact ⟨rfl, nd, rfl⟩
set_option maxHeartbeats 8000000 in
set_option maxRecDepth 100000 in
theorem impl_docReader_int.calls (k : Nat) (g : Nat) (s0_0 : List Int) (s0_1 : Int) (s0_2 : Bool) (a1 : Int) (r1 : Int) (r2 : Int) (r3 : Bool) (w0 w : World) (hI : IsS96 w0 w g s0_0 s0_1 s0_2) (hB : Below w0.heap.size w0 w) (h : impl_docReader_int.f k s0_0 s0_1 s0_2 a1 = some (r1, r2, r3)) :
    Calls Try.prog 100 #[.pointer (some ⟨g, 0, none⟩), .int .i64 a1] w fun e w' => e = .returned (.int .i64 r1) ∧ IsS96 w0 w' g s0_0 r2 r3 ∧ Below w0.heap.size w0 w' ∧ KeepBut w w' g none := by
  unfold impl_docReader_int.f at h
  have HI := Aside0.mk hI
  have HB := Aside0.mk hB
  have HK := Aside0.mk (KeepBut.refl w g none)
  obtain ⟨A0, c0, HG, hg, HR0, HZ0⟩ := hI
  have HR := Aside0.mk HR0
  have HZ := Aside0.mk HZ0
  have hc0 := cellS96_0 HG
  have hc1 := cellS96_1 HG
  have hc2 := cellS96_2 HG
  have hf := blk_frozen HG
  clear HG hg hB HR0 HZ0
  cases s0_2 with
  | true =>
    rw [if_pos rfl] at h
    simp only [Option.some.injEq, Prod.mk.injEq] at h
    obtain ⟨rfl, rfl, rfl⟩ := h
    go_enter Try.func100, Try.ntmps100
    go_wp2_with fail
    go_ret
    exact ⟨rfl, by repeat (first | (with_reducible first | exact HI.out | apply IsS96.alloc | apply IsS96.drewN | apply IsS96.drew | apply IsS96.set_1 | apply IsS96.set_2) | exact HI.out), by repeat (first | (with_reducible first | exact HB.out | apply below_alloc | apply pw_below_drewN | apply below_drew1 | refine below_set ?_ (IsS96.ge HI.out)) | exact HB.out), by repeat (first | (with_reducible first | exact HK.out | apply KeepBut.set_ | apply keep_drewN | apply keep_drew | apply keep_alloc) | exact HK.out)⟩
  | false =>
    rw [if_neg (by simp)] at h
    obtain ⟨⟨t1, t2, t3⟩, h1, h⟩ := Option.bind_eq_some_iff.mp h
    have H1 := Aside0.mk h1
    clear h1
    replace h : (if t3 = 0 then (if t1 > a1 then some ((0 : Int), s0_1, true) else some (t1, t2, false)) else some (0, s0_1, true)) = some (r1, r2, r3) := h
    by_cases k1 : t3 = 0
    · rw [if_pos k1] at h
      subst k1
      by_cases k2 : t1 > a1
      · rw [if_pos k2] at h
        have k2' : decide (a1 < t1) = true := decide_eq_true k2
        clear k2
        simp only [Option.some.injEq, Prod.mk.injEq] at h
        obtain ⟨rfl, rfl, rfl⟩ := h
        go_enter Try.func100, Try.ntmps100
        go_wp2_with fail
        go_quiet (exact getInt_quiet k A0 c0 s0_0 s0_1 t1 t2 0 _ _ (Kd.C_below HR.out HB.out) HZ.out H1.out)
        go_wp2_with fail
        go_ret
        exact ⟨rfl, by repeat (first | (with_reducible first | exact HI.out | apply IsS96.alloc | apply IsS96.drewN | apply IsS96.drew | apply IsS96.set_1 | apply IsS96.set_2) | exact HI.out), by repeat (first | (with_reducible first | exact HB.out | apply below_alloc | apply pw_below_drewN | apply below_drew1 | refine below_set ?_ (IsS96.ge HI.out)) | exact HB.out), by repeat (first | (with_reducible first | exact HK.out | apply KeepBut.set_ | apply keep_drewN | apply keep_drew | apply keep_alloc) | exact HK.out)⟩
      · rw [if_neg k2] at h
        have k2' : decide (a1 < t1) = false := decide_eq_false k2
        clear k2
        simp only [Option.some.injEq, Prod.mk.injEq] at h
        obtain ⟨rfl, rfl, rfl⟩ := h
        go_enter Try.func100, Try.ntmps100
        go_wp2_with fail
        go_quiet (exact getInt_quiet k A0 c0 s0_0 s0_1 t1 t2 0 _ _ (Kd.C_below HR.out HB.out) HZ.out H1.out)
        go_wp2_with fail
        go_ret
        exact ⟨rfl, by repeat (first | (with_reducible first | exact HI.out | apply IsS96.alloc | apply IsS96.drewN | apply IsS96.drew | apply IsS96.set_1 | apply IsS96.set_2) | exact HI.out), by repeat (first | (with_reducible first | exact HB.out | apply below_alloc | apply pw_below_drewN | apply below_drew1 | refine below_set ?_ (IsS96.ge HI.out)) | exact HB.out), by repeat (first | (with_reducible first | exact HK.out | apply KeepBut.set_ | apply keep_drewN | apply keep_drew | apply keep_alloc) | exact HK.out)⟩
    · rw [if_neg k1] at h
      simp only [Option.some.injEq, Prod.mk.injEq] at h
      obtain ⟨rfl, rfl, rfl⟩ := h
      go_enter Try.func100, Try.ntmps100
      go_wp2_with fail
      go_quiet (exact getInt_quiet k A0 c0 s0_0 s0_1 t1 t2 t3 _ _ (Kd.C_below HR.out HB.out) HZ.out H1.out)
      go_wp2_with fail
      all_goals first
        | (exfalso; omega)
        | (go_ret
           exact ⟨rfl, by repeat (first | (with_reducible first | exact HI.out | apply IsS96.alloc | apply IsS96.drewN | apply IsS96.drew | apply IsS96.set_1 | apply IsS96.set_2) | exact HI.out), by repeat (first | (with_reducible first | exact HB.out | apply below_alloc | apply pw_below_drewN | apply below_drew1 | refine below_set ?_ (IsS96.ge HI.out)) | exact HB.out), by repeat (first | (with_reducible first | exact HK.out | apply KeepBut.set_ | apply keep_drewN | apply keep_drew | apply keep_alloc) | exact HK.out)⟩)
def impl_docReader_text.f (k : Nat) (s0_0 : List Int) (s0_1 : Int) (s0_2 : Bool) : Option (ByteArray × Int × Bool) := (impl_docReader_int.f k s0_0 s0_1 s0_2 65536).bind fun t => if t.2.2 = true then some (ByteArray.empty, t.2.1, true) else if wrap64 (t.2.1 + t.1) > (s0_0.length : Int) then some (ByteArray.empty, t.2.1, true) else if 0 ≤ wrap64 (wrap64 (t.2.1 + t.1) - t.1) ∧ wrap64 (wrap64 (t.2.1 + t.1) - t.1) ≤ wrap64 (t.2.1 + t.1) then some (strOfNums ((s0_0.take (wrap64 (t.2.1 + t.1)).toNat).drop (wrap64 (wrap64 (t.2.1 + t.1) - t.1)).toNat), wrap64 (t.2.1 + t.1), false) else none
theorem impl_docReader_text.mono : ∀ a0 a1 a2 k, LeO (impl_docReader_text.f k a0 a1 a2) (impl_docReader_text.f (k + 1) a0 a1 a2) := by
  intro a0 a1 a2 k
  unfold impl_docReader_text.f
  exact LeO.bind (impl_docReader_int.mono _ _ _ _ _) (fun _ => LeO.refl _)
set_option maxHeartbeats 8000000 in
set_option maxRecDepth 100000 in
theorem impl_docReader_text.calls (k : Nat) (g : Nat) (s0_0 : List Int) (s0_1 : Int) (s0_2 : Bool) (r1 : ByteArray) (r2 : Int) (r3 : Bool) (w0 w : World) (hI : IsS96 w0 w g s0_0 s0_1 s0_2) (hB : Below w0.heap.size w0 w) (h : impl_docReader_text.f k s0_0 s0_1 s0_2 = some (r1, r2, r3)) :
    Calls Try.prog 99 #[.pointer (some ⟨g, 0, none⟩)] w fun e w' => e = .returned (.string r1) ∧ IsS96 w0 w' g s0_0 r2 r3 ∧ Below w0.heap.size w0 w' ∧ KeepBut w w' g none := by
  have HI0 := Aside0.mk hI
  have HB0 := Aside0.mk hB
  clear hI hB
  unfold impl_docReader_text.f at h
  obtain ⟨⟨t1, t2, t3⟩, h1, h⟩ := Option.bind_eq_some_iff.mp h
  have H1 := Aside0.mk h1
  clear h1
  have H := Aside0.mk h
  clear h
  go_enter Try.func99, Try.ntmps99
  go_wp2_with fail
  go_at_call 100
  refine (impl_docReader_int.calls k g s0_0 s0_1 s0_2 65536 t1 t2 t3 w0 _ HI0.out HB0.out H1.out).mono ?_
  rintro e w1 ⟨rfl, hI, hB, hK⟩
  have HK := Aside0.mk hK
  clear HI0 HB0 H1 hK
  have HI := Aside0.mk hI
  have HB := Aside0.mk hB
  obtain ⟨A0, c0, HG, hg, HR0, HZ0⟩ := hI
  have HR := Aside0.mk HR0
  have HZ := Aside0.mk HZ0
  have hc0 := cellS96_0 HG
  have hc1 := cellS96_1 HG
  have hc2 := cellS96_2 HG
  have hf := blk_frozen HG
  clear HG hg hB HR0 HZ0
  have h := H.out
  clear H
  cases t3 with
  | true =>
    replace h : some (ByteArray.empty, t2, true) = some (r1, r2, r3) := h
    simp only [Option.some.injEq, Prod.mk.injEq] at h
    obtain ⟨rfl, rfl, rfl⟩ := h
    go_wp2_with fail
    go_quiet (fail)
    go_wp2_with fail
    go_ret
    exact ⟨rfl, by repeat (first | (with_reducible first | exact HI.out | apply IsS96.alloc | apply IsS96.drewN | apply IsS96.drew | apply IsS96.set_1 | apply IsS96.set_2) | exact HI.out), by repeat (first | (with_reducible first | exact HB.out | apply below_alloc | apply pw_below_drewN | apply below_drew1 | refine below_set ?_ (IsS96.ge HI.out)) | exact HB.out), by repeat (first | (with_reducible first | exact HK.out | apply KeepBut.set_ | apply keep_drewN | apply keep_drew | apply keep_alloc) | exact HK.out)⟩
  | false =>
    replace h : (if wrap64 (t2 + t1) > (s0_0.length : Int) then some (ByteArray.empty, t2, true) else if 0 ≤ wrap64 (wrap64 (t2 + t1) - t1) ∧ wrap64 (wrap64 (t2 + t1) - t1) ≤ wrap64 (t2 + t1) then some (strOfNums ((s0_0.take (wrap64 (t2 + t1)).toNat).drop (wrap64 (wrap64 (t2 + t1) - t1)).toNat), wrap64 (t2 + t1), false) else none) = some (r1, r2, r3) := h
    obtain ⟨a2, e1⟩ : ∃ a2, wrap64 (t2 + t1) = a2 := ⟨_, rfl⟩
    rw [e1] at h
    by_cases k1 : a2 > (s0_0.length : Int)
    · rw [if_pos k1] at h
      have k1' : decide ((s0_0.length : Int) < a2) = true := decide_eq_true k1
      clear k1
      simp only [Option.some.injEq, Prod.mk.injEq] at h
      obtain ⟨rfl, rfl, rfl⟩ := h
      go_wp2_with fail
      go_quiet (fail)
      go_wp2_with fail
      go_ret
      exact ⟨rfl, by repeat (first | (with_reducible first | exact HI.out | apply IsS96.alloc | apply IsS96.drewN | apply IsS96.drew | apply IsS96.set_1 | apply IsS96.set_2) | exact HI.out), by repeat (first | (with_reducible first | exact HB.out | apply below_alloc | apply pw_below_drewN | apply below_drew1 | refine below_set ?_ (IsS96.ge HI.out)) | exact HB.out), by repeat (first | (with_reducible first | exact HK.out | apply KeepBut.set_ | apply keep_drewN | apply keep_drew | apply keep_alloc) | exact HK.out)⟩
    · rw [if_neg k1] at h
      have k1' : decide ((s0_0.length : Int) < a2) = false := decide_eq_false k1
      obtain ⟨lo, e2⟩ : ∃ lo, wrap64 (a2 - t1) = lo := ⟨_, rfl⟩
      rw [e2] at h
      by_cases k3 : 0 ≤ lo ∧ lo ≤ a2
      · rw [if_pos k3] at h
        obtain ⟨k3, k4⟩ := k3
        have k5 : a2 ≤ (s0_0.length : Int) := by omega
        clear k1
        obtain ⟨i0, hi0, _, hs0, _⟩ := info_parts info5
        have hcut := cut_mid (P := Try.prog) 26 5 .i64 .i64 Try.underlying26 hi0 1 hs0 A0 s0_0.length c0 _ _ k3 k4 k5 HZ.out
        have hC := Kd.C_mid (c := c0) HR.out (lo := lo.toNat) (hi := a2.toNat) (by omega) (by omega) HZ.out
        obtain ⟨ys, hys⟩ : ∃ ys, (s0_0.take a2.toNat).drop lo.toNat = ys := ⟨_, rfl⟩
        rw [hys] at hC h
        simp only [Option.some.injEq, Prod.mk.injEq] at h
        obtain ⟨rfl, rfl, rfl⟩ := h
        have hyl : a2.toNat - lo.toNat = ys.length := by rw [← hys, List.length_drop, List.length_take]; omega
        obtain ⟨A1, hA1⟩ : ∃ A1, (if c0 = lo.toNat then A0 else A0.map (·.add (lo.toNat * 1))) = A1 := ⟨_, rfl⟩
        obtain ⟨c1, hc1'⟩ : ∃ c1, c0 - lo.toNat = c1 := ⟨_, rfl⟩
        rw [hA1, hc1', hyl] at hcut
        replace hC : Kd.C (Kd.int .u8) w0 A1 ys.length ys := hA1 ▸ hC
        have HCC := Aside0.mk hC
        clear hC hA1 hc1' hyl hys hi0 hs0 k3 k4 k5
        go_wp2_with fail
        go_quiet (fail)
        go_wp2_with fail
        have hcv : ∀ n, (convert 26 9 (.slice A1 ys.length c1)).run Try.prog (((w1.drewN nq).setCell ⟨g, 1, none⟩ (.int .i64 a2)).drewN n) = .ok (.string (strOfNums ys)) (((w1.drewN nq).setCell ⟨g, 1, none⟩ (.int .i64 a2)).drewN n) := fun n => Kd.C_string Try.underlying26 Try.underlying5 Try.underlying9 (Kd.C_drewN (Kd.C_below HCC.out (below_set (pw_below_drewN HB.out _) (IsS96.ge HI.out))) n)
        go_quiet (fail)
        go_wp2_with fail
        go_ret
        exact ⟨rfl, by repeat (first | (with_reducible first | exact HI.out | apply IsS96.alloc | apply IsS96.drewN | apply IsS96.drew | apply IsS96.set_1 | apply IsS96.set_2) | exact HI.out), by repeat (first | (with_reducible first | exact HB.out | apply below_alloc | apply pw_below_drewN | apply below_drew1 | refine below_set ?_ (IsS96.ge HI.out)) | exact HB.out), by repeat (first | (with_reducible first | exact HK.out | apply KeepBut.set_ | apply keep_drewN | apply keep_drew | apply keep_alloc) | exact HK.out)⟩
      · rw [if_neg k3] at h
        cases h
end Go.Proofs.Ytndjodgcemgpfaa.Q
end

section
namespace Go.Proofs.Ytndjodgcemgpfaa.Q
open Go.RowKit Go.Proofs.YtndjodgcemgpfaaW.PrintWords Go.Proofs.YtndjodgcemgpfaaW.PrintLast Go.Proofs.YtndjodgcemgpfaaW.PrintMore
attribute [local go_sem] max2_int min2_int max_two min_two max_three min_three max_four min_four
set_option linter.unusedVariables false
set_option linter.unusedSimpArgs false
mutual
def impl_docReader_doc.l0 : Nat → Int → Int → List Int → Int → Bool → ByteArray → List (S84) → Option (ByteArray × (List (S84)) × Int × Bool)
  | 0, _, _, _, _, _, _, _ => none
  | k + 1, x10, x11, x1000, x1001, x1002, x383000, x383001 => if x11 < x10 then ((impl_docReader_text.f k x1000 x1001 x1002).bind fun bt386 => ((impl_docReader_int.f k x1000 bt386.2.1 bt386.2.2 4096).bind fun bt390 => (impl_docReader_doc.l1 k x10 x11 bt390.1 0 x1000 bt390.2.1 bt390.2.2 x383000 x383001 bt386.1 ([] : List ByteArray)))) else (some (x383000, x383001, x1001, x1002))
def impl_docReader_doc.l1 : Nat → Int → Int → Int → Int → List Int → Int → Bool → ByteArray → List (S84) → ByteArray → List ByteArray → Option (ByteArray × (List (S84)) × Int × Bool)
  | 0, _, _, _, _, _, _, _, _, _, _, _ => none
  | k + 1, x10, x11, x17, x18, x1000, x1001, x1002, x383000, x383001, x390000, x390001 => if x18 < x17 then ((impl_docReader_text.f k x1000 x1001 x1002).bind fun bt393 => (if x390001.length < 8796093022208 then (if bt393.2.2 = true then (some (x383000, x383001, bt393.2.1, bt393.2.2)) else (impl_docReader_doc.l1 k x10 x11 x17 (wrap64 (x18 + 1)) x1000 bt393.2.1 bt393.2.2 x383000 x383001 x390000 (x390001 ++ [bt393.1]))) else (none))) else ((impl_docReader_int.f k x1000 x1001 x1002 4096).bind fun bt399 => (impl_docReader_doc.l2 k x10 x11 bt399.1 0 x1000 bt399.2.1 bt399.2.2 x383000 x383001 x390000 x390001 ([] : List Int)))
def impl_docReader_doc.l2 : Nat → Int → Int → Int → Int → List Int → Int → Bool → ByteArray → List (S84) → ByteArray → List ByteArray → List Int → Option (ByteArray × (List (S84)) × Int × Bool)
  | 0, _, _, _, _, _, _, _, _, _, _, _, _ => none
  | k + 1, x10, x11, x34, x35, x1000, x1001, x1002, x383000, x383001, x390000, x390001, x390002 => if x35 < x34 then ((impl_docReader_int.f k x1000 x1001 x1002 2000000000000).bind fun bt405 => (if (Int.tmod bt405.1 2) = 1 then (if x390002.length < 17592186044416 then (if bt405.2.2 = true then (some (x383000, x383001, bt405.2.1, bt405.2.2)) else (impl_docReader_doc.l2 k x10 x11 x34 (wrap64 (x35 + 1)) x1000 bt405.2.1 bt405.2.2 x383000 x383001 x390000 x390001 (x390002 ++ [wrap64 (Int.tdiv (wrap64 (-(wrap64 (bt405.1 + 1)))) 2)]))) else (none)) else (if x390002.length < 17592186044416 then (if bt405.2.2 = true then (some (x383000, x383001, bt405.2.1, bt405.2.2)) else (impl_docReader_doc.l2 k x10 x11 x34 (wrap64 (x35 + 1)) x1000 bt405.2.1 bt405.2.2 x383000 x383001 x390000 x390001 (x390002 ++ [wrap64 (Int.tdiv bt405.1 2)]))) else (none)))) else (if x383001.length < 2199023255552 then ((some (x383001 ++ [(⟨x390000, x390001, x390002⟩ : S84)] : List (S84))).bind fun y402 => (if x1002 = true then (some (x383000, y402, x1001, x1002)) else (impl_docReader_doc.l0 k x10 (wrap64 (x11 + 1)) x1000 x1001 x1002 x383000 y402))) else (none))
end
def impl_docReader_doc.f (k : Nat) (s0_0 : List Int) (s0_1 : Int) (s0_2 : Bool) : Option (ByteArray × (List (S84)) × Int × Bool) := (impl_docReader_text.f k s0_0 s0_1 s0_2).bind fun bt379 => ((impl_docReader_int.f k s0_0 bt379.2.1 bt379.2.2 4096).bind fun bt383 => (impl_docReader_doc.l0 k bt383.1 0 s0_0 bt383.2.1 bt383.2.2 bt379.1 ([] : List (S84))))
theorem impl_docReader_doc.mono_l : ∀ k, (∀ y0 y1 y2 y3 y4 y5 y6, LeO (impl_docReader_doc.l0 k y0 y1 y2 y3 y4 y5 y6) (impl_docReader_doc.l0 (k + 1) y0 y1 y2 y3 y4 y5 y6)) ∧ (∀ y0 y1 y2 y3 y4 y5 y6 y7 y8 y9 y10, LeO (impl_docReader_doc.l1 k y0 y1 y2 y3 y4 y5 y6 y7 y8 y9 y10) (impl_docReader_doc.l1 (k + 1) y0 y1 y2 y3 y4 y5 y6 y7 y8 y9 y10)) ∧ (∀ y0 y1 y2 y3 y4 y5 y6 y7 y8 y9 y10 y11, LeO (impl_docReader_doc.l2 k y0 y1 y2 y3 y4 y5 y6 y7 y8 y9 y10 y11) (impl_docReader_doc.l2 (k + 1) y0 y1 y2 y3 y4 y5 y6 y7 y8 y9 y10 y11))
  | 0 => ⟨fun _ _ _ _ _ _ _ r h => by simp [impl_docReader_doc.l0] at h, fun _ _ _ _ _ _ _ _ _ _ _ r h => by simp [impl_docReader_doc.l1] at h, fun _ _ _ _ _ _ _ _ _ _ _ _ r h => by simp [impl_docReader_doc.l2] at h⟩
  | k + 1 => by
    obtain ⟨ih0, ih1, ih2⟩ := impl_docReader_doc.mono_l k
    refine ⟨?_, ?_, ?_⟩
    · intro y0 y1 y2 y3 y4 y5 y6
      unfold impl_docReader_doc.l0
      repeat' first
      | (with_reducible exact ih0 _ _ _ _ _ _ _)
      | (with_reducible exact ih1 _ _ _ _ _ _ _ _ _ _ _)
      | (with_reducible exact ih2 _ _ _ _ _ _ _ _ _ _ _ _)
      | (with_reducible exact impl_docReader_int.mono _ _ _ _ _)
      | (with_reducible exact impl_docReader_text.mono _ _ _ _)
      | (with_reducible exact LeO.refl _)
      | (with_reducible exact LeO.none _)
      | (with_reducible refine LeO.ite ?_ ?_)
      | (with_reducible refine LeO.bind ?_ (fun _ => ?_))
      | exact ih0 _ _ _ _ _ _ _
      | exact ih1 _ _ _ _ _ _ _ _ _ _ _
      | exact ih2 _ _ _ _ _ _ _ _ _ _ _ _
      | exact impl_docReader_int.mono _ _ _ _ _
      | exact impl_docReader_text.mono _ _ _ _
      | exact LeO.none _
      | refine LeO.ite ?_ ?_
      | refine LeO.bind ?_ (fun _ => ?_)
    · intro y0 y1 y2 y3 y4 y5 y6 y7 y8 y9 y10
      unfold impl_docReader_doc.l1
      repeat' first
      | (with_reducible exact ih0 _ _ _ _ _ _ _)
      | (with_reducible exact ih1 _ _ _ _ _ _ _ _ _ _ _)
      | (with_reducible exact ih2 _ _ _ _ _ _ _ _ _ _ _ _)
      | (with_reducible exact impl_docReader_int.mono _ _ _ _ _)
      | (with_reducible exact impl_docReader_text.mono _ _ _ _)
      | (with_reducible exact LeO.refl _)
      | (with_reducible exact LeO.none _)
      | (with_reducible refine LeO.ite ?_ ?_)
      | (with_reducible refine LeO.bind ?_ (fun _ => ?_))
      | exact ih0 _ _ _ _ _ _ _
      | exact ih1 _ _ _ _ _ _ _ _ _ _ _
      | exact ih2 _ _ _ _ _ _ _ _ _ _ _ _
      | exact impl_docReader_int.mono _ _ _ _ _
      | exact impl_docReader_text.mono _ _ _ _
      | exact LeO.none _
      | refine LeO.ite ?_ ?_
      | refine LeO.bind ?_ (fun _ => ?_)
    · intro y0 y1 y2 y3 y4 y5 y6 y7 y8 y9 y10 y11
      unfold impl_docReader_doc.l2
      repeat' first
      | (with_reducible exact ih0 _ _ _ _ _ _ _)
      | (with_reducible exact ih1 _ _ _ _ _ _ _ _ _ _ _)
      | (with_reducible exact ih2 _ _ _ _ _ _ _ _ _ _ _ _)
      | (with_reducible exact impl_docReader_int.mono _ _ _ _ _)
      | (with_reducible exact impl_docReader_text.mono _ _ _ _)
      | (with_reducible exact LeO.refl _)
      | (with_reducible exact LeO.none _)
      | (with_reducible refine LeO.ite ?_ ?_)
      | (with_reducible refine LeO.bind ?_ (fun _ => ?_))
      | exact ih0 _ _ _ _ _ _ _
      | exact ih1 _ _ _ _ _ _ _ _ _ _ _
      | exact ih2 _ _ _ _ _ _ _ _ _ _ _ _
      | exact impl_docReader_int.mono _ _ _ _ _
      | exact impl_docReader_text.mono _ _ _ _
      | exact LeO.none _
      | refine LeO.ite ?_ ?_
      | refine LeO.bind ?_ (fun _ => ?_)
theorem impl_docReader_doc.mono : ∀ a0 a1 a2 k, LeO (impl_docReader_doc.f k a0 a1 a2) (impl_docReader_doc.f (k + 1) a0 a1 a2) := by
  intro a0 a1 a2 k
  obtain ⟨ih0, ih1, ih2⟩ := impl_docReader_doc.mono_l k
  unfold impl_docReader_doc.f
  repeat' first
      | (with_reducible exact ih0 _ _ _ _ _ _ _)
      | (with_reducible exact ih1 _ _ _ _ _ _ _ _ _ _ _)
      | (with_reducible exact ih2 _ _ _ _ _ _ _ _ _ _ _ _)
      | (with_reducible exact impl_docReader_int.mono _ _ _ _ _)
      | (with_reducible exact impl_docReader_text.mono _ _ _ _)
      | (with_reducible exact LeO.refl _)
      | (with_reducible exact LeO.none _)
      | (with_reducible refine LeO.ite ?_ ?_)
      | (with_reducible refine LeO.bind ?_ (fun _ => ?_))
      | exact ih0 _ _ _ _ _ _ _
      | exact ih1 _ _ _ _ _ _ _ _ _ _ _
      | exact ih2 _ _ _ _ _ _ _ _ _ _ _ _
      | exact impl_docReader_int.mono _ _ _ _ _
      | exact impl_docReader_text.mono _ _ _ _
      | exact LeO.none _
      | refine LeO.ite ?_ ?_
      | refine LeO.bind ?_ (fun _ => ?_)
def impl_docReader_doc.T7 : Bool × List (List Nat × List Nat) := (true, [([], []), ([0], [0]), ([], []), ([2], [2]), ([3], [3]), ([1, 4, 3], [1, 4]), ([0, 1, 2, 3, 4, 5], []), ([6, 5, 5, 0, 1, 2, 3, 4, 5], [5, 6])])
def impl_docReader_doc.B7 : List Nat := [0, 1, 0, 4, 12, 31, 63, 127]
theorem impl_docReader_doc.tab7 : rtab .any (opsOf Try.f58 7) = impl_docReader_doc.T7 := by kernel_rfl
theorem impl_docReader_doc.bits7 : waitsOk impl_docReader_doc.T7.2 impl_docReader_doc.B7 = true := by kernel_rfl
set_option maxHeartbeats 8000000 in
set_option maxRecDepth 100000 in
theorem impl_docReader_doc.calls (k : Nat) (g : Nat) (s0_0 : List Int) (s0_1 : Int) (s0_2 : Bool) (r1 : ByteArray) (r2 : List (S84)) (r3 : Int) (r4 : Bool) (w0 w : World) (hI : IsS96 w0 w g s0_0 s0_1 s0_2) (hB : Below w0.heap.size w0 w) (h : impl_docReader_doc.f k s0_0 s0_1 s0_2 = some (r1, r2, r3, r4)) :
    Calls Try.prog 58 #[.pointer (some ⟨g, 0, none⟩)] w fun e w' => ∃ v1_ : Value, e = .returned (.agg #[.string r1, v1_]) ∧ Kd.S k84 84 w' w.heap.size (fun _ => True) v1_ r2 ∧ IsS96 w0 w' g s0_0 r3 r4 ∧ Below w0.heap.size w0 w' ∧ KeepBut w w' g none := by
  have hu31 := Try.underlying31
  have hu84 := Try.underlying84
  have HI0 := Aside0.mk hI
  have HK := Aside0.mk (KeepBut.refl w g none)
  have HL := Aside0.mk hB.size
  clear hI
  have HW0 := Aside0.mk hB.size
  have HB := Aside0.mk hB
  clear hB
  have H : ((impl_docReader_text.f k s0_0 s0_1 s0_2).bind fun bt379 => ((impl_docReader_int.f k s0_0 bt379.2.1 bt379.2.2 4096).bind fun bt383 => (impl_docReader_doc.l0 k bt383.1 0 s0_0 bt383.2.1 bt383.2.2 bt379.1 ([] : List (S84))))) = some (r1, r2, r3, r4) := h
  clear h
  replace H := Option.bind_eq_some_iff.mp H
  obtain ⟨⟨t379, t380, t381⟩, A20, H⟩ := H
  replace H : ((impl_docReader_int.f k s0_0 t380 t381 4096).bind fun bt383 => (impl_docReader_doc.l0 k bt383.1 0 s0_0 bt383.2.1 bt383.2.2 t379 ([] : List (S84)))) = some (r1, r2, r3, r4) := H
  have A2 := Aside0.mk A20
  clear A20
  replace H := Option.bind_eq_some_iff.mp H
  obtain ⟨⟨t383, t384, t385⟩, A30, H⟩ := H
  replace H : (impl_docReader_doc.l0 k t383 0 s0_0 t384 t385 t379 ([] : List (S84))) = some (r1, r2, r3, r4) := H
  have A3 := Aside0.mk A30
  clear A30
  have H' := Aside0.mk H
  clear H
  go_enter Try.func58, Try.ntmps58
  go_wp2_with (first | ((with_reducible refine gate_dst (N := 2) rfl ?_); refine box_event ?hg (N := 2) ?hd (cs := #[.string (⟨#[]⟩ : ByteArray), .slice none 0 0]) (t := 31) ?hr ?_; (case hd => rfl); (case hg => rfl); (case hr => first | (go_simp; done) | (go_simp; rfl)); intro gb378 hg w4 hbox hb; have n0_ := Aside0.mk (IsS96.below (by repeat (first | (with_reducible first | exact HI0.out | apply IsS96.alloc | apply IsS96.drewN | apply IsS96.drew | apply IsS96.set_1 | apply IsS96.set_2) | exact HI0.out)) hb); have n1_ := Aside0.mk (KeepBut.trans (by repeat (first | (with_reducible first | exact HK.out | apply KeepBut.set_ | apply keep_drewN | apply keep_drew | apply keep_alloc) | exact HK.out)) (KeepBut.of_below hb g none) (.inl rfl)); have n2_ := Aside0.mk (below_step (by repeat (first | (with_reducible first | exact HB.out | apply below_alloc | apply pw_below_drewN | apply below_drew1 | refine below_set ?_ (IsS96.ge HI0.out)) | exact HB.out)) hb); have n3_ := Aside0.mk (hbox); have n4_ := Aside0.mk ((by rw [hg]; exact (keep_size (w := w) (g := g) (row := none) (by repeat (first | (with_reducible first | exact HK.out | apply KeepBut.set_ | apply keep_drewN | apply keep_drew | apply keep_alloc) | exact HK.out))) : w.heap.size ≤ gb378)); have n5_ := Aside0.mk ((Nat.le_trans HW0.out (by rw [hg]; exact (keep_size (w := w) (g := g) (row := none) (by repeat (first | (with_reducible first | exact HK.out | apply KeepBut.set_ | apply keep_drewN | apply keep_drew | apply keep_alloc) | exact HK.out))) : w.heap.size ≤ gb378) : w0.heap.size ≤ gb378)); have n6_ := Aside0.mk ((by rw [hg]; exact Nat.ne_of_lt (IsS96.lt (show IsS96 w0 _ g s0_0 s0_1 s0_2 from by repeat (first | (with_reducible first | exact HI0.out | apply IsS96.alloc | apply IsS96.drewN | apply IsS96.drew | apply IsS96.set_1 | apply IsS96.set_2) | exact HI0.out))) : g ≠ gb378)); have n7_ := Aside0.mk ((by rw [hg]; exact Nat.ne_of_gt (IsS96.lt (show IsS96 w0 _ g s0_0 s0_1 s0_2 from by repeat (first | (with_reducible first | exact HI0.out | apply IsS96.alloc | apply IsS96.drewN | apply IsS96.drew | apply IsS96.set_1 | apply IsS96.set_2) | exact HI0.out))) : gb378 ≠ g)); clear HI0; clear HK; clear HB; have HI0 := n0_; have HK := n1_; have HB := n2_; have BK378 := n3_; have GW378 := n4_; have GE378 := n5_; have NB0_378 := n6_; have NB378_0 := n7_; clear n0_ n1_ n2_ n3_ n4_ n5_ n6_ n7_; clear hb hbox hg) | ((with_reducible refine gate_callee (f := 99) rfl ?_); refine goesL_ (some 7) rfl rfl Try.func99 (by kernel_rfl) rfl #[.pointer (some ⟨g, 0, none⟩)] rfl (by (try simp only [List.map_toArray, List.map_cons, List.map_nil]); first | done | rfl | (simp only [List.length_drop, List.length_take]; rfl)) ?_; (with_reducible refine (impl_docReader_text.calls k g s0_0 s0_1 s0_2 t379 t380 t381 w0 _ ?side1 ?side2 A2.out).mono ?_); (case side1 => repeat (first | (with_reducible first | exact HI0.out | apply IsS96.alloc | apply IsS96.drewN | apply IsS96.drew | apply IsS96.set_1 | apply IsS96.set_2 | refine IsS96.far ?_ NB0_378.out _) | exact HI0.out)); (case side2 => repeat (first | (with_reducible first | exact HB.out | apply below_alloc | apply pw_below_drewN | apply below_drew1 | refine below_set ?_ (IsS96.ge HI0.out) | refine below_set ?_ GE378.out) | exact HB.out)); rintro e w5 ⟨rfl, hi, hb, hk⟩; refine ⟨_, rfl, ?_⟩; have n0_ := Aside0.mk (KeepBut.blk hk (g' := gb378) (o := .cells #[.string (⟨#[]⟩ : ByteArray), .slice none 0 0] 31 (0, 0)) (by (with_reducible repeat (first | refine blk_drewN ?_ _ | refine blk_drew ?_ | refine blk_alloc ?_ _)); exact BK378.out) NB378_0.out (by simp)); have n1_ := Aside0.mk (KeepBut.trans (by repeat (first | (with_reducible first | exact HK.out | apply KeepBut.set_ | apply keep_drewN | apply keep_drew | apply keep_alloc | refine keep_far ?_ GW378.out _) | exact HK.out)) hk (.inl rfl)); have n2_ := Aside0.mk (hb); have n3_ := Aside0.mk (hi); clear BK378; clear HK; clear HB; clear HI0; have BK378 := n0_; have HK := n1_; have HB := n2_; have HI0 := n3_; clear n0_ n1_ n2_ n3_; (try clear hb); (try clear hb2); (try clear hk); (try clear hi)) | ((with_reducible refine gate_dst (N := 3) rfl ?_); refine box_event ?hg (N := 3) ?hd (cs := #[.string (⟨#[]⟩ : ByteArray), .slice none 0 0]) (t := 31) ?hr ?_; (case hd => rfl); (case hg => rfl); (case hr => first | (go_simp; done) | (go_simp; rfl)); intro gb382 hg w6 hbox hb; have n0_ := Aside0.mk (IsS96.below (by repeat (first | (with_reducible first | exact HI0.out | apply IsS96.alloc | apply IsS96.drewN | apply IsS96.drew | apply IsS96.set_1 | apply IsS96.set_2 | refine IsS96.far ?_ NB0_378.out _) | exact HI0.out)) hb); have n1_ := Aside0.mk (blk_below (g := gb378) (o := .cells #[.string (⟨#[]⟩ : ByteArray), .slice none 0 0] 31 (0, 0)) (by (with_reducible repeat (first | refine blk_drewN ?_ _ | refine blk_drew ?_ | refine blk_alloc ?_ _)); exact BK378.out) hb); have n2_ := Aside0.mk (KeepBut.trans (by repeat (first | (with_reducible first | exact HK.out | apply KeepBut.set_ | apply keep_drewN | apply keep_drew | apply keep_alloc | refine keep_far ?_ GW378.out _) | exact HK.out)) (KeepBut.of_below hb g none) (.inl rfl)); have n3_ := Aside0.mk (below_step (by repeat (first | (with_reducible first | exact HB.out | apply below_alloc | apply pw_below_drewN | apply below_drew1 | refine below_set ?_ (IsS96.ge HI0.out) | refine below_set ?_ GE378.out) | exact HB.out)) hb); have n4_ := Aside0.mk (hbox); have n5_ := Aside0.mk ((by rw [hg]; exact (keep_size (w := w) (g := g) (row := none) (by repeat (first | (with_reducible first | exact HK.out | apply KeepBut.set_ | apply keep_drewN | apply keep_drew | apply keep_alloc | refine keep_far ?_ GW378.out _) | exact HK.out))) : w.heap.size ≤ gb382)); have n6_ := Aside0.mk ((Nat.le_trans HW0.out (by rw [hg]; exact (keep_size (w := w) (g := g) (row := none) (by repeat (first | (with_reducible first | exact HK.out | apply KeepBut.set_ | apply keep_drewN | apply keep_drew | apply keep_alloc | refine keep_far ?_ GW378.out _) | exact HK.out))) : w.heap.size ≤ gb382) : w0.heap.size ≤ gb382)); have n7_ := Aside0.mk ((by rw [hg]; exact Nat.ne_of_lt (blk_lt (g := gb378) (o := .cells #[.string (⟨#[]⟩ : ByteArray), .slice none 0 0] 31 (0, 0)) (by (with_reducible repeat (first | refine blk_drewN ?_ _ | refine blk_drew ?_ | refine blk_alloc ?_ _)); exact BK378.out)) : gb378 ≠ gb382)); have n8_ := Aside0.mk ((by rw [hg]; exact Nat.ne_of_gt (blk_lt (g := gb378) (o := .cells #[.string (⟨#[]⟩ : ByteArray), .slice none 0 0] 31 (0, 0)) (by (with_reducible repeat (first | refine blk_drewN ?_ _ | refine blk_drew ?_ | refine blk_alloc ?_ _)); exact BK378.out)) : gb382 ≠ gb378)); have n9_ := Aside0.mk ((by rw [hg]; exact Nat.ne_of_lt (IsS96.lt (show IsS96 w0 _ g s0_0 t380 t381 from by repeat (first | (with_reducible first | exact HI0.out | apply IsS96.alloc | apply IsS96.drewN | apply IsS96.drew | apply IsS96.set_1 | apply IsS96.set_2 | refine IsS96.far ?_ NB0_378.out _) | exact HI0.out))) : g ≠ gb382)); have n10_ := Aside0.mk ((by rw [hg]; exact Nat.ne_of_gt (IsS96.lt (show IsS96 w0 _ g s0_0 t380 t381 from by repeat (first | (with_reducible first | exact HI0.out | apply IsS96.alloc | apply IsS96.drewN | apply IsS96.drew | apply IsS96.set_1 | apply IsS96.set_2 | refine IsS96.far ?_ NB0_378.out _) | exact HI0.out))) : gb382 ≠ g)); clear HI0; clear BK378; clear HK; clear HB; have HI0 := n0_; have BK378 := n1_; have HK := n2_; have HB := n3_; have BK382 := n4_; have GW382 := n5_; have GE382 := n6_; have NB378_382 := n7_; have NB382_378 := n8_; have NB0_382 := n9_; have NB382_0 := n10_; clear n0_ n1_ n2_ n3_ n4_ n5_ n6_ n7_ n8_ n9_ n10_; clear hb hbox hg; have hnb7 := NB382_378.out; have hnc7 := NB378_382.out; have hnb8 := NB382_0.out; have hnc8 := NB0_382.out; have hcz9_0 : w6.cell? ⟨gb382, 0, none⟩ = some (.string (⟨#[]⟩ : ByteArray)) := (blk_cell BK382.out 0).trans rfl; have hcz9_1 : w6.cell? ⟨gb382, 1, none⟩ = some (.slice none 0 0) := (blk_cell BK382.out 1).trans rfl; have hfz9_0 := blk_frozen BK382.out 0; have hfz9_1 := blk_frozen BK382.out 1) | ((with_reducible refine gate_callee (f := 100) rfl ?_); refine goesL_ (some 10) rfl rfl Try.func100 (by kernel_rfl) rfl #[.pointer (some ⟨g, 0, none⟩), .int .i64 4096] rfl (by (try simp only [List.map_toArray, List.map_cons, List.map_nil]); first | done | rfl | (simp only [List.length_drop, List.length_take]; rfl)) ?_; (with_reducible refine (impl_docReader_int.calls k g s0_0 t380 t381 4096 t383 t384 t385 w0 _ ?side1 ?side2 A3.out).mono ?_); (case side1 => repeat (first | (with_reducible first | exact HI0.out | apply IsS96.alloc | apply IsS96.drewN | apply IsS96.drew | apply IsS96.set_1 | apply IsS96.set_2 | refine IsS96.far ?_ NB0_378.out _ | refine IsS96.far ?_ NB0_382.out _) | exact HI0.out)); (case side2 => repeat (first | (with_reducible first | exact HB.out | apply below_alloc | apply pw_below_drewN | apply below_drew1 | refine below_set ?_ (IsS96.ge HI0.out) | refine below_set ?_ GE378.out | refine below_set ?_ GE382.out) | exact HB.out)); rintro e w10 ⟨rfl, hi, hb, hk⟩; refine ⟨_, rfl, ?_⟩; have n0_ := Aside0.mk (KeepBut.blk hk (g' := gb378) (o := .cells #[.string (⟨#[]⟩ : ByteArray), .slice none 0 0] 31 (0, 0)) (by (with_reducible repeat (first | refine blk_drewN ?_ _ | refine blk_drew ?_ | refine blk_alloc ?_ _)); refine blk_far ?_ NB378_382.out _; (with_reducible repeat (first | refine blk_drewN ?_ _ | refine blk_drew ?_ | refine blk_alloc ?_ _)); refine blk_far ?_ NB378_382.out _; (with_reducible repeat (first | refine blk_drewN ?_ _ | refine blk_drew ?_ | refine blk_alloc ?_ _)); exact BK378.out) NB378_0.out (by simp)); have n1_ := Aside0.mk (KeepBut.blk hk (g' := gb382) (o := .cells #[.string t379, .slice none 0 0] 31 (0, 0)) (by (with_reducible repeat (first | refine blk_drewN ?_ _ | refine blk_drew ?_ | refine blk_alloc ?_ _)); refine blk_put (cs := #[.string t379, .slice none 0 0]) ?_ 1 _ rfl; (with_reducible repeat (first | refine blk_drewN ?_ _ | refine blk_drew ?_ | refine blk_alloc ?_ _)); refine blk_put (cs := #[.string (⟨#[]⟩ : ByteArray), .slice none 0 0]) ?_ 0 _ rfl; (with_reducible repeat (first | refine blk_drewN ?_ _ | refine blk_drew ?_ | refine blk_alloc ?_ _)); exact BK382.out) NB382_0.out (by simp)); have n2_ := Aside0.mk (KeepBut.trans (by repeat (first | (with_reducible first | exact HK.out | apply KeepBut.set_ | apply keep_drewN | apply keep_drew | apply keep_alloc | refine keep_far ?_ GW378.out _ | refine keep_far ?_ GW382.out _) | exact HK.out)) hk (.inl rfl)); have n3_ := Aside0.mk (hb); have n4_ := Aside0.mk (hi); clear BK378; clear BK382; clear HK; clear HB; clear HI0; have BK378 := n0_; have BK382 := n1_; have HK := n2_; have HB := n3_; have HI0 := n4_; clear n0_ n1_ n2_ n3_ n4_; (try clear hb); (try clear hb2); (try clear hk); (try clear hi)))
  go_loopg [11] k (fun kq v11 w' => ∃ (x11_1 : Int) (x1001_1 : Int) (x1002_1 : Bool) (x379000_1 : ByteArray) (x383001_1 : List (S84)) (u383001 : Value), v11 = .int .i64 x11_1 ∧ Aside0 (impl_docReader_doc.l0 kq t383 x11_1 s0_0 x1001_1 x1002_1 t379 x383001_1 = some (r1, r2, r3, r4)) ∧ Aside0 (kq ≤ k) ∧ Aside0 (Kd.S k84 84 w' w.heap.size (fun _ => True) u383001 x383001_1) ∧ Aside0 (w'.heap[gb378]? = some (.cells #[.string x379000_1, (.slice none 0 0)] 31 (0, 0))) ∧ Aside0 (w'.heap[gb382]? = some (.cells #[.string t379, u383001] 31 (0, 0))) ∧ Aside0 (IsS96 w0 w' g s0_0 x1001_1 x1002_1) ∧ Aside0 (KeepBut w w' g none) ∧ Aside0 (Below w0.heap.size w0 w'))
  case atStart => exact ⟨(0), (t384), (t385), ((⟨#[]⟩ : ByteArray)), (([] : List (S84))), (.slice none 0 0), (by first | rfl | (simp; done) | (simp [*]; done)), H', ⟨Nat.le_refl _⟩, ⟨by first | exact Kd.S_nil _ _ _ _ _ | exact Kd.N_nil _ _ _ _ _ | exact Kd.V_nil _ _ _ _ _ | exact Kd.Q_nil _ _ _ _ _ | exact Kd.R_nil _ _ _ _ _⟩, ⟨by (with_reducible repeat (first | refine blk_drewN ?_ _ | refine blk_drew ?_ | refine blk_alloc ?_ _)); exact BK378.out⟩, ⟨by (with_reducible repeat (first | refine blk_drewN ?_ _ | refine blk_drew ?_ | refine blk_alloc ?_ _)); exact BK382.out⟩, ⟨by repeat (first | (with_reducible first | exact HI0.out | apply IsS96.alloc | apply IsS96.drewN | apply IsS96.drew | apply IsS96.set_1 | apply IsS96.set_2 | refine IsS96.far ?_ NB0_378.out _ | refine IsS96.far ?_ NB0_382.out _) | exact HI0.out)⟩, ⟨by repeat (first | (with_reducible first | exact HK.out | apply KeepBut.set_ | apply keep_drewN | apply keep_drew | apply keep_alloc | refine keep_far ?_ GW378.out _ | refine keep_far ?_ GW382.out _) | exact HK.out)⟩, ⟨by repeat (first | (with_reducible first | exact HB.out | apply below_alloc | apply pw_below_drewN | apply below_drew1 | refine below_set ?_ (IsS96.ge HI0.out) | refine below_set ?_ GE378.out | refine below_set ?_ GE382.out) | exact HB.out)⟩⟩
  case round =>
    clear H'
    try clear c1
    try clear p2
    try clear c5
    try clear c7
    try clear c8
    try clear c9
    try clear c10
    try clear hcz9_0
    try clear hcz9_1
    try clear hfz9_0
    try clear hfz9_1
    obtain ⟨x11_1, x1001_1, x1002_1, x379000_1, x383001_1, u383001, rfl, HA, HK1, HO_383001, BK378, BK382, HI0, HK, HB⟩ := hrel
    cases gk with
    | zero => exact absurd HA.out (by simp [impl_docReader_doc.l0])
    | succ k1 =>
      have H := HA.out
      clear HA
      simp only [impl_docReader_doc.l0] at H
      by_cases c11 : x11_1 < t383
      · rw [if_pos c11] at H
        have c11b0 : decide (x11_1 < t383) = true := decide_eq_true c11
        clear c11
        replace H := Option.bind_eq_some_iff.mp H
        obtain ⟨⟨t386, t387, t388⟩, A120, H⟩ := H
        replace H : ((impl_docReader_int.f k1 s0_0 t387 t388 4096).bind fun bt390 => (impl_docReader_doc.l1 k1 t383 x11_1 bt390.1 0 s0_0 bt390.2.1 bt390.2.2 t379 x383001_1 t386 ([] : List ByteArray))) = some (r1, r2, r3, r4) := H
        have A12 := Aside0.mk A120
        clear A120
        replace H := Option.bind_eq_some_iff.mp H
        obtain ⟨⟨t390, t391, t392⟩, A130, H⟩ := H
        replace H : (impl_docReader_doc.l1 k1 t383 x11_1 t390 0 s0_0 t391 t392 t379 x383001_1 t386 ([] : List ByteArray)) = some (r1, r2, r3, r4) := H
        have A13 := Aside0.mk A130
        clear A130
        have H' := Aside0.mk H
        clear H
        go_wp2_with (first | ((with_reducible refine gate_callee (f := 99) rfl ?_); refine goesL_ (some 14) rfl rfl Try.func99 (by kernel_rfl) rfl #[.pointer (some ⟨g, 0, none⟩)] rfl (by (try simp only [List.map_toArray, List.map_cons, List.map_nil]); first | done | rfl | (simp only [List.length_drop, List.length_take]; rfl)) ?_; (with_reducible refine (impl_docReader_text.calls k1 g s0_0 x1001_1 x1002_1 t386 t387 t388 w0 _ ?side1 ?side2 A12.out).mono ?_); (case side1 => repeat (first | (with_reducible first | exact HI0.out | apply IsS96.alloc | apply IsS96.drewN | apply IsS96.drew | apply IsS96.set_1 | apply IsS96.set_2 | refine IsS96.far ?_ NB0_378.out _ | refine IsS96.far ?_ NB0_382.out _) | exact HI0.out)); (case side2 => repeat (first | (with_reducible first | exact HB.out | apply below_alloc | apply pw_below_drewN | apply below_drew1 | refine below_set ?_ (IsS96.ge HI0.out) | refine below_set ?_ GE378.out | refine below_set ?_ GE382.out) | exact HB.out)); rintro e w14 ⟨rfl, hi, hb, hk⟩; refine ⟨_, rfl, ?_⟩; have n0_ := Aside0.mk (Kd.S_mono (Kd.S_keep (IsS96.apartS (show IsS96 w0 _ g s0_0 x1001_1 x1002_1 from by repeat (first | (with_reducible first | exact HI0.out | apply IsS96.alloc | apply IsS96.drewN | apply IsS96.drew | apply IsS96.set_1 | apply IsS96.set_2 | refine IsS96.far ?_ NB0_378.out _ | refine IsS96.far ?_ NB0_382.out _) | exact HI0.out)) (by (with_reducible repeat (first | apply Kd.S_alloc | apply Kd.S_drewN | apply Kd.S_drew)); exact HO_383001.out) (by decide)) hk (fun _ h => h.2)) (fun _ h => h.1)); have n1_ := Aside0.mk (KeepBut.blk hk (g' := gb378) (o := .cells #[.string x379000_1, .slice none 0 0] 31 (0, 0)) (by (with_reducible repeat (first | refine blk_drewN ?_ _ | refine blk_drew ?_ | refine blk_alloc ?_ _)); exact BK378.out) NB378_0.out (by simp)); have n2_ := Aside0.mk (KeepBut.blk hk (g' := gb382) (o := .cells #[.string t379, u383001] 31 (0, 0)) (by (with_reducible repeat (first | refine blk_drewN ?_ _ | refine blk_drew ?_ | refine blk_alloc ?_ _)); exact BK382.out) NB382_0.out (by simp)); have n3_ := Aside0.mk (KeepBut.trans (by repeat (first | (with_reducible first | exact HK.out | apply KeepBut.set_ | apply keep_drewN | apply keep_drew | apply keep_alloc | refine keep_far ?_ GW378.out _ | refine keep_far ?_ GW382.out _) | exact HK.out)) hk (.inl rfl)); have n4_ := Aside0.mk (hb); have n5_ := Aside0.mk (hi); clear HO_383001; clear BK378; clear BK382; clear HK; clear HB; clear HI0; have HO_383001 := n0_; have BK378 := n1_; have BK382 := n2_; have HK := n3_; have HB := n4_; have HI0 := n5_; clear n0_ n1_ n2_ n3_ n4_ n5_; (try clear hb); (try clear hb2); (try clear hk); (try clear hi)) | ((with_reducible refine gate_dst (N := 4) rfl ?_); refine box_event ?hg (N := 4) ?hd (cs := #[.string (⟨#[]⟩ : ByteArray), .slice none 0 0, .slice none 0 0]) (t := 84) ?hr ?_; (case hd => rfl); (case hg => rfl); (case hr => first | (go_simp; done) | (go_simp; rfl)); intro gb389 hg w15 hbox hb; have n0_ := Aside0.mk (Kd.S_below (Kd.S_elderB (by (with_reducible repeat (first | apply Kd.S_alloc | apply Kd.S_drewN | apply Kd.S_drew)); exact HO_383001.out) gb389 (Nat.le_of_eq hg.symm)) hb); have n1_ := Aside0.mk (blk_below (g := gb378) (o := .cells #[.string x379000_1, .slice none 0 0] 31 (0, 0)) (by (with_reducible repeat (first | refine blk_drewN ?_ _ | refine blk_drew ?_ | refine blk_alloc ?_ _)); exact BK378.out) hb); have n2_ := Aside0.mk (blk_below (g := gb382) (o := .cells #[.string t379, u383001] 31 (0, 0)) (by (with_reducible repeat (first | refine blk_drewN ?_ _ | refine blk_drew ?_ | refine blk_alloc ?_ _)); exact BK382.out) hb); have n3_ := Aside0.mk (IsS96.below (by repeat (first | (with_reducible first | exact HI0.out | apply IsS96.alloc | apply IsS96.drewN | apply IsS96.drew | apply IsS96.set_1 | apply IsS96.set_2 | refine IsS96.far ?_ NB0_378.out _ | refine IsS96.far ?_ NB0_382.out _) | exact HI0.out)) hb); have n4_ := Aside0.mk (KeepBut.trans (by repeat (first | (with_reducible first | exact HK.out | apply KeepBut.set_ | apply keep_drewN | apply keep_drew | apply keep_alloc | refine keep_far ?_ GW378.out _ | refine keep_far ?_ GW382.out _) | exact HK.out)) (KeepBut.of_below hb g none) (.inl rfl)); have n5_ := Aside0.mk (below_step (by repeat (first | (with_reducible first | exact HB.out | apply below_alloc | apply pw_below_drewN | apply below_drew1 | refine below_set ?_ (IsS96.ge HI0.out) | refine below_set ?_ GE378.out | refine below_set ?_ GE382.out) | exact HB.out)) hb); have n6_ := Aside0.mk (hbox); have n7_ := Aside0.mk ((by rw [hg]; exact (keep_size (w := w) (g := g) (row := none) (by repeat (first | (with_reducible first | exact HK.out | apply KeepBut.set_ | apply keep_drewN | apply keep_drew | apply keep_alloc | refine keep_far ?_ GW378.out _ | refine keep_far ?_ GW382.out _) | exact HK.out))) : w.heap.size ≤ gb389)); have n8_ := Aside0.mk ((Nat.le_trans HW0.out (by rw [hg]; exact (keep_size (w := w) (g := g) (row := none) (by repeat (first | (with_reducible first | exact HK.out | apply KeepBut.set_ | apply keep_drewN | apply keep_drew | apply keep_alloc | refine keep_far ?_ GW378.out _ | refine keep_far ?_ GW382.out _) | exact HK.out))) : w.heap.size ≤ gb389) : w0.heap.size ≤ gb389)); have n9_ := Aside0.mk ((by rw [hg]; exact Nat.ne_of_lt (blk_lt (g := gb378) (o := .cells #[.string x379000_1, .slice none 0 0] 31 (0, 0)) (by (with_reducible repeat (first | refine blk_drewN ?_ _ | refine blk_drew ?_ | refine blk_alloc ?_ _)); exact BK378.out)) : gb378 ≠ gb389)); have n10_ := Aside0.mk ((by rw [hg]; exact Nat.ne_of_gt (blk_lt (g := gb378) (o := .cells #[.string x379000_1, .slice none 0 0] 31 (0, 0)) (by (with_reducible repeat (first | refine blk_drewN ?_ _ | refine blk_drew ?_ | refine blk_alloc ?_ _)); exact BK378.out)) : gb389 ≠ gb378)); have n11_ := Aside0.mk ((by rw [hg]; exact Nat.ne_of_lt (blk_lt (g := gb382) (o := .cells #[.string t379, u383001] 31 (0, 0)) (by (with_reducible repeat (first | refine blk_drewN ?_ _ | refine blk_drew ?_ | refine blk_alloc ?_ _)); exact BK382.out)) : gb382 ≠ gb389)); have n12_ := Aside0.mk ((by rw [hg]; exact Nat.ne_of_gt (blk_lt (g := gb382) (o := .cells #[.string t379, u383001] 31 (0, 0)) (by (with_reducible repeat (first | refine blk_drewN ?_ _ | refine blk_drew ?_ | refine blk_alloc ?_ _)); exact BK382.out)) : gb389 ≠ gb382)); have n13_ := Aside0.mk ((by rw [hg]; exact Nat.ne_of_lt (IsS96.lt (show IsS96 w0 _ g s0_0 t387 t388 from by repeat (first | (with_reducible first | exact HI0.out | apply IsS96.alloc | apply IsS96.drewN | apply IsS96.drew | apply IsS96.set_1 | apply IsS96.set_2 | refine IsS96.far ?_ NB0_378.out _ | refine IsS96.far ?_ NB0_382.out _) | exact HI0.out))) : g ≠ gb389)); have n14_ := Aside0.mk ((by rw [hg]; exact Nat.ne_of_gt (IsS96.lt (show IsS96 w0 _ g s0_0 t387 t388 from by repeat (first | (with_reducible first | exact HI0.out | apply IsS96.alloc | apply IsS96.drewN | apply IsS96.drew | apply IsS96.set_1 | apply IsS96.set_2 | refine IsS96.far ?_ NB0_378.out _ | refine IsS96.far ?_ NB0_382.out _) | exact HI0.out))) : gb389 ≠ g)); clear HO_383001; clear BK378; clear BK382; clear HI0; clear HK; clear HB; have HO_383001 := n0_; have BK378 := n1_; have BK382 := n2_; have HI0 := n3_; have HK := n4_; have HB := n5_; have BK389 := n6_; have GW389 := n7_; have GE389 := n8_; have NB378_389 := n9_; have NB389_378 := n10_; have NB382_389 := n11_; have NB389_382 := n12_; have NB0_389 := n13_; have NB389_0 := n14_; clear n0_ n1_ n2_ n3_ n4_ n5_ n6_ n7_ n8_ n9_ n10_ n11_ n12_ n13_ n14_; clear hb hbox hg; have hnb16 := NB389_378.out; have hnc16 := NB378_389.out; have hnb17 := NB389_382.out; have hnc17 := NB382_389.out; have hnb18 := NB389_0.out; have hnc18 := NB0_389.out; have hcz19_0 : w15.cell? ⟨gb389, 0, none⟩ = some (.string (⟨#[]⟩ : ByteArray)) := (blk_cell BK389.out 0).trans rfl; have hcz19_1 : w15.cell? ⟨gb389, 1, none⟩ = some (.slice none 0 0) := (blk_cell BK389.out 1).trans rfl; have hcz19_2 : w15.cell? ⟨gb389, 2, none⟩ = some (.slice none 0 0) := (blk_cell BK389.out 2).trans rfl; have hfz19_0 := blk_frozen BK389.out 0; have hfz19_1 := blk_frozen BK389.out 1; have hfz19_2 := blk_frozen BK389.out 2) | ((with_reducible refine gate_callee (f := 100) rfl ?_); refine goesL_ (some 17) rfl rfl Try.func100 (by kernel_rfl) rfl #[.pointer (some ⟨g, 0, none⟩), .int .i64 4096] rfl (by (try simp only [List.map_toArray, List.map_cons, List.map_nil]); first | done | rfl | (simp only [List.length_drop, List.length_take]; rfl)) ?_; (with_reducible refine (impl_docReader_int.calls k1 g s0_0 t387 t388 4096 t390 t391 t392 w0 _ ?side1 ?side2 A13.out).mono ?_); (case side1 => repeat (first | (with_reducible first | exact HI0.out | apply IsS96.alloc | apply IsS96.drewN | apply IsS96.drew | apply IsS96.set_1 | apply IsS96.set_2 | refine IsS96.far ?_ NB0_378.out _ | refine IsS96.far ?_ NB0_382.out _ | refine IsS96.far ?_ NB0_389.out _) | exact HI0.out)); (case side2 => repeat (first | (with_reducible first | exact HB.out | apply below_alloc | apply pw_below_drewN | apply below_drew1 | refine below_set ?_ (IsS96.ge HI0.out) | refine below_set ?_ GE378.out | refine below_set ?_ GE382.out | refine below_set ?_ GE389.out) | exact HB.out)); rintro e w20 ⟨rfl, hi, hb, hk⟩; refine ⟨_, rfl, ?_⟩; have n0_ := Aside0.mk (Kd.S_mono (Kd.S_keep (IsS96.apartS (show IsS96 w0 _ g s0_0 t387 t388 from by repeat (first | (with_reducible first | exact HI0.out | apply IsS96.alloc | apply IsS96.drewN | apply IsS96.drew | apply IsS96.set_1 | apply IsS96.set_2 | refine IsS96.far ?_ NB0_378.out _ | refine IsS96.far ?_ NB0_382.out _ | refine IsS96.far ?_ NB0_389.out _) | exact HI0.out)) (by (with_reducible repeat (first | apply Kd.S_alloc | apply Kd.S_drewN | apply Kd.S_drew)); exact (Kd.S_mono (Kd.S_far (p := ⟨gb389, 2, none⟩) (Kd.S_far (p := ⟨gb389, 1, none⟩) (Kd.S_far (p := ⟨gb389, 0, none⟩) (Kd.S_mono HO_383001.out (fun k_ hk => (⟨hk, hk.2⟩ : _ ∧ k_ ≠ gb389))) (fun _ hk => hk.2) (.string t386)) (fun _ hk => hk.2) (.slice none 0 0)) (fun _ hk => hk.2) (.slice none 0 0)) (fun _ h_ => h_.1))) (by decide)) hk (fun _ h => h.2)) (fun _ h => h.1)); have n1_ := Aside0.mk (KeepBut.blk hk (g' := gb378) (o := .cells #[.string x379000_1, .slice none 0 0] 31 (0, 0)) (by (with_reducible repeat (first | refine blk_drewN ?_ _ | refine blk_drew ?_ | refine blk_alloc ?_ _)); refine blk_far ?_ NB378_389.out _; (with_reducible repeat (first | refine blk_drewN ?_ _ | refine blk_drew ?_ | refine blk_alloc ?_ _)); refine blk_far ?_ NB378_389.out _; (with_reducible repeat (first | refine blk_drewN ?_ _ | refine blk_drew ?_ | refine blk_alloc ?_ _)); refine blk_far ?_ NB378_389.out _; (with_reducible repeat (first | refine blk_drewN ?_ _ | refine blk_drew ?_ | refine blk_alloc ?_ _)); exact BK378.out) NB378_0.out (by simp)); have n2_ := Aside0.mk (KeepBut.blk hk (g' := gb382) (o := .cells #[.string t379, u383001] 31 (0, 0)) (by (with_reducible repeat (first | refine blk_drewN ?_ _ | refine blk_drew ?_ | refine blk_alloc ?_ _)); refine blk_far ?_ NB382_389.out _; (with_reducible repeat (first | refine blk_drewN ?_ _ | refine blk_drew ?_ | refine blk_alloc ?_ _)); refine blk_far ?_ NB382_389.out _; (with_reducible repeat (first | refine blk_drewN ?_ _ | refine blk_drew ?_ | refine blk_alloc ?_ _)); refine blk_far ?_ NB382_389.out _; (with_reducible repeat (first | refine blk_drewN ?_ _ | refine blk_drew ?_ | refine blk_alloc ?_ _)); exact BK382.out) NB382_0.out (by simp)); have n3_ := Aside0.mk (KeepBut.blk hk (g' := gb389) (o := .cells #[.string t386, .slice none 0 0, .slice none 0 0] 84 (0, 0)) (by (with_reducible repeat (first | refine blk_drewN ?_ _ | refine blk_drew ?_ | refine blk_alloc ?_ _)); refine blk_put (cs := #[.string t386, .slice none 0 0, .slice none 0 0]) ?_ 2 _ rfl; (with_reducible repeat (first | refine blk_drewN ?_ _ | refine blk_drew ?_ | refine blk_alloc ?_ _)); refine blk_put (cs := #[.string t386, .slice none 0 0, .slice none 0 0]) ?_ 1 _ rfl; (with_reducible repeat (first | refine blk_drewN ?_ _ | refine blk_drew ?_ | refine blk_alloc ?_ _)); refine blk_put (cs := #[.string (⟨#[]⟩ : ByteArray), .slice none 0 0, .slice none 0 0]) ?_ 0 _ rfl; (with_reducible repeat (first | refine blk_drewN ?_ _ | refine blk_drew ?_ | refine blk_alloc ?_ _)); exact BK389.out) NB389_0.out (by simp)); have n4_ := Aside0.mk (KeepBut.trans (by repeat (first | (with_reducible first | exact HK.out | apply KeepBut.set_ | apply keep_drewN | apply keep_drew | apply keep_alloc | refine keep_far ?_ GW378.out _ | refine keep_far ?_ GW382.out _ | refine keep_far ?_ GW389.out _) | exact HK.out)) hk (.inl rfl)); have n5_ := Aside0.mk (hb); have n6_ := Aside0.mk (hi); clear HO_383001; clear BK378; clear BK382; clear BK389; clear HK; clear HB; clear HI0; have HO_383001 := n0_; have BK378 := n1_; have BK382 := n2_; have BK389 := n3_; have HK := n4_; have HB := n5_; have HI0 := n6_; clear n0_ n1_ n2_ n3_ n4_ n5_ n6_; (try clear hb); (try clear hb2); (try clear hk); (try clear hi)))
        go_loopg [18] k1 (fun kq v18 w' => ∃ (x18_2 : Int) (x1001_2 : Int) (x1002_2 : Bool) (x379000_2 : ByteArray) (x390001_2 : List ByteArray) (u390001 : Value), v18 = .int .i64 x18_2 ∧ Aside0 (impl_docReader_doc.l1 kq t383 x11_1 t390 x18_2 s0_0 x1001_2 x1002_2 t379 x383001_1 t386 x390001_2 = some (r1, r2, r3, r4)) ∧ Aside0 (kq ≤ k1) ∧ Aside0 (Kd.S k84 84 w' w.heap.size (fun k_ => some k_ ≠ (u390001 : Value).ownBlock ∧ k_ ≠ gb389) u383001 x383001_1) ∧ Aside0 (Kd.R Kd.string 9 w' w.heap.size (fun _ => True) u390001 x390001_2) ∧ Aside0 (w'.heap[gb378]? = some (.cells #[.string x379000_2, (.slice none 0 0)] 31 (0, 0))) ∧ Aside0 (w'.heap[gb382]? = some (.cells #[.string t379, u383001] 31 (0, 0))) ∧ Aside0 (w'.heap[gb389]? = some (.cells #[.string t386, u390001, (.slice none 0 0)] 84 (0, 0))) ∧ Aside0 (IsS96 w0 w' g s0_0 x1001_2 x1002_2) ∧ Aside0 (KeepBut w w' g none) ∧ Aside0 (Below w0.heap.size w0 w'))
        case atStart => exact ⟨(0), (t391), (t392), (x379000_1), (([] : List ByteArray)), (.slice none 0 0), (by first | rfl | (simp; done) | (simp [*]; done)), H', ⟨Nat.le_refl _⟩, ⟨by (with_reducible repeat (first | apply Kd.S_alloc | apply Kd.S_drewN | apply Kd.S_drew)); exact Kd.S_mono HO_383001.out (fun _ hk => ⟨(by simp [Value.ownBlock]), hk.2⟩)⟩, ⟨by first | exact Kd.R_nil _ _ _ _ _ | exact Kd.N_nil _ _ _ _ _ | exact Kd.V_nil _ _ _ _ _ | exact Kd.Q_nil _ _ _ _ _ | exact Kd.S_nil _ _ _ _ _⟩, ⟨by (with_reducible repeat (first | refine blk_drewN ?_ _ | refine blk_drew ?_ | refine blk_alloc ?_ _)); exact BK378.out⟩, ⟨by (with_reducible repeat (first | refine blk_drewN ?_ _ | refine blk_drew ?_ | refine blk_alloc ?_ _)); exact BK382.out⟩, ⟨by (with_reducible repeat (first | refine blk_drewN ?_ _ | refine blk_drew ?_ | refine blk_alloc ?_ _)); exact BK389.out⟩, ⟨by repeat (first | (with_reducible first | exact HI0.out | apply IsS96.alloc | apply IsS96.drewN | apply IsS96.drew | apply IsS96.set_1 | apply IsS96.set_2 | refine IsS96.far ?_ NB0_378.out _ | refine IsS96.far ?_ NB0_382.out _ | refine IsS96.far ?_ NB0_389.out _) | exact HI0.out)⟩, ⟨by repeat (first | (with_reducible first | exact HK.out | apply KeepBut.set_ | apply keep_drewN | apply keep_drew | apply keep_alloc | refine keep_far ?_ GW378.out _ | refine keep_far ?_ GW382.out _ | refine keep_far ?_ GW389.out _) | exact HK.out)⟩, ⟨by repeat (first | (with_reducible first | exact HB.out | apply below_alloc | apply pw_below_drewN | apply below_drew1 | refine below_set ?_ (IsS96.ge HI0.out) | refine below_set ?_ GE378.out | refine below_set ?_ GE382.out | refine below_set ?_ GE389.out) | exact HB.out)⟩⟩
        case round =>
          clear H'
          try clear c1
          try clear p2
          try clear c5
          try clear c7
          try clear c8
          try clear c9
          try clear c10
          try clear c11
          try clear c11b0
          try clear c16
          try clear c17
          try clear c18
          try clear hcz19_0
          try clear hcz19_1
          try clear hcz19_2
          try clear hcz9_0
          try clear hcz9_1
          try clear hfz19_0
          try clear hfz19_1
          try clear hfz19_2
          try clear hfz9_0
          try clear hfz9_1
          try clear p2
          obtain ⟨x18_2, x1001_2, x1002_2, x379000_2, x390001_2, u390001, rfl, HA, HK2, HO_383001, HO_390001, BK378, BK382, BK389, HI0, HK, HB⟩ := hrel
          cases gk with
          | zero => exact absurd HA.out (by simp [impl_docReader_doc.l1])
          | succ k2 =>
            have H := HA.out
            clear HA
            simp only [impl_docReader_doc.l1] at H
            by_cases c21 : x18_2 < t390
            · rw [if_pos c21] at H
              have c21b0 : decide (x18_2 < t390) = true := decide_eq_true c21
              clear c21
              replace H := Option.bind_eq_some_iff.mp H
              obtain ⟨⟨t393, t394, t395⟩, A220, H⟩ := H
              replace H : (if x390001_2.length < 8796093022208 then (if t395 = true then (some (t379, x383001_1, t394, t395)) else (impl_docReader_doc.l1 k2 t383 x11_1 t390 (wrap64 (x18_2 + 1)) s0_0 t394 t395 t379 x383001_1 t386 (x390001_2 ++ [t393]))) else (none)) = some (r1, r2, r3, r4) := H
              have A22 := Aside0.mk A220
              clear A220
              by_cases c23 : x390001_2.length < 8796093022208
              · rw [if_pos c23] at H
                have LMc23 := Aside0.mk c23
                clear c23
                obtain ⟨y396, hy396⟩ : ∃ y_ : List ByteArray, y_ = (x390001_2 ++ [t393]) := ⟨_, rfl⟩
                replace H : (if t395 = true then (some (t379, x383001_1, t394, t395)) else (impl_docReader_doc.l1 k2 t383 x11_1 t390 (wrap64 (x18_2 + 1)) s0_0 t394 t395 t379 x383001_1 t386 y396)) = some (r1, r2, r3, r4) := by first | (rw [hy396]; with_reducible exact H) | (have H2_ := (Option.bind_some _ _).symm.trans H; rw [hy396]; with_reducible exact H2_) | (have H2_ := (Option.bind_some _ _).symm.trans H; with_reducible exact H2_) | with_reducible exact H | (rw [hy396]; exact H) | exact H
                have Ny396 := Aside0.mk hy396
                clear hy396
                by_cases c24 : t395 = true
                · subst c24
                  have H1 : (some (t379, x383001_1, t394, true)) = some (r1, r2, r3, r4) := by rw [if_pos rfl] at H; exact H
                  clear H
                  have H := H1
                  clear H1
                  simp only [Option.some.injEq, Prod.mk.injEq] at H
                  obtain ⟨rfl, rfl, rfl, rfl⟩ := H
                  try go_wp2
                  have n0_ := Aside0.mk (Kd.S_drew HO_383001.out)
                  have n1_ := Aside0.mk (Kd.R_drew HO_390001.out)
                  have n2_ := Aside0.mk (blk_drew BK378.out)
                  have n3_ := Aside0.mk (blk_drew BK382.out)
                  have n4_ := Aside0.mk (blk_drew BK389.out)
                  have n5_ := Aside0.mk (IsS96.drew HI0.out)
                  have n6_ := Aside0.mk (keep_drew HK.out)
                  have n7_ := Aside0.mk (below_drew1 HB.out)
                  clear HO_383001
                  clear HO_390001
                  clear BK378
                  clear BK382
                  clear BK389
                  clear HI0
                  clear HK
                  clear HB
                  have HO_383001 := n0_
                  have HO_390001 := n1_
                  have BK378 := n2_
                  have BK382 := n3_
                  have BK389 := n4_
                  have HI0 := n5_
                  have HK := n6_
                  have HB := n7_
                  clear n0_ n1_ n2_ n3_ n4_ n5_ n6_ n7_
                  refine start_ (n := 8) (S := fun w' => w'.cell? ⟨gb389, 0, none⟩ = some (.string t386) ∧ w'.cell? ⟨gb389, 1, none⟩ = some (u390001) ∧ w'.cell? ⟨gb389, 2, none⟩ = some (.slice none 0 0)) (ds := [7]) #[false, false, false, false, false, false, false, false] (by kernel_rfl) rfl rfl ⟨(blk_cell BK389.out 0).trans rfl, (blk_cell BK389.out 1).trans rfl, (blk_cell BK389.out 2).trans rfl⟩ (fun hHeld => ?_); refine with_tabW impl_docReader_doc.tab7 impl_docReader_doc.bits7 (fun HT_ HW_ => ?_)
                  generalize wr.drew = w25 at HO_383001 HO_390001 BK378 BK382 BK389 HI0 HK HB hHeld ⊢
                  refine pure_ (i := 0) (N := some 20) (v := ?_) (a' := ?_) #[true, false, false, false, false, false, false, false] rfl rfl (any_of HT_.out (by kernel_rfl)) (fun _ _ _ h => h) (Or.inl ⟨by rfl, ?_⟩) ?_ ?_
                  rotate_left
                  · intro w'
                    go_simp
                    with_reducible rfl
                  rotate_left
                  · simp only [Act.put, List.setIfInBounds_toArray, List.set_cons_zero, List.set_cons_succ, i64_w, i32_w]
                    rfl
                  refine pure_ (i := 2) (N := some 22) (v := ?_) (a' := ?_) #[true, false, true, false, false, false, false, false] rfl rfl (any_of HT_.out (by kernel_rfl)) (fun _ _ _ h => h) (Or.inl ⟨by rfl, ?_⟩) ?_ ?_
                  rotate_left
                  · intro w'
                    go_simp
                    with_reducible rfl
                  rotate_left
                  · simp only [Act.put, List.setIfInBounds_toArray, List.set_cons_zero, List.set_cons_succ, i64_w, i32_w]
                    rfl
                  refine take_ (i := 1) (N := some 21) (v := ?_) (a' := ?_) #[true, true, true, false, false, false, false, false] rfl rfl (take_ofW HT_.out HW_.out (by kernel_rfl)) (fun _ _ _ h => h) (Or.inl ⟨by rfl, ?_⟩) hHeld ?_ ?_
                  rotate_left
                  · rintro w' ⟨s0, s1, s2⟩
                    go_simp
                    with_reducible rfl
                  rotate_left
                  · simp only [Act.put, List.setIfInBounds_toArray, List.set_cons_zero, List.set_cons_succ, i64_w, i32_w]
                    rfl
                  refine one_ (i := 3) (N := some 23) #[true, true, true, true, false, false, false, false] rfl rfl (one_of HT_.out (by kernel_rfl)) (by decide) (fun K hK => ?_)
                  refine goes_ Try.func99 (by kernel_rfl) rfl #[.pointer (some ⟨g, 0, none⟩)] (by rfl) rfl rfl (by (try simp only [List.map_toArray, List.map_cons, List.map_nil]); first | done | rfl | (simp only [List.length_drop, List.length_take]; rfl)) ?_
                  with_reducible refine (impl_docReader_text.calls k2 g s0_0 x1001_2 x1002_2 t393 t394 true w0 _ ?side1 ?side2 A22.out).mono ?_
                  (case side1 => repeat (first | (with_reducible first | exact HI0.out | apply IsS96.alloc | apply IsS96.drewN | apply IsS96.drew | apply IsS96.set_1 | apply IsS96.set_2 | refine IsS96.far ?_ NB0_378.out _ | refine IsS96.far ?_ NB0_382.out _ | refine IsS96.far ?_ NB0_389.out _) | exact HI0.out))
                  (case side2 => repeat (first | (with_reducible first | exact HB.out | apply below_alloc | apply pw_below_drewN | apply below_drew1 | refine below_set ?_ (IsS96.ge HI0.out) | refine below_set ?_ GE378.out | refine below_set ?_ GE382.out | refine below_set ?_ GE389.out) | exact HB.out))
                  rintro e w26 ⟨rfl, hi, hb, hk⟩
                  refine ⟨_, rfl, ?_⟩
                  have n0_ := Aside0.mk (Kd.S_mono (Kd.S_keep (IsS96.apartS (show IsS96 w0 _ g s0_0 x1001_2 x1002_2 from by repeat (first | (with_reducible first | exact HI0.out | apply IsS96.alloc | apply IsS96.drewN | apply IsS96.drew | apply IsS96.set_1 | apply IsS96.set_2 | refine IsS96.far ?_ NB0_378.out _ | refine IsS96.far ?_ NB0_382.out _ | refine IsS96.far ?_ NB0_389.out _) | exact HI0.out)) (by (with_reducible repeat (first | apply Kd.S_alloc | apply Kd.S_drewN | apply Kd.S_drew)); exact HO_383001.out) (by decide)) hk (fun _ h => h.2)) (fun _ h => h.1))
                  have n1_ := Aside0.mk (Kd.R_mono (Kd.R_keep (IsS96.apart (show IsS96 w0 _ g s0_0 x1001_2 x1002_2 from by repeat (first | (with_reducible first | exact HI0.out | apply IsS96.alloc | apply IsS96.drewN | apply IsS96.drew | apply IsS96.set_1 | apply IsS96.set_2 | refine IsS96.far ?_ NB0_378.out _ | refine IsS96.far ?_ NB0_382.out _ | refine IsS96.far ?_ NB0_389.out _) | exact HI0.out)) (by (with_reducible repeat (first | apply Kd.R_alloc | apply Kd.R_drewN | apply Kd.R_drew)); exact HO_390001.out) (by decide)) hk (fun _ h => h.2)) (fun _ h => h.1))
                  have n2_ := Aside0.mk (KeepBut.blk hk (g' := gb378) (o := .cells #[.string x379000_2, .slice none 0 0] 31 (0, 0)) (by (with_reducible repeat (first | refine blk_drewN ?_ _ | refine blk_drew ?_ | refine blk_alloc ?_ _)); exact BK378.out) NB378_0.out (by simp))
                  have n3_ := Aside0.mk (KeepBut.blk hk (g' := gb382) (o := .cells #[.string t379, u383001] 31 (0, 0)) (by (with_reducible repeat (first | refine blk_drewN ?_ _ | refine blk_drew ?_ | refine blk_alloc ?_ _)); exact BK382.out) NB382_0.out (by simp))
                  have n4_ := Aside0.mk (KeepBut.blk hk (g' := gb389) (o := .cells #[.string t386, u390001, .slice none 0 0] 84 (0, 0)) (by (with_reducible repeat (first | refine blk_drewN ?_ _ | refine blk_drew ?_ | refine blk_alloc ?_ _)); exact BK389.out) NB389_0.out (by simp))
                  have n5_ := Aside0.mk (KeepBut.trans (by repeat (first | (with_reducible first | exact HK.out | apply KeepBut.set_ | apply keep_drewN | apply keep_drew | apply keep_alloc | refine keep_far ?_ GW378.out _ | refine keep_far ?_ GW382.out _ | refine keep_far ?_ GW389.out _) | exact HK.out)) hk (.inl rfl))
                  have n6_ := Aside0.mk (hb)
                  have n7_ := Aside0.mk (hi)
                  clear HO_383001
                  clear HO_390001
                  clear BK378
                  clear BK382
                  clear BK389
                  clear HK
                  clear HB
                  clear HI0
                  have HO_383001 := n0_
                  have HO_390001 := n1_
                  have BK378 := n2_
                  have BK382 := n3_
                  have BK389 := n4_
                  have HK := n5_
                  have HB := n6_
                  have HI0 := n7_
                  clear n0_ n1_ n2_ n3_ n4_ n5_ n6_ n7_
                  (try clear hb)
                  (try clear hb2)
                  (try clear hk)
                  (try clear hi)
                  refine hK.out _ _ ⟨(blk_cell BK389.out 0).trans rfl, (blk_cell BK389.out 1).trans rfl, (blk_cell BK389.out 2).trans rfl⟩ (fun hHeld => ?_)
                  clear hK K
                  refine norm_ (a' := ?_) ?_ ?_
                  rotate_left
                  · show Act.put _ (some 23) _ = _
                    simp only [Act.put, List.setIfInBounds_toArray, List.set_cons_zero, List.set_cons_succ, i64_w, i32_w]
                    rfl
                  refine one_ (i := 4) (N := some 24) #[true, true, true, true, true, false, false, false] rfl rfl (one_of HT_.out (by kernel_rfl)) (by decide) (fun K hK => ?_)
                  refine value_ (w1 := ?_) (v := ?_) (by rfl) rfl ?_ ?_
                  rotate_left 2
                  · go_simp
                    constructor
                    · rfl
                    · rfl
                  refine hK.out _ _ ⟨(blk_cell (blk_alloc BK389.out _) 0).trans rfl, (blk_cell (blk_alloc BK389.out _) 1).trans rfl, (blk_cell (blk_alloc BK389.out _) 2).trans rfl⟩ (fun hHeld => ?_)
                  clear hK K
                  refine norm_ (a' := ?_) ?_ ?_
                  rotate_left
                  · show Act.put _ (some 24) _ = _
                    simp only [Act.put, List.setIfInBounds_toArray, List.set_cons_zero, List.set_cons_succ, i64_w, i32_w]
                    rfl
                  refine one_ (i := 5) (N := some 25) #[true, true, true, true, true, true, false, false] rfl rfl (one_of HT_.out (by kernel_rfl)) (by decide) (fun K hK => ?_)
                  refine Kd.R_append_step Kd.string w.heap.size (by rfl) (.tmp 21) (.tmp 24) 82 9 (.string ⟨#[]⟩) 16 rfl Try.underlying82 info9 rfl (by decide) (by omega) u390001 x390001_2 t393 [.string t393] (fun _ => True) (fun _ => False) rfl rfl ?aP (fun _ hk => hk.elim) ?aF ?aO (Below.refl _ _) ?aS ?aL ?_
                  (case aP => exact rfl)
                  (case aF => exact (fun _ _ => trivial))
                  (case aO => exact (by (with_reducible repeat (first | apply Kd.R_alloc | apply Kd.R_drewN | apply Kd.R_drew)); exact HO_390001.out))
                  (case aS => exact (keep_size (w := w) (g := g) (row := none) (by repeat (first | (with_reducible first | exact HK.out | apply KeepBut.set_ | apply keep_drewN | apply keep_drew | apply keep_alloc | refine keep_far ?_ GW378.out _ | refine keep_far ?_ GW382.out _ | refine keep_far ?_ GW389.out _) | exact HK.out))))
                  (case aL => have := LMc23.out; omega)
                  intro v397 w27 ho hb hg hat
                  rw [← Ny396.out] at ho
                  have n0_ := Aside0.mk (Kd.S_after (ok := (fun k_ => k_ ≠ gb389)) (by (with_reducible repeat (first | apply Kd.S_alloc | apply Kd.S_drewN | apply Kd.S_drew)); exact Kd.S_mono HO_383001.out (fun _ hk => ⟨hk.2, hk.1⟩)) hg hat)
                  have n1_ := Aside0.mk (blk_grown (g := gb378) (o := .cells #[.string x379000_2, .slice none 0 0] 31 (0, 0)) (by (with_reducible repeat (first | refine blk_drewN ?_ _ | refine blk_drew ?_ | refine blk_alloc ?_ _)); exact BK378.out) hg (Kd.R_ne HO_390001.out BK378.out (by decide)))
                  have n2_ := Aside0.mk (blk_grown (g := gb382) (o := .cells #[.string t379, u383001] 31 (0, 0)) (by (with_reducible repeat (first | refine blk_drewN ?_ _ | refine blk_drew ?_ | refine blk_alloc ?_ _)); exact BK382.out) hg (Kd.R_ne HO_390001.out BK382.out (by decide)))
                  have n3_ := Aside0.mk (blk_grown (g := gb389) (o := .cells #[.string t386, u390001, .slice none 0 0] 84 (0, 0)) (by (with_reducible repeat (first | refine blk_drewN ?_ _ | refine blk_drew ?_ | refine blk_alloc ?_ _)); exact BK389.out) hg (Kd.R_ne HO_390001.out BK389.out (by decide)))
                  have n4_ := Aside0.mk (IsS96.grown (by repeat (first | (with_reducible first | exact HI0.out | apply IsS96.alloc | apply IsS96.drewN | apply IsS96.drew | apply IsS96.set_1 | apply IsS96.set_2 | refine IsS96.far ?_ NB0_378.out _ | refine IsS96.far ?_ NB0_382.out _ | refine IsS96.far ?_ NB0_389.out _) | exact HI0.out)) hg (IsS96.own_ne HI0.out HO_390001.out (by decide)))
                  have n5_ := Aside0.mk (below_weaken (by repeat (first | (with_reducible first | exact HB.out | apply below_alloc | apply pw_below_drewN | apply below_drew1 | refine below_set ?_ (IsS96.ge HI0.out) | refine below_set ?_ GE378.out | refine below_set ?_ GE382.out | refine below_set ?_ GE389.out) | exact HB.out)) HL.out hb)
                  have n6_ := Aside0.mk (KeepBut.trans (by repeat (first | (with_reducible first | exact HK.out | apply KeepBut.set_ | apply keep_drewN | apply keep_drew | apply keep_alloc | refine keep_far ?_ GW378.out _ | refine keep_far ?_ GW382.out _ | refine keep_far ?_ GW389.out _) | exact HK.out)) (KeepBut.of_grown hg g) (Kd.R_base2 HO_390001.out))
                  have n7_ := Aside0.mk (ho)
                  clear HO_383001
                  clear BK378
                  clear BK382
                  clear BK389
                  clear HI0
                  clear HB
                  clear HK
                  clear HO_390001
                  have HO_383001 := n0_
                  have BK378 := n1_
                  have BK382 := n2_
                  have BK389 := n3_
                  have HI0 := n4_
                  have HB := n5_
                  have HK := n6_
                  have HO398 := n7_
                  clear n0_ n1_ n2_ n3_ n4_ n5_ n6_ n7_
                  clear ho hb hg hat
                  obtain ⟨Ao28, co28, eo28⟩ := Kd.R_slice HO398.out
                  (first | subst eo28 | (injection eo28 with f1_ f2_ f3_; have f4_ := f1_.symm; have f5_ := f3_.symm; clear f1_ f2_ f3_; subst f4_; subst f5_))
                  refine hK.out _ _ ⟨(blk_cell BK389.out 0).trans rfl, (blk_cell BK389.out 1).trans rfl, (blk_cell BK389.out 2).trans rfl⟩ (fun hHeld => ?_)
                  clear hK K
                  refine norm_ (a' := ?_) ?_ ?_
                  rotate_left
                  · show Act.put _ (some 25) _ = _
                    simp only [Act.put, List.setIfInBounds_toArray, List.set_cons_zero, List.set_cons_succ, i64_w, i32_w]
                    rfl
                  refine pure_ (i := 6) (N := some 26) (v := ?_) (a' := ?_) #[true, true, true, true, true, true, true, false] rfl rfl (any_of HT_.out (by kernel_rfl)) (fun _ _ _ h => h) (Or.inl ⟨by rfl, ?_⟩) ?_ ?_
                  rotate_left
                  · intro w'
                    go_simp
                    with_reducible rfl
                  rotate_left
                  · simp only [Act.put, List.setIfInBounds_toArray, List.set_cons_zero, List.set_cons_succ, i64_w, i32_w]
                    rfl
                  refine last_ (i := 7) (N := none) #[true, true, true, true, true, true, true, true] rfl rfl (one_of HT_.out (by kernel_rfl)) (by decide) (fun K hK => ?_)
                  have hs29 : w27.cell? ⟨gb389, 1, none⟩ = some (u390001) := (blk_cell BK389.out 1).trans rfl
                  have hfs29 := blk_frozen BK389.out 1
                  have hns29_0 := NB378_389.out
                  have hns29_1 := NB382_389.out
                  have hms29_0 := NB389_378.out
                  have hms29_1 := NB389_382.out
                  refine skip_ (w1 := ?_) (by rfl) rfl ?_ ?_
                  rotate_left
                  · go_simp
                    rfl
                  refine hK.out _ _ ?_
                  clear hK K
                  refine done_ (done_of HT_.out (by kernel_rfl)) ?_
                  obtain ⟨ASz30_0, cSz30_0, HGz30, hgz30, HSz30_0, -⟩ := HI0.out
                  have hcz30_0 := cellS96_0 HGz30
                  have hcz30_1 := cellS96_1 HGz30
                  have hcz30_2 := cellS96_2 HGz30
                  have hfz30_1 := blk_frozen HGz30 1
                  have hfz30_2 := blk_frozen HGz30 2
                  clear HGz30 hgz30
                  have hnb31 := NB382_378.out
                  have hnc31 := NB378_382.out
                  have hnb32 := NB382_389.out
                  have hnc32 := NB389_382.out
                  have hnb33 := NB382_0.out
                  have hnc33 := NB0_382.out
                  have hcz34_0 : w27.cell? ⟨gb382, 0, none⟩ = some (.string t379) := (blk_cell BK382.out 0).trans rfl
                  have hcz34_1 : w27.cell? ⟨gb382, 1, none⟩ = some (u383001) := (blk_cell BK382.out 1).trans rfl
                  have hfz34_0 := blk_frozen BK382.out 0
                  have hfz34_1 := blk_frozen BK382.out 1
                  have hnb35 := NB378_389.out
                  have hnc35 := NB389_378.out
                  have hnb36 := NB378_0.out
                  have hnc36 := NB0_378.out
                  have hcz37_0 : w27.cell? ⟨gb378, 0, none⟩ = some (.string x379000_2) := (blk_cell BK378.out 0).trans rfl
                  have hcz37_1 : w27.cell? ⟨gb378, 1, none⟩ = some (.slice none 0 0) := (blk_cell BK378.out 1).trans rfl
                  have hfz37_0 := blk_frozen BK378.out 0
                  have hfz37_1 := blk_frozen BK378.out 1
                  obtain ⟨Ao38, co38, eo38⟩ := Kd.S_slice HO_383001.out
                  subst eo38
                  try go_wp2
                  refine bodyPost_ret (results_cell_row rfl _ _ gb378 31 #[.string t379, .slice Ao38 x383001_1.length co38] (0, 0) _ rfl (by (with_reducible repeat (first | refine blk_drewN ?_ _ | refine blk_drew ?_ | refine blk_alloc ?_ _)); refine blk_put (cs := #[.string t379, .slice none 0 0]) ?_ 1 _ rfl; (with_reducible repeat (first | refine blk_drewN ?_ _ | refine blk_drew ?_ | refine blk_alloc ?_ _)); refine blk_put (cs := #[.string x379000_2, .slice none 0 0]) ?_ 0 _ rfl; (with_reducible repeat (first | refine blk_drewN ?_ _ | refine blk_drew ?_ | refine blk_alloc ?_ _)); refine blk_far ?_ NB378_389.out _; (with_reducible repeat (first | refine blk_drewN ?_ _ | refine blk_drew ?_ | refine blk_alloc ?_ _)); exact BK378.out) Try.underlying31 rfl (by kernel_rfl)) rfl ?_
                  exact ⟨_, by first | rfl | (simp [errW_none, errW_some] <;> rfl) | (simp [*, errW_none, errW_some] <;> rfl), by (with_reducible repeat (first | apply Kd.S_alloc | apply Kd.S_drewN | apply Kd.S_drew)); exact Kd.S_mono (Kd.S_far (p := ⟨gb378, 1, none⟩) (Kd.S_far (p := ⟨gb378, 0, none⟩) (Kd.S_far (p := ⟨gb389, 1, none⟩) (Kd.S_types (Kd.S_mono HO_383001.out (fun k_ hk => (⟨hk, hk.1⟩ : _ ∧ k_ ≠ gb389))) BK378.out (by decide)) (fun _ hk => hk.1.2) (.slice Ao28 y396.length co28)) (fun _ hk => hk.2) (.string t379)) (fun _ hk => hk.2) (.slice Ao38 x383001_1.length co38)) (fun _ hk => trivial), by repeat (first | (with_reducible first | exact HI0.out | apply IsS96.alloc | apply IsS96.drewN | apply IsS96.drew | apply IsS96.set_1 | apply IsS96.set_2 | refine IsS96.far ?_ NB0_378.out _ | refine IsS96.far ?_ NB0_382.out _ | refine IsS96.far ?_ NB0_389.out _) | exact HI0.out), by repeat (first | (with_reducible first | exact HB.out | apply below_alloc | apply pw_below_drewN | apply below_drew1 | refine below_set ?_ (IsS96.ge HI0.out) | refine below_set ?_ GE378.out | refine below_set ?_ GE382.out | refine below_set ?_ GE389.out) | exact HB.out), by repeat (first | (with_reducible first | exact HK.out | apply KeepBut.set_ | apply keep_drewN | apply keep_drew | apply keep_alloc | refine keep_far ?_ GW378.out _ | refine keep_far ?_ GW382.out _ | refine keep_far ?_ GW389.out _) | exact HK.out)⟩
                · replace c24 := Bool.eq_false_iff.mpr c24
                  subst c24
                  have H1 : (impl_docReader_doc.l1 k2 t383 x11_1 t390 (wrap64 (x18_2 + 1)) s0_0 t394 false t379 x383001_1 t386 y396) = some (r1, r2, r3, r4) := by rw [if_neg (show ¬ (false = true) by decide)] at H; exact H
                  clear H
                  have H := H1
                  clear H1
                  have H' := Aside0.mk H
                  clear H
                  try go_wp2
                  have n0_ := Aside0.mk (Kd.S_drew HO_383001.out)
                  have n1_ := Aside0.mk (Kd.R_drew HO_390001.out)
                  have n2_ := Aside0.mk (blk_drew BK378.out)
                  have n3_ := Aside0.mk (blk_drew BK382.out)
                  have n4_ := Aside0.mk (blk_drew BK389.out)
                  have n5_ := Aside0.mk (IsS96.drew HI0.out)
                  have n6_ := Aside0.mk (keep_drew HK.out)
                  have n7_ := Aside0.mk (below_drew1 HB.out)
                  clear HO_383001
                  clear HO_390001
                  clear BK378
                  clear BK382
                  clear BK389
                  clear HI0
                  clear HK
                  clear HB
                  have HO_383001 := n0_
                  have HO_390001 := n1_
                  have BK378 := n2_
                  have BK382 := n3_
                  have BK389 := n4_
                  have HI0 := n5_
                  have HK := n6_
                  have HB := n7_
                  clear n0_ n1_ n2_ n3_ n4_ n5_ n6_ n7_
                  refine start_ (n := 8) (S := fun w' => w'.cell? ⟨gb389, 0, none⟩ = some (.string t386) ∧ w'.cell? ⟨gb389, 1, none⟩ = some (u390001) ∧ w'.cell? ⟨gb389, 2, none⟩ = some (.slice none 0 0)) (ds := [7]) #[false, false, false, false, false, false, false, false] (by kernel_rfl) rfl rfl ⟨(blk_cell BK389.out 0).trans rfl, (blk_cell BK389.out 1).trans rfl, (blk_cell BK389.out 2).trans rfl⟩ (fun hHeld => ?_); refine with_tabW impl_docReader_doc.tab7 impl_docReader_doc.bits7 (fun HT_ HW_ => ?_)
                  generalize wr.drew = w39 at HO_383001 HO_390001 BK378 BK382 BK389 HI0 HK HB hHeld ⊢
                  refine pure_ (i := 0) (N := some 20) (v := ?_) (a' := ?_) #[true, false, false, false, false, false, false, false] rfl rfl (any_of HT_.out (by kernel_rfl)) (fun _ _ _ h => h) (Or.inl ⟨by rfl, ?_⟩) ?_ ?_
                  rotate_left
                  · intro w'
                    go_simp
                    with_reducible rfl
                  rotate_left
                  · simp only [Act.put, List.setIfInBounds_toArray, List.set_cons_zero, List.set_cons_succ, i64_w, i32_w]
                    rfl
                  refine pure_ (i := 2) (N := some 22) (v := ?_) (a' := ?_) #[true, false, true, false, false, false, false, false] rfl rfl (any_of HT_.out (by kernel_rfl)) (fun _ _ _ h => h) (Or.inl ⟨by rfl, ?_⟩) ?_ ?_
                  rotate_left
                  · intro w'
                    go_simp
                    with_reducible rfl
                  rotate_left
                  · simp only [Act.put, List.setIfInBounds_toArray, List.set_cons_zero, List.set_cons_succ, i64_w, i32_w]
                    rfl
                  refine take_ (i := 1) (N := some 21) (v := ?_) (a' := ?_) #[true, true, true, false, false, false, false, false] rfl rfl (take_ofW HT_.out HW_.out (by kernel_rfl)) (fun _ _ _ h => h) (Or.inl ⟨by rfl, ?_⟩) hHeld ?_ ?_
                  rotate_left
                  · rintro w' ⟨s0, s1, s2⟩
                    go_simp
                    with_reducible rfl
                  rotate_left
                  · simp only [Act.put, List.setIfInBounds_toArray, List.set_cons_zero, List.set_cons_succ, i64_w, i32_w]
                    rfl
                  refine one_ (i := 3) (N := some 23) #[true, true, true, true, false, false, false, false] rfl rfl (one_of HT_.out (by kernel_rfl)) (by decide) (fun K hK => ?_)
                  refine goes_ Try.func99 (by kernel_rfl) rfl #[.pointer (some ⟨g, 0, none⟩)] (by rfl) rfl rfl (by (try simp only [List.map_toArray, List.map_cons, List.map_nil]); first | done | rfl | (simp only [List.length_drop, List.length_take]; rfl)) ?_
                  with_reducible refine (impl_docReader_text.calls k2 g s0_0 x1001_2 x1002_2 t393 t394 false w0 _ ?side1 ?side2 A22.out).mono ?_
                  (case side1 => repeat (first | (with_reducible first | exact HI0.out | apply IsS96.alloc | apply IsS96.drewN | apply IsS96.drew | apply IsS96.set_1 | apply IsS96.set_2 | refine IsS96.far ?_ NB0_378.out _ | refine IsS96.far ?_ NB0_382.out _ | refine IsS96.far ?_ NB0_389.out _) | exact HI0.out))
                  (case side2 => repeat (first | (with_reducible first | exact HB.out | apply below_alloc | apply pw_below_drewN | apply below_drew1 | refine below_set ?_ (IsS96.ge HI0.out) | refine below_set ?_ GE378.out | refine below_set ?_ GE382.out | refine below_set ?_ GE389.out) | exact HB.out))
                  rintro e w40 ⟨rfl, hi, hb, hk⟩
                  refine ⟨_, rfl, ?_⟩
                  have n0_ := Aside0.mk (Kd.S_mono (Kd.S_keep (IsS96.apartS (show IsS96 w0 _ g s0_0 x1001_2 x1002_2 from by repeat (first | (with_reducible first | exact HI0.out | apply IsS96.alloc | apply IsS96.drewN | apply IsS96.drew | apply IsS96.set_1 | apply IsS96.set_2 | refine IsS96.far ?_ NB0_378.out _ | refine IsS96.far ?_ NB0_382.out _ | refine IsS96.far ?_ NB0_389.out _) | exact HI0.out)) (by (with_reducible repeat (first | apply Kd.S_alloc | apply Kd.S_drewN | apply Kd.S_drew)); exact HO_383001.out) (by decide)) hk (fun _ h => h.2)) (fun _ h => h.1))
                  have n1_ := Aside0.mk (Kd.R_mono (Kd.R_keep (IsS96.apart (show IsS96 w0 _ g s0_0 x1001_2 x1002_2 from by repeat (first | (with_reducible first | exact HI0.out | apply IsS96.alloc | apply IsS96.drewN | apply IsS96.drew | apply IsS96.set_1 | apply IsS96.set_2 | refine IsS96.far ?_ NB0_378.out _ | refine IsS96.far ?_ NB0_382.out _ | refine IsS96.far ?_ NB0_389.out _) | exact HI0.out)) (by (with_reducible repeat (first | apply Kd.R_alloc | apply Kd.R_drewN | apply Kd.R_drew)); exact HO_390001.out) (by decide)) hk (fun _ h => h.2)) (fun _ h => h.1))
                  have n2_ := Aside0.mk (KeepBut.blk hk (g' := gb378) (o := .cells #[.string x379000_2, .slice none 0 0] 31 (0, 0)) (by (with_reducible repeat (first | refine blk_drewN ?_ _ | refine blk_drew ?_ | refine blk_alloc ?_ _)); exact BK378.out) NB378_0.out (by simp))
                  have n3_ := Aside0.mk (KeepBut.blk hk (g' := gb382) (o := .cells #[.string t379, u383001] 31 (0, 0)) (by (with_reducible repeat (first | refine blk_drewN ?_ _ | refine blk_drew ?_ | refine blk_alloc ?_ _)); exact BK382.out) NB382_0.out (by simp))
                  have n4_ := Aside0.mk (KeepBut.blk hk (g' := gb389) (o := .cells #[.string t386, u390001, .slice none 0 0] 84 (0, 0)) (by (with_reducible repeat (first | refine blk_drewN ?_ _ | refine blk_drew ?_ | refine blk_alloc ?_ _)); exact BK389.out) NB389_0.out (by simp))
                  have n5_ := Aside0.mk (KeepBut.trans (by repeat (first | (with_reducible first | exact HK.out | apply KeepBut.set_ | apply keep_drewN | apply keep_drew | apply keep_alloc | refine keep_far ?_ GW378.out _ | refine keep_far ?_ GW382.out _ | refine keep_far ?_ GW389.out _) | exact HK.out)) hk (.inl rfl))
                  have n6_ := Aside0.mk (hb)
                  have n7_ := Aside0.mk (hi)
                  clear HO_383001
                  clear HO_390001
                  clear BK378
                  clear BK382
                  clear BK389
                  clear HK
                  clear HB
                  clear HI0
                  have HO_383001 := n0_
                  have HO_390001 := n1_
                  have BK378 := n2_
                  have BK382 := n3_
                  have BK389 := n4_
                  have HK := n5_
                  have HB := n6_
                  have HI0 := n7_
                  clear n0_ n1_ n2_ n3_ n4_ n5_ n6_ n7_
                  (try clear hb)
                  (try clear hb2)
                  (try clear hk)
                  (try clear hi)
                  refine hK.out _ _ ⟨(blk_cell BK389.out 0).trans rfl, (blk_cell BK389.out 1).trans rfl, (blk_cell BK389.out 2).trans rfl⟩ (fun hHeld => ?_)
                  clear hK K
                  refine norm_ (a' := ?_) ?_ ?_
                  rotate_left
                  · show Act.put _ (some 23) _ = _
                    simp only [Act.put, List.setIfInBounds_toArray, List.set_cons_zero, List.set_cons_succ, i64_w, i32_w]
                    rfl
                  refine one_ (i := 4) (N := some 24) #[true, true, true, true, true, false, false, false] rfl rfl (one_of HT_.out (by kernel_rfl)) (by decide) (fun K hK => ?_)
                  refine value_ (w1 := ?_) (v := ?_) (by rfl) rfl ?_ ?_
                  rotate_left 2
                  · go_simp
                    constructor
                    · rfl
                    · rfl
                  refine hK.out _ _ ⟨(blk_cell (blk_alloc BK389.out _) 0).trans rfl, (blk_cell (blk_alloc BK389.out _) 1).trans rfl, (blk_cell (blk_alloc BK389.out _) 2).trans rfl⟩ (fun hHeld => ?_)
                  clear hK K
                  refine norm_ (a' := ?_) ?_ ?_
                  rotate_left
                  · show Act.put _ (some 24) _ = _
                    simp only [Act.put, List.setIfInBounds_toArray, List.set_cons_zero, List.set_cons_succ, i64_w, i32_w]
                    rfl
                  refine one_ (i := 5) (N := some 25) #[true, true, true, true, true, true, false, false] rfl rfl (one_of HT_.out (by kernel_rfl)) (by decide) (fun K hK => ?_)
                  refine Kd.R_append_step Kd.string w.heap.size (by rfl) (.tmp 21) (.tmp 24) 82 9 (.string ⟨#[]⟩) 16 rfl Try.underlying82 info9 rfl (by decide) (by omega) u390001 x390001_2 t393 [.string t393] (fun _ => True) (fun _ => False) rfl rfl ?aP (fun _ hk => hk.elim) ?aF ?aO (Below.refl _ _) ?aS ?aL ?_
                  (case aP => exact rfl)
                  (case aF => exact (fun _ _ => trivial))
                  (case aO => exact (by (with_reducible repeat (first | apply Kd.R_alloc | apply Kd.R_drewN | apply Kd.R_drew)); exact HO_390001.out))
                  (case aS => exact (keep_size (w := w) (g := g) (row := none) (by repeat (first | (with_reducible first | exact HK.out | apply KeepBut.set_ | apply keep_drewN | apply keep_drew | apply keep_alloc | refine keep_far ?_ GW378.out _ | refine keep_far ?_ GW382.out _ | refine keep_far ?_ GW389.out _) | exact HK.out))))
                  (case aL => have := LMc23.out; omega)
                  intro v397 w41 ho hb hg hat
                  rw [← Ny396.out] at ho
                  have n0_ := Aside0.mk (Kd.S_after (ok := (fun k_ => k_ ≠ gb389)) (by (with_reducible repeat (first | apply Kd.S_alloc | apply Kd.S_drewN | apply Kd.S_drew)); exact Kd.S_mono HO_383001.out (fun _ hk => ⟨hk.2, hk.1⟩)) hg hat)
                  have n1_ := Aside0.mk (blk_grown (g := gb378) (o := .cells #[.string x379000_2, .slice none 0 0] 31 (0, 0)) (by (with_reducible repeat (first | refine blk_drewN ?_ _ | refine blk_drew ?_ | refine blk_alloc ?_ _)); exact BK378.out) hg (Kd.R_ne HO_390001.out BK378.out (by decide)))
                  have n2_ := Aside0.mk (blk_grown (g := gb382) (o := .cells #[.string t379, u383001] 31 (0, 0)) (by (with_reducible repeat (first | refine blk_drewN ?_ _ | refine blk_drew ?_ | refine blk_alloc ?_ _)); exact BK382.out) hg (Kd.R_ne HO_390001.out BK382.out (by decide)))
                  have n3_ := Aside0.mk (blk_grown (g := gb389) (o := .cells #[.string t386, u390001, .slice none 0 0] 84 (0, 0)) (by (with_reducible repeat (first | refine blk_drewN ?_ _ | refine blk_drew ?_ | refine blk_alloc ?_ _)); exact BK389.out) hg (Kd.R_ne HO_390001.out BK389.out (by decide)))
                  have n4_ := Aside0.mk (IsS96.grown (by repeat (first | (with_reducible first | exact HI0.out | apply IsS96.alloc | apply IsS96.drewN | apply IsS96.drew | apply IsS96.set_1 | apply IsS96.set_2 | refine IsS96.far ?_ NB0_378.out _ | refine IsS96.far ?_ NB0_382.out _ | refine IsS96.far ?_ NB0_389.out _) | exact HI0.out)) hg (IsS96.own_ne HI0.out HO_390001.out (by decide)))
                  have n5_ := Aside0.mk (below_weaken (by repeat (first | (with_reducible first | exact HB.out | apply below_alloc | apply pw_below_drewN | apply below_drew1 | refine below_set ?_ (IsS96.ge HI0.out) | refine below_set ?_ GE378.out | refine below_set ?_ GE382.out | refine below_set ?_ GE389.out) | exact HB.out)) HL.out hb)
                  have n6_ := Aside0.mk (KeepBut.trans (by repeat (first | (with_reducible first | exact HK.out | apply KeepBut.set_ | apply keep_drewN | apply keep_drew | apply keep_alloc | refine keep_far ?_ GW378.out _ | refine keep_far ?_ GW382.out _ | refine keep_far ?_ GW389.out _) | exact HK.out)) (KeepBut.of_grown hg g) (Kd.R_base2 HO_390001.out))
                  have n7_ := Aside0.mk (ho)
                  clear HO_383001
                  clear BK378
                  clear BK382
                  clear BK389
                  clear HI0
                  clear HB
                  clear HK
                  clear HO_390001
                  have HO_383001 := n0_
                  have BK378 := n1_
                  have BK382 := n2_
                  have BK389 := n3_
                  have HI0 := n4_
                  have HB := n5_
                  have HK := n6_
                  have HO398 := n7_
                  clear n0_ n1_ n2_ n3_ n4_ n5_ n6_ n7_
                  clear ho hb hg hat
                  obtain ⟨Ao42, co42, eo42⟩ := Kd.R_slice HO398.out
                  (first | subst eo42 | (injection eo42 with f1_ f2_ f3_; have f4_ := f1_.symm; have f5_ := f3_.symm; clear f1_ f2_ f3_; subst f4_; subst f5_))
                  refine hK.out _ _ ⟨(blk_cell BK389.out 0).trans rfl, (blk_cell BK389.out 1).trans rfl, (blk_cell BK389.out 2).trans rfl⟩ (fun hHeld => ?_)
                  clear hK K
                  refine norm_ (a' := ?_) ?_ ?_
                  rotate_left
                  · show Act.put _ (some 25) _ = _
                    simp only [Act.put, List.setIfInBounds_toArray, List.set_cons_zero, List.set_cons_succ, i64_w, i32_w]
                    rfl
                  refine pure_ (i := 6) (N := some 26) (v := ?_) (a' := ?_) #[true, true, true, true, true, true, true, false] rfl rfl (any_of HT_.out (by kernel_rfl)) (fun _ _ _ h => h) (Or.inl ⟨by rfl, ?_⟩) ?_ ?_
                  rotate_left
                  · intro w'
                    go_simp
                    with_reducible rfl
                  rotate_left
                  · simp only [Act.put, List.setIfInBounds_toArray, List.set_cons_zero, List.set_cons_succ, i64_w, i32_w]
                    rfl
                  refine last_ (i := 7) (N := none) #[true, true, true, true, true, true, true, true] rfl rfl (one_of HT_.out (by kernel_rfl)) (by decide) (fun K hK => ?_)
                  have hs43 : w41.cell? ⟨gb389, 1, none⟩ = some (u390001) := (blk_cell BK389.out 1).trans rfl
                  have hfs43 := blk_frozen BK389.out 1
                  have hns43_0 := NB378_389.out
                  have hns43_1 := NB382_389.out
                  have hms43_0 := NB389_378.out
                  have hms43_1 := NB389_382.out
                  refine skip_ (w1 := ?_) (by rfl) rfl ?_ ?_
                  rotate_left
                  · go_simp
                    rfl
                  refine hK.out _ _ ?_
                  clear hK K
                  refine done_ (done_of HT_.out (by kernel_rfl)) ?_
                  obtain ⟨ASz44_0, cSz44_0, HGz44, hgz44, HSz44_0, -⟩ := HI0.out
                  have hcz44_0 := cellS96_0 HGz44
                  have hcz44_1 := cellS96_1 HGz44
                  have hcz44_2 := cellS96_2 HGz44
                  have hfz44_1 := blk_frozen HGz44 1
                  have hfz44_2 := blk_frozen HGz44 2
                  clear HGz44 hgz44
                  try go_wp2
                  go_roundg k2
                  case measure => have := HK1.out; have := HK2.out; omega
                  case rel => exact ⟨(wrap64 (x18_2 + 1)), (t394), (false), (x379000_2), (y396), (.slice Ao42 y396.length co42), (by first | rfl | (simp; done) | (simp [*]; done)), H', ⟨by have := HK1.out; have := HK2.out; omega⟩, ⟨by (with_reducible repeat (first | apply Kd.S_alloc | apply Kd.S_drewN | apply Kd.S_drew)); exact Kd.S_mono (Kd.S_far (p := ⟨gb389, 1, none⟩) (Kd.S_mono HO_383001.out (fun k_ hk => (⟨hk, hk.1⟩ : _ ∧ k_ ≠ gb389))) (fun _ hk => hk.2) (.slice Ao42 y396.length co42)) (fun _ hk => ⟨hk.1.2, hk.1.1⟩)⟩, ⟨by (with_reducible repeat (first | apply Kd.R_alloc | apply Kd.R_drewN | apply Kd.R_drew)); exact Kd.R_mono (Kd.R_far (p := ⟨gb389, 1, none⟩) (Kd.R_types HO398.out BK389.out (by decide)) (fun _ hk => hk.2) (.slice Ao42 y396.length co42)) (fun _ hk => trivial)⟩, ⟨by (with_reducible repeat (first | refine blk_drewN ?_ _ | refine blk_drew ?_ | refine blk_alloc ?_ _)); refine blk_far ?_ NB378_389.out _; (with_reducible repeat (first | refine blk_drewN ?_ _ | refine blk_drew ?_ | refine blk_alloc ?_ _)); exact BK378.out⟩, ⟨by (with_reducible repeat (first | refine blk_drewN ?_ _ | refine blk_drew ?_ | refine blk_alloc ?_ _)); refine blk_far ?_ NB382_389.out _; (with_reducible repeat (first | refine blk_drewN ?_ _ | refine blk_drew ?_ | refine blk_alloc ?_ _)); exact BK382.out⟩, ⟨by (with_reducible repeat (first | refine blk_drewN ?_ _ | refine blk_drew ?_ | refine blk_alloc ?_ _)); refine blk_put (cs := #[.string t386, u390001, .slice none 0 0]) ?_ 1 _ rfl; (with_reducible repeat (first | refine blk_drewN ?_ _ | refine blk_drew ?_ | refine blk_alloc ?_ _)); exact BK389.out⟩, ⟨by repeat (first | (with_reducible first | exact HI0.out | apply IsS96.alloc | apply IsS96.drewN | apply IsS96.drew | apply IsS96.set_1 | apply IsS96.set_2 | refine IsS96.far ?_ NB0_378.out _ | refine IsS96.far ?_ NB0_382.out _ | refine IsS96.far ?_ NB0_389.out _) | exact HI0.out)⟩, ⟨by repeat (first | (with_reducible first | exact HK.out | apply KeepBut.set_ | apply keep_drewN | apply keep_drew | apply keep_alloc | refine keep_far ?_ GW378.out _ | refine keep_far ?_ GW382.out _ | refine keep_far ?_ GW389.out _) | exact HK.out)⟩, ⟨by repeat (first | (with_reducible first | exact HB.out | apply below_alloc | apply pw_below_drewN | apply below_drew1 | refine below_set ?_ (IsS96.ge HI0.out) | refine below_set ?_ GE378.out | refine below_set ?_ GE382.out | refine below_set ?_ GE389.out) | exact HB.out)⟩⟩
              · rw [if_neg c23] at H
                exact absurd H (by simp)
            · rw [if_neg c21] at H
              have c21b0 : decide (x18_2 < t390) = false := decide_eq_false c21
              clear c21
              replace H := Option.bind_eq_some_iff.mp H
              obtain ⟨⟨t399, t400, t401⟩, A450, H⟩ := H
              replace H : (impl_docReader_doc.l2 k2 t383 x11_1 t399 0 s0_0 t400 t401 t379 x383001_1 t386 x390001_2 ([] : List Int)) = some (r1, r2, r3, r4) := H
              have A45 := Aside0.mk A450
              clear A450
              have H' := Aside0.mk H
              clear H
              go_wp2_with (first | ((with_reducible refine gate_callee (f := 100) rfl ?_); refine goesL_ (some 34) rfl rfl Try.func100 (by kernel_rfl) rfl #[.pointer (some ⟨g, 0, none⟩), .int .i64 4096] rfl (by (try simp only [List.map_toArray, List.map_cons, List.map_nil]); first | done | rfl | (simp only [List.length_drop, List.length_take]; rfl)) ?_; (with_reducible refine (impl_docReader_int.calls k2 g s0_0 x1001_2 x1002_2 4096 t399 t400 t401 w0 _ ?side1 ?side2 A45.out).mono ?_); (case side1 => repeat (first | (with_reducible first | exact HI0.out | apply IsS96.alloc | apply IsS96.drewN | apply IsS96.drew | apply IsS96.set_1 | apply IsS96.set_2 | refine IsS96.far ?_ NB0_378.out _ | refine IsS96.far ?_ NB0_382.out _ | refine IsS96.far ?_ NB0_389.out _) | exact HI0.out)); (case side2 => repeat (first | (with_reducible first | exact HB.out | apply below_alloc | apply pw_below_drewN | apply below_drew1 | refine below_set ?_ (IsS96.ge HI0.out) | refine below_set ?_ GE378.out | refine below_set ?_ GE382.out | refine below_set ?_ GE389.out) | exact HB.out)); rintro e w46 ⟨rfl, hi, hb, hk⟩; refine ⟨_, rfl, ?_⟩; have n0_ := Aside0.mk (Kd.S_mono (Kd.S_keep (IsS96.apartS (show IsS96 w0 _ g s0_0 x1001_2 x1002_2 from by repeat (first | (with_reducible first | exact HI0.out | apply IsS96.alloc | apply IsS96.drewN | apply IsS96.drew | apply IsS96.set_1 | apply IsS96.set_2 | refine IsS96.far ?_ NB0_378.out _ | refine IsS96.far ?_ NB0_382.out _ | refine IsS96.far ?_ NB0_389.out _) | exact HI0.out)) (by (with_reducible repeat (first | apply Kd.S_alloc | apply Kd.S_drewN | apply Kd.S_drew)); exact HO_383001.out) (by decide)) hk (fun _ h => h.2)) (fun _ h => h.1)); have n1_ := Aside0.mk (Kd.R_mono (Kd.R_keep (IsS96.apart (show IsS96 w0 _ g s0_0 x1001_2 x1002_2 from by repeat (first | (with_reducible first | exact HI0.out | apply IsS96.alloc | apply IsS96.drewN | apply IsS96.drew | apply IsS96.set_1 | apply IsS96.set_2 | refine IsS96.far ?_ NB0_378.out _ | refine IsS96.far ?_ NB0_382.out _ | refine IsS96.far ?_ NB0_389.out _) | exact HI0.out)) (by (with_reducible repeat (first | apply Kd.R_alloc | apply Kd.R_drewN | apply Kd.R_drew)); exact HO_390001.out) (by decide)) hk (fun _ h => h.2)) (fun _ h => h.1)); have n2_ := Aside0.mk (KeepBut.blk hk (g' := gb378) (o := .cells #[.string x379000_2, .slice none 0 0] 31 (0, 0)) (by (with_reducible repeat (first | refine blk_drewN ?_ _ | refine blk_drew ?_ | refine blk_alloc ?_ _)); exact BK378.out) NB378_0.out (by simp)); have n3_ := Aside0.mk (KeepBut.blk hk (g' := gb382) (o := .cells #[.string t379, u383001] 31 (0, 0)) (by (with_reducible repeat (first | refine blk_drewN ?_ _ | refine blk_drew ?_ | refine blk_alloc ?_ _)); exact BK382.out) NB382_0.out (by simp)); have n4_ := Aside0.mk (KeepBut.blk hk (g' := gb389) (o := .cells #[.string t386, u390001, .slice none 0 0] 84 (0, 0)) (by (with_reducible repeat (first | refine blk_drewN ?_ _ | refine blk_drew ?_ | refine blk_alloc ?_ _)); exact BK389.out) NB389_0.out (by simp)); have n5_ := Aside0.mk (KeepBut.trans (by repeat (first | (with_reducible first | exact HK.out | apply KeepBut.set_ | apply keep_drewN | apply keep_drew | apply keep_alloc | refine keep_far ?_ GW378.out _ | refine keep_far ?_ GW382.out _ | refine keep_far ?_ GW389.out _) | exact HK.out)) hk (.inl rfl)); have n6_ := Aside0.mk (hb); have n7_ := Aside0.mk (hi); clear HO_383001; clear HO_390001; clear BK378; clear BK382; clear BK389; clear HK; clear HB; clear HI0; have HO_383001 := n0_; have HO_390001 := n1_; have BK378 := n2_; have BK382 := n3_; have BK389 := n4_; have HK := n5_; have HB := n6_; have HI0 := n7_; clear n0_ n1_ n2_ n3_ n4_ n5_ n6_ n7_; (try clear hb); (try clear hb2); (try clear hk); (try clear hi)))
              go_loopg [35] k2 (fun kq v35 w' => ∃ (x35_3 : Int) (x1001_3 : Int) (x1002_3 : Bool) (x379000_3 : ByteArray) (x390002_3 : List Int) (u390002 : Value), v35 = .int .i64 x35_3 ∧ Aside0 (impl_docReader_doc.l2 kq t383 x11_1 t399 x35_3 s0_0 x1001_3 x1002_3 t379 x383001_1 t386 x390001_2 x390002_3 = some (r1, r2, r3, r4)) ∧ Aside0 (kq ≤ k2) ∧ Aside0 (Kd.S k84 84 w' w.heap.size (fun k_ => some k_ ≠ (u390001 : Value).ownBlock ∧ some k_ ≠ (u390002 : Value).ownBlock ∧ k_ ≠ gb389) u383001 x383001_1) ∧ Aside0 (Kd.R Kd.string 9 w' w.heap.size (fun _ => True) u390001 x390001_2) ∧ Aside0 (Kd.R (Kd.int .i64) 3 w' w.heap.size (fun _ => True) u390002 x390002_3) ∧ Aside0 (w'.heap[gb378]? = some (.cells #[.string x379000_3, (.slice none 0 0)] 31 (0, 0))) ∧ Aside0 (w'.heap[gb382]? = some (.cells #[.string t379, u383001] 31 (0, 0))) ∧ Aside0 (w'.heap[gb389]? = some (.cells #[.string t386, u390001, u390002] 84 (0, 0))) ∧ Aside0 (IsS96 w0 w' g s0_0 x1001_3 x1002_3) ∧ Aside0 (KeepBut w w' g none) ∧ Aside0 (Below w0.heap.size w0 w'))
              case atStart => exact ⟨(0), (t400), (t401), (x379000_2), (([] : List Int)), (.slice none 0 0), (by first | rfl | (simp; done) | (simp [*]; done)), H', ⟨Nat.le_refl _⟩, ⟨by (with_reducible repeat (first | apply Kd.S_alloc | apply Kd.S_drewN | apply Kd.S_drew)); exact Kd.S_mono HO_383001.out (fun _ hk => ⟨hk.1, ⟨(by simp [Value.ownBlock]), hk.2⟩⟩)⟩, ⟨by (with_reducible repeat (first | apply Kd.R_alloc | apply Kd.R_drewN | apply Kd.R_drew)); exact HO_390001.out⟩, ⟨by first | exact Kd.R_nil _ _ _ _ _ | exact Kd.N_nil _ _ _ _ _ | exact Kd.V_nil _ _ _ _ _ | exact Kd.Q_nil _ _ _ _ _ | exact Kd.S_nil _ _ _ _ _⟩, ⟨by (with_reducible repeat (first | refine blk_drewN ?_ _ | refine blk_drew ?_ | refine blk_alloc ?_ _)); exact BK378.out⟩, ⟨by (with_reducible repeat (first | refine blk_drewN ?_ _ | refine blk_drew ?_ | refine blk_alloc ?_ _)); exact BK382.out⟩, ⟨by (with_reducible repeat (first | refine blk_drewN ?_ _ | refine blk_drew ?_ | refine blk_alloc ?_ _)); exact BK389.out⟩, ⟨by repeat (first | (with_reducible first | exact HI0.out | apply IsS96.alloc | apply IsS96.drewN | apply IsS96.drew | apply IsS96.set_1 | apply IsS96.set_2 | refine IsS96.far ?_ NB0_378.out _ | refine IsS96.far ?_ NB0_382.out _ | refine IsS96.far ?_ NB0_389.out _) | exact HI0.out)⟩, ⟨by repeat (first | (with_reducible first | exact HK.out | apply KeepBut.set_ | apply keep_drewN | apply keep_drew | apply keep_alloc | refine keep_far ?_ GW378.out _ | refine keep_far ?_ GW382.out _ | refine keep_far ?_ GW389.out _) | exact HK.out)⟩, ⟨by repeat (first | (with_reducible first | exact HB.out | apply below_alloc | apply pw_below_drewN | apply below_drew1 | refine below_set ?_ (IsS96.ge HI0.out) | refine below_set ?_ GE378.out | refine below_set ?_ GE382.out | refine below_set ?_ GE389.out) | exact HB.out)⟩⟩
              case round =>
                clear H'
                try clear c1
                try clear c2
                try clear p2
                try clear c3
                try clear c5
                try clear p6
                try clear c7
                try clear c8
                try clear c9
                try clear c10
                try clear c11
                try clear c11b0
                try clear c16
                try clear c17
                try clear c18
                try clear c21
                try clear c21b0
                try clear c23
                try clear c24
                try clear c31
                try clear c32
                try clear c33
                try clear c35
                try clear c36
                try clear hcz19_0
                try clear hcz19_1
                try clear hcz19_2
                try clear hcz30_0
                try clear hcz30_1
                try clear hcz30_2
                try clear hcz34_0
                try clear hcz34_1
                try clear hcz37_0
                try clear hcz37_1
                try clear hcz44_0
                try clear hcz44_1
                try clear hcz44_2
                try clear hcz9_0
                try clear hcz9_1
                try clear hfz19_0
                try clear hfz19_1
                try clear hfz19_2
                try clear hfz30_1
                try clear hfz30_2
                try clear hfz34_0
                try clear hfz34_1
                try clear hfz37_0
                try clear hfz37_1
                try clear hfz44_1
                try clear hfz44_2
                try clear hfz9_0
                try clear hfz9_1
                try clear p2
                obtain ⟨x35_3, x1001_3, x1002_3, x379000_3, x390002_3, u390002, rfl, HA, HK3, HO_383001, HO_390001, HO_390002, BK378, BK382, BK389, HI0, HK, HB⟩ := hrel
                cases gk with
                | zero => exact absurd HA.out (by simp [impl_docReader_doc.l2])
                | succ k3 =>
                  have H := HA.out
                  clear HA
                  simp only [impl_docReader_doc.l2] at H
                  by_cases c47 : x35_3 < t399
                  · rw [if_pos c47] at H
                    have c47b0 : decide (x35_3 < t399) = true := decide_eq_true c47
                    clear c47
                    replace H := Option.bind_eq_some_iff.mp H
                    obtain ⟨⟨t405, t406, t407⟩, A480, H⟩ := H
                    replace H : (if (Int.tmod t405 2) = 1 then (if x390002_3.length < 17592186044416 then (if t407 = true then (some (t379, x383001_1, t406, t407)) else (impl_docReader_doc.l2 k3 t383 x11_1 t399 (wrap64 (x35_3 + 1)) s0_0 t406 t407 t379 x383001_1 t386 x390001_2 (x390002_3 ++ [wrap64 (Int.tdiv (wrap64 (-(wrap64 (t405 + 1)))) 2)]))) else (none)) else (if x390002_3.length < 17592186044416 then (if t407 = true then (some (t379, x383001_1, t406, t407)) else (impl_docReader_doc.l2 k3 t383 x11_1 t399 (wrap64 (x35_3 + 1)) s0_0 t406 t407 t379 x383001_1 t386 x390001_2 (x390002_3 ++ [wrap64 (Int.tdiv t405 2)]))) else (none))) = some (r1, r2, r3, r4) := H
                    have A48 := Aside0.mk A480
                    clear A480
                    by_cases c49 : (Int.tmod t405 2) = 1
                    · rw [if_pos c49] at H
                      have c49b0 : ((Int.tmod t405 2) == 1) = true := beq_iff_eq.mpr c49
                      have c49b1 : ((Int.tmod t405 2) != 1) = false := bne_eq_false_iff_eq.mpr c49
                      clear c49
                      by_cases c50 : x390002_3.length < 17592186044416
                      · rw [if_pos c50] at H
                        have LMc50 := Aside0.mk c50
                        clear c50
                        obtain ⟨y408, hy408⟩ : ∃ y_ : List Int, y_ = (x390002_3 ++ [wrap64 (Int.tdiv (wrap64 (-(wrap64 (t405 + 1)))) 2)]) := ⟨_, rfl⟩
                        replace H : (if t407 = true then (some (t379, x383001_1, t406, t407)) else (impl_docReader_doc.l2 k3 t383 x11_1 t399 (wrap64 (x35_3 + 1)) s0_0 t406 t407 t379 x383001_1 t386 x390001_2 y408)) = some (r1, r2, r3, r4) := by first | (rw [hy408]; with_reducible exact H) | (have H2_ := (Option.bind_some _ _).symm.trans H; rw [hy408]; with_reducible exact H2_) | (have H2_ := (Option.bind_some _ _).symm.trans H; with_reducible exact H2_) | with_reducible exact H | (rw [hy408]; exact H) | exact H
                        have Ny408 := Aside0.mk hy408
                        clear hy408
                        by_cases c51 : t407 = true
                        · subst c51
                          have H1 : (some (t379, x383001_1, t406, true)) = some (r1, r2, r3, r4) := by rw [if_pos rfl] at H; exact H
                          clear H
                          have H := H1
                          clear H1
                          simp only [Option.some.injEq, Prod.mk.injEq] at H
                          obtain ⟨rfl, rfl, rfl, rfl⟩ := H
                          go_wp2_with (first | ((with_reducible refine gate_callee (f := 100) rfl ?_); refine goesL_ (some 38) rfl rfl Try.func100 (by kernel_rfl) rfl #[.pointer (some ⟨g, 0, none⟩), .int .i64 2000000000000] rfl (by (try simp only [List.map_toArray, List.map_cons, List.map_nil]); first | done | rfl | (simp only [List.length_drop, List.length_take]; rfl)) ?_; (with_reducible refine (impl_docReader_int.calls k3 g s0_0 x1001_3 x1002_3 2000000000000 t405 t406 true w0 _ ?side1 ?side2 A48.out).mono ?_); (case side1 => repeat (first | (with_reducible first | exact HI0.out | apply IsS96.alloc | apply IsS96.drewN | apply IsS96.drew | apply IsS96.set_1 | apply IsS96.set_2 | refine IsS96.far ?_ NB0_378.out _ | refine IsS96.far ?_ NB0_382.out _ | refine IsS96.far ?_ NB0_389.out _) | exact HI0.out)); (case side2 => repeat (first | (with_reducible first | exact HB.out | apply below_alloc | apply pw_below_drewN | apply below_drew1 | refine below_set ?_ (IsS96.ge HI0.out) | refine below_set ?_ GE378.out | refine below_set ?_ GE382.out | refine below_set ?_ GE389.out) | exact HB.out)); rintro e w52 ⟨rfl, hi, hb, hk⟩; refine ⟨_, rfl, ?_⟩; have n0_ := Aside0.mk (Kd.S_mono (Kd.S_keep (IsS96.apartS (show IsS96 w0 _ g s0_0 x1001_3 x1002_3 from by repeat (first | (with_reducible first | exact HI0.out | apply IsS96.alloc | apply IsS96.drewN | apply IsS96.drew | apply IsS96.set_1 | apply IsS96.set_2 | refine IsS96.far ?_ NB0_378.out _ | refine IsS96.far ?_ NB0_382.out _ | refine IsS96.far ?_ NB0_389.out _) | exact HI0.out)) (by (with_reducible repeat (first | apply Kd.S_alloc | apply Kd.S_drewN | apply Kd.S_drew)); exact HO_383001.out) (by decide)) hk (fun _ h => h.2)) (fun _ h => h.1)); have n1_ := Aside0.mk (Kd.R_mono (Kd.R_keep (IsS96.apart (show IsS96 w0 _ g s0_0 x1001_3 x1002_3 from by repeat (first | (with_reducible first | exact HI0.out | apply IsS96.alloc | apply IsS96.drewN | apply IsS96.drew | apply IsS96.set_1 | apply IsS96.set_2 | refine IsS96.far ?_ NB0_378.out _ | refine IsS96.far ?_ NB0_382.out _ | refine IsS96.far ?_ NB0_389.out _) | exact HI0.out)) (by (with_reducible repeat (first | apply Kd.R_alloc | apply Kd.R_drewN | apply Kd.R_drew)); exact HO_390001.out) (by decide)) hk (fun _ h => h.2)) (fun _ h => h.1)); have n2_ := Aside0.mk (Kd.R_mono (Kd.R_keep (IsS96.apart (show IsS96 w0 _ g s0_0 x1001_3 x1002_3 from by repeat (first | (with_reducible first | exact HI0.out | apply IsS96.alloc | apply IsS96.drewN | apply IsS96.drew | apply IsS96.set_1 | apply IsS96.set_2 | refine IsS96.far ?_ NB0_378.out _ | refine IsS96.far ?_ NB0_382.out _ | refine IsS96.far ?_ NB0_389.out _) | exact HI0.out)) (by (with_reducible repeat (first | apply Kd.R_alloc | apply Kd.R_drewN | apply Kd.R_drew)); exact HO_390002.out) (by decide)) hk (fun _ h => h.2)) (fun _ h => h.1)); have n3_ := Aside0.mk (KeepBut.blk hk (g' := gb378) (o := .cells #[.string x379000_3, .slice none 0 0] 31 (0, 0)) (by (with_reducible repeat (first | refine blk_drewN ?_ _ | refine blk_drew ?_ | refine blk_alloc ?_ _)); exact BK378.out) NB378_0.out (by simp)); have n4_ := Aside0.mk (KeepBut.blk hk (g' := gb382) (o := .cells #[.string t379, u383001] 31 (0, 0)) (by (with_reducible repeat (first | refine blk_drewN ?_ _ | refine blk_drew ?_ | refine blk_alloc ?_ _)); exact BK382.out) NB382_0.out (by simp)); have n5_ := Aside0.mk (KeepBut.blk hk (g' := gb389) (o := .cells #[.string t386, u390001, u390002] 84 (0, 0)) (by (with_reducible repeat (first | refine blk_drewN ?_ _ | refine blk_drew ?_ | refine blk_alloc ?_ _)); exact BK389.out) NB389_0.out (by simp)); have n6_ := Aside0.mk (KeepBut.trans (by repeat (first | (with_reducible first | exact HK.out | apply KeepBut.set_ | apply keep_drewN | apply keep_drew | apply keep_alloc | refine keep_far ?_ GW378.out _ | refine keep_far ?_ GW382.out _ | refine keep_far ?_ GW389.out _) | exact HK.out)) hk (.inl rfl)); have n7_ := Aside0.mk (hb); have n8_ := Aside0.mk (hi); clear HO_383001; clear HO_390001; clear HO_390002; clear BK378; clear BK382; clear BK389; clear HK; clear HB; clear HI0; have HO_383001 := n0_; have HO_390001 := n1_; have HO_390002 := n2_; have BK378 := n3_; have BK382 := n4_; have BK389 := n5_; have HK := n6_; have HB := n7_; have HI0 := n8_; clear n0_ n1_ n2_ n3_ n4_ n5_ n6_ n7_ n8_; (try clear hb); (try clear hb2); (try clear hk); (try clear hi); have hnb53 := NB389_378.out; have hnc53 := NB378_389.out; have hnb54 := NB389_382.out; have hnc54 := NB382_389.out; have hnb55 := NB389_0.out; have hnc55 := NB0_389.out; have hcz56_0 : w52.cell? ⟨gb389, 0, none⟩ = some (.string t386) := (blk_cell BK389.out 0).trans rfl; have hcz56_1 : w52.cell? ⟨gb389, 1, none⟩ = some (u390001) := (blk_cell BK389.out 1).trans rfl; have hcz56_2 : w52.cell? ⟨gb389, 2, none⟩ = some (u390002) := (blk_cell BK389.out 2).trans rfl; have hfz56_0 := blk_frozen BK389.out 0; have hfz56_1 := blk_frozen BK389.out 1; have hfz56_2 := blk_frozen BK389.out 2) | ((with_reducible refine gate_builtin (b := .append) (xs := #[.tmp 46, .tmp 49]) rfl ?_); at_builtin; refine Kd.R_append (Kd.int .i64) w.heap.size rfl (.tmp 46) (.tmp 49) 52 3 (.int .i64 0) 8 rfl Try.underlying52 info3 rfl (by decide) (by omega) u390002 x390002_3 (wrap64 (Int.tdiv (wrap64 (-(wrap64 (t405 + 1)))) 2)) [.int .i64 (wrap64 (Int.tdiv (wrap64 (-(wrap64 (t405 + 1)))) 2))] (fun _ => True) (fun _ => False) rfl rfl ?aP (fun _ hk => hk.elim) ?aF ?aO (Below.refl _ _) ?aS ?aL ?_; (case aP => exact rfl); (case aF => exact (fun _ _ => trivial)); (case aO => exact (by (with_reducible repeat (first | apply Kd.R_alloc | apply Kd.R_drewN | apply Kd.R_drew)); exact HO_390002.out)); (case aS => exact (keep_size (w := w) (g := g) (row := none) (by repeat (first | (with_reducible first | exact HK.out | apply KeepBut.set_ | apply keep_drewN | apply keep_drew | apply keep_alloc | refine keep_far ?_ GW378.out _ | refine keep_far ?_ GW382.out _ | refine keep_far ?_ GW389.out _) | exact HK.out)))); (case aL => have := LMc50.out; omega); intro v409 w57 ho hb hg hat; rw [← Ny408.out] at ho; have n0_ := Aside0.mk (Kd.S_after (ok := (fun k_ => some k_ ≠ (u390001 : Value).ownBlock ∧ k_ ≠ gb389)) (by (with_reducible repeat (first | apply Kd.S_alloc | apply Kd.S_drewN | apply Kd.S_drew)); exact Kd.S_mono HO_383001.out (fun _ hk => ⟨⟨hk.1, hk.2.2⟩, hk.2.1⟩)) hg hat); have n1_ := Aside0.mk (Kd.R_over' (by (with_reducible repeat (first | apply Kd.R_alloc | apply Kd.R_drewN | apply Kd.R_drew)); exact HO_390001.out) (Kd.R_typed (by (with_reducible repeat (first | apply Kd.R_alloc | apply Kd.R_drewN | apply Kd.R_drew)); exact HO_390002.out)) (by decide) hg); have n2_ := Aside0.mk (blk_grown (g := gb378) (o := .cells #[.string x379000_3, .slice none 0 0] 31 (0, 0)) (by (with_reducible repeat (first | refine blk_drewN ?_ _ | refine blk_drew ?_ | refine blk_alloc ?_ _)); exact BK378.out) hg (Kd.R_ne HO_390002.out BK378.out (by decide))); have n3_ := Aside0.mk (blk_grown (g := gb382) (o := .cells #[.string t379, u383001] 31 (0, 0)) (by (with_reducible repeat (first | refine blk_drewN ?_ _ | refine blk_drew ?_ | refine blk_alloc ?_ _)); exact BK382.out) hg (Kd.R_ne HO_390002.out BK382.out (by decide))); have n4_ := Aside0.mk (blk_grown (g := gb389) (o := .cells #[.string t386, u390001, u390002] 84 (0, 0)) (by (with_reducible repeat (first | refine blk_drewN ?_ _ | refine blk_drew ?_ | refine blk_alloc ?_ _)); exact BK389.out) hg (Kd.R_ne HO_390002.out BK389.out (by decide))); have n5_ := Aside0.mk (IsS96.grown (by repeat (first | (with_reducible first | exact HI0.out | apply IsS96.alloc | apply IsS96.drewN | apply IsS96.drew | apply IsS96.set_1 | apply IsS96.set_2 | refine IsS96.far ?_ NB0_378.out _ | refine IsS96.far ?_ NB0_382.out _ | refine IsS96.far ?_ NB0_389.out _) | exact HI0.out)) hg (IsS96.own_ne HI0.out HO_390002.out (by decide))); have n6_ := Aside0.mk (below_weaken (by repeat (first | (with_reducible first | exact HB.out | apply below_alloc | apply pw_below_drewN | apply below_drew1 | refine below_set ?_ (IsS96.ge HI0.out) | refine below_set ?_ GE378.out | refine below_set ?_ GE382.out | refine below_set ?_ GE389.out) | exact HB.out)) HL.out hb); have n7_ := Aside0.mk (KeepBut.trans (by repeat (first | (with_reducible first | exact HK.out | apply KeepBut.set_ | apply keep_drewN | apply keep_drew | apply keep_alloc | refine keep_far ?_ GW378.out _ | refine keep_far ?_ GW382.out _ | refine keep_far ?_ GW389.out _) | exact HK.out)) (KeepBut.of_grown hg g) (Kd.R_base2 HO_390002.out)); have n8_ := Aside0.mk (ho); clear HO_383001; clear HO_390001; clear BK378; clear BK382; clear BK389; clear HI0; clear HB; clear HK; clear HO_390002; have HO_383001 := n0_; have HO_390001 := n1_; have BK378 := n2_; have BK382 := n3_; have BK389 := n4_; have HI0 := n5_; have HB := n6_; have HK := n7_; have HO410 := n8_; clear n0_ n1_ n2_ n3_ n4_ n5_ n6_ n7_ n8_; clear ho hb hg hat; obtain ⟨Ao58, co58, eo58⟩ := Kd.R_slice HO410.out; subst eo58; have hcz59_0 : w57.cell? ⟨gb389, 0, none⟩ = some (.string t386) := (blk_cell BK389.out 0).trans rfl; have hcz59_1 : w57.cell? ⟨gb389, 1, none⟩ = some (u390001) := (blk_cell BK389.out 1).trans rfl; have hcz59_2 : w57.cell? ⟨gb389, 2, none⟩ = some (u390002) := (blk_cell BK389.out 2).trans rfl; have hfz59_0 := blk_frozen BK389.out 0; have hfz59_1 := blk_frozen BK389.out 1; have hfz59_2 := blk_frozen BK389.out 2; obtain ⟨ASz60_0, cSz60_0, HGz60, hgz60, HSz60_0, -⟩ := HI0.out; have hcz60_0 := cellS96_0 HGz60; have hcz60_1 := cellS96_1 HGz60; have hcz60_2 := cellS96_2 HGz60; have hfz60_1 := blk_frozen HGz60 1; have hfz60_2 := blk_frozen HGz60 2; clear HGz60 hgz60; have hnb61 := NB382_378.out; have hnc61 := NB378_382.out; have hnb62 := NB382_0.out; have hnc62 := NB0_382.out; have hcz63_0 : w57.cell? ⟨gb382, 0, none⟩ = some (.string t379) := (blk_cell BK382.out 0).trans rfl; have hcz63_1 : w57.cell? ⟨gb382, 1, none⟩ = some (u383001) := (blk_cell BK382.out 1).trans rfl; have hfz63_0 := blk_frozen BK382.out 0; have hfz63_1 := blk_frozen BK382.out 1; have hnb64 := NB378_0.out; have hnc64 := NB0_378.out; have hcz65_0 : w57.cell? ⟨gb378, 0, none⟩ = some (.string x379000_3) := (blk_cell BK378.out 0).trans rfl; have hcz65_1 : w57.cell? ⟨gb378, 1, none⟩ = some (.slice none 0 0) := (blk_cell BK378.out 1).trans rfl; have hfz65_0 := blk_frozen BK378.out 0; have hfz65_1 := blk_frozen BK378.out 1; obtain ⟨Ao66, co66, eo66⟩ := Kd.S_slice HO_383001.out; subst eo66))
                          refine bodyPost_ret (results_cell_row rfl _ _ gb378 31 #[.string t379, .slice Ao66 x383001_1.length co66] (0, 0) _ rfl (by (with_reducible repeat (first | refine blk_drewN ?_ _ | refine blk_drew ?_ | refine blk_alloc ?_ _)); refine blk_put (cs := #[.string t379, .slice none 0 0]) ?_ 1 _ rfl; (with_reducible repeat (first | refine blk_drewN ?_ _ | refine blk_drew ?_ | refine blk_alloc ?_ _)); refine blk_put (cs := #[.string x379000_3, .slice none 0 0]) ?_ 0 _ rfl; (with_reducible repeat (first | refine blk_drewN ?_ _ | refine blk_drew ?_ | refine blk_alloc ?_ _)); refine blk_far ?_ NB378_389.out _; (with_reducible repeat (first | refine blk_drewN ?_ _ | refine blk_drew ?_ | refine blk_alloc ?_ _)); exact BK378.out) Try.underlying31 rfl (by kernel_rfl)) rfl ?_
                          exact ⟨_, by first | rfl | (simp [errW_none, errW_some] <;> rfl) | (simp [*, errW_none, errW_some] <;> rfl), by (with_reducible repeat (first | apply Kd.S_alloc | apply Kd.S_drewN | apply Kd.S_drew)); exact Kd.S_mono (Kd.S_far (p := ⟨gb378, 1, none⟩) (Kd.S_far (p := ⟨gb378, 0, none⟩) (Kd.S_far (p := ⟨gb389, 2, none⟩) (Kd.S_types (Kd.S_mono HO_383001.out (fun k_ hk => (⟨hk, hk.1.2⟩ : _ ∧ k_ ≠ gb389))) BK378.out (by decide)) (fun _ hk => hk.1.2) (.slice Ao58 y408.length co58)) (fun _ hk => hk.2) (.string t379)) (fun _ hk => hk.2) (.slice Ao66 x383001_1.length co66)) (fun _ hk => trivial), by repeat (first | (with_reducible first | exact HI0.out | apply IsS96.alloc | apply IsS96.drewN | apply IsS96.drew | apply IsS96.set_1 | apply IsS96.set_2 | refine IsS96.far ?_ NB0_378.out _ | refine IsS96.far ?_ NB0_382.out _ | refine IsS96.far ?_ NB0_389.out _) | exact HI0.out), by repeat (first | (with_reducible first | exact HB.out | apply below_alloc | apply pw_below_drewN | apply below_drew1 | refine below_set ?_ (IsS96.ge HI0.out) | refine below_set ?_ GE378.out | refine below_set ?_ GE382.out | refine below_set ?_ GE389.out) | exact HB.out), by repeat (first | (with_reducible first | exact HK.out | apply KeepBut.set_ | apply keep_drewN | apply keep_drew | apply keep_alloc | refine keep_far ?_ GW378.out _ | refine keep_far ?_ GW382.out _ | refine keep_far ?_ GW389.out _) | exact HK.out)⟩
                        · replace c51 := Bool.eq_false_iff.mpr c51
                          subst c51
                          have H1 : (impl_docReader_doc.l2 k3 t383 x11_1 t399 (wrap64 (x35_3 + 1)) s0_0 t406 false t379 x383001_1 t386 x390001_2 y408) = some (r1, r2, r3, r4) := by rw [if_neg (show ¬ (false = true) by decide)] at H; exact H
                          clear H
                          have H := H1
                          clear H1
                          have H' := Aside0.mk H
                          clear H
                          go_wp2_with (first | ((with_reducible refine gate_callee (f := 100) rfl ?_); refine goesL_ (some 38) rfl rfl Try.func100 (by kernel_rfl) rfl #[.pointer (some ⟨g, 0, none⟩), .int .i64 2000000000000] rfl (by (try simp only [List.map_toArray, List.map_cons, List.map_nil]); first | done | rfl | (simp only [List.length_drop, List.length_take]; rfl)) ?_; (with_reducible refine (impl_docReader_int.calls k3 g s0_0 x1001_3 x1002_3 2000000000000 t405 t406 false w0 _ ?side1 ?side2 A48.out).mono ?_); (case side1 => repeat (first | (with_reducible first | exact HI0.out | apply IsS96.alloc | apply IsS96.drewN | apply IsS96.drew | apply IsS96.set_1 | apply IsS96.set_2 | refine IsS96.far ?_ NB0_378.out _ | refine IsS96.far ?_ NB0_382.out _ | refine IsS96.far ?_ NB0_389.out _) | exact HI0.out)); (case side2 => repeat (first | (with_reducible first | exact HB.out | apply below_alloc | apply pw_below_drewN | apply below_drew1 | refine below_set ?_ (IsS96.ge HI0.out) | refine below_set ?_ GE378.out | refine below_set ?_ GE382.out | refine below_set ?_ GE389.out) | exact HB.out)); rintro e w67 ⟨rfl, hi, hb, hk⟩; refine ⟨_, rfl, ?_⟩; have n0_ := Aside0.mk (Kd.S_mono (Kd.S_keep (IsS96.apartS (show IsS96 w0 _ g s0_0 x1001_3 x1002_3 from by repeat (first | (with_reducible first | exact HI0.out | apply IsS96.alloc | apply IsS96.drewN | apply IsS96.drew | apply IsS96.set_1 | apply IsS96.set_2 | refine IsS96.far ?_ NB0_378.out _ | refine IsS96.far ?_ NB0_382.out _ | refine IsS96.far ?_ NB0_389.out _) | exact HI0.out)) (by (with_reducible repeat (first | apply Kd.S_alloc | apply Kd.S_drewN | apply Kd.S_drew)); exact HO_383001.out) (by decide)) hk (fun _ h => h.2)) (fun _ h => h.1)); have n1_ := Aside0.mk (Kd.R_mono (Kd.R_keep (IsS96.apart (show IsS96 w0 _ g s0_0 x1001_3 x1002_3 from by repeat (first | (with_reducible first | exact HI0.out | apply IsS96.alloc | apply IsS96.drewN | apply IsS96.drew | apply IsS96.set_1 | apply IsS96.set_2 | refine IsS96.far ?_ NB0_378.out _ | refine IsS96.far ?_ NB0_382.out _ | refine IsS96.far ?_ NB0_389.out _) | exact HI0.out)) (by (with_reducible repeat (first | apply Kd.R_alloc | apply Kd.R_drewN | apply Kd.R_drew)); exact HO_390001.out) (by decide)) hk (fun _ h => h.2)) (fun _ h => h.1)); have n2_ := Aside0.mk (Kd.R_mono (Kd.R_keep (IsS96.apart (show IsS96 w0 _ g s0_0 x1001_3 x1002_3 from by repeat (first | (with_reducible first | exact HI0.out | apply IsS96.alloc | apply IsS96.drewN | apply IsS96.drew | apply IsS96.set_1 | apply IsS96.set_2 | refine IsS96.far ?_ NB0_378.out _ | refine IsS96.far ?_ NB0_382.out _ | refine IsS96.far ?_ NB0_389.out _) | exact HI0.out)) (by (with_reducible repeat (first | apply Kd.R_alloc | apply Kd.R_drewN | apply Kd.R_drew)); exact HO_390002.out) (by decide)) hk (fun _ h => h.2)) (fun _ h => h.1)); have n3_ := Aside0.mk (KeepBut.blk hk (g' := gb378) (o := .cells #[.string x379000_3, .slice none 0 0] 31 (0, 0)) (by (with_reducible repeat (first | refine blk_drewN ?_ _ | refine blk_drew ?_ | refine blk_alloc ?_ _)); exact BK378.out) NB378_0.out (by simp)); have n4_ := Aside0.mk (KeepBut.blk hk (g' := gb382) (o := .cells #[.string t379, u383001] 31 (0, 0)) (by (with_reducible repeat (first | refine blk_drewN ?_ _ | refine blk_drew ?_ | refine blk_alloc ?_ _)); exact BK382.out) NB382_0.out (by simp)); have n5_ := Aside0.mk (KeepBut.blk hk (g' := gb389) (o := .cells #[.string t386, u390001, u390002] 84 (0, 0)) (by (with_reducible repeat (first | refine blk_drewN ?_ _ | refine blk_drew ?_ | refine blk_alloc ?_ _)); exact BK389.out) NB389_0.out (by simp)); have n6_ := Aside0.mk (KeepBut.trans (by repeat (first | (with_reducible first | exact HK.out | apply KeepBut.set_ | apply keep_drewN | apply keep_drew | apply keep_alloc | refine keep_far ?_ GW378.out _ | refine keep_far ?_ GW382.out _ | refine keep_far ?_ GW389.out _) | exact HK.out)) hk (.inl rfl)); have n7_ := Aside0.mk (hb); have n8_ := Aside0.mk (hi); clear HO_383001; clear HO_390001; clear HO_390002; clear BK378; clear BK382; clear BK389; clear HK; clear HB; clear HI0; have HO_383001 := n0_; have HO_390001 := n1_; have HO_390002 := n2_; have BK378 := n3_; have BK382 := n4_; have BK389 := n5_; have HK := n6_; have HB := n7_; have HI0 := n8_; clear n0_ n1_ n2_ n3_ n4_ n5_ n6_ n7_ n8_; (try clear hb); (try clear hb2); (try clear hk); (try clear hi); have hnb68 := NB389_378.out; have hnc68 := NB378_389.out; have hnb69 := NB389_382.out; have hnc69 := NB382_389.out; have hnb70 := NB389_0.out; have hnc70 := NB0_389.out; have hcz71_0 : w67.cell? ⟨gb389, 0, none⟩ = some (.string t386) := (blk_cell BK389.out 0).trans rfl; have hcz71_1 : w67.cell? ⟨gb389, 1, none⟩ = some (u390001) := (blk_cell BK389.out 1).trans rfl; have hcz71_2 : w67.cell? ⟨gb389, 2, none⟩ = some (u390002) := (blk_cell BK389.out 2).trans rfl; have hfz71_0 := blk_frozen BK389.out 0; have hfz71_1 := blk_frozen BK389.out 1; have hfz71_2 := blk_frozen BK389.out 2) | ((with_reducible refine gate_builtin (b := .append) (xs := #[.tmp 46, .tmp 49]) rfl ?_); at_builtin; refine Kd.R_append (Kd.int .i64) w.heap.size rfl (.tmp 46) (.tmp 49) 52 3 (.int .i64 0) 8 rfl Try.underlying52 info3 rfl (by decide) (by omega) u390002 x390002_3 (wrap64 (Int.tdiv (wrap64 (-(wrap64 (t405 + 1)))) 2)) [.int .i64 (wrap64 (Int.tdiv (wrap64 (-(wrap64 (t405 + 1)))) 2))] (fun _ => True) (fun _ => False) rfl rfl ?aP (fun _ hk => hk.elim) ?aF ?aO (Below.refl _ _) ?aS ?aL ?_; (case aP => exact rfl); (case aF => exact (fun _ _ => trivial)); (case aO => exact (by (with_reducible repeat (first | apply Kd.R_alloc | apply Kd.R_drewN | apply Kd.R_drew)); exact HO_390002.out)); (case aS => exact (keep_size (w := w) (g := g) (row := none) (by repeat (first | (with_reducible first | exact HK.out | apply KeepBut.set_ | apply keep_drewN | apply keep_drew | apply keep_alloc | refine keep_far ?_ GW378.out _ | refine keep_far ?_ GW382.out _ | refine keep_far ?_ GW389.out _) | exact HK.out)))); (case aL => have := LMc50.out; omega); intro v409 w72 ho hb hg hat; rw [← Ny408.out] at ho; have n0_ := Aside0.mk (Kd.S_after (ok := (fun k_ => some k_ ≠ (u390001 : Value).ownBlock ∧ k_ ≠ gb389)) (by (with_reducible repeat (first | apply Kd.S_alloc | apply Kd.S_drewN | apply Kd.S_drew)); exact Kd.S_mono HO_383001.out (fun _ hk => ⟨⟨hk.1, hk.2.2⟩, hk.2.1⟩)) hg hat); have n1_ := Aside0.mk (Kd.R_over' (by (with_reducible repeat (first | apply Kd.R_alloc | apply Kd.R_drewN | apply Kd.R_drew)); exact HO_390001.out) (Kd.R_typed (by (with_reducible repeat (first | apply Kd.R_alloc | apply Kd.R_drewN | apply Kd.R_drew)); exact HO_390002.out)) (by decide) hg); have n2_ := Aside0.mk (blk_grown (g := gb378) (o := .cells #[.string x379000_3, .slice none 0 0] 31 (0, 0)) (by (with_reducible repeat (first | refine blk_drewN ?_ _ | refine blk_drew ?_ | refine blk_alloc ?_ _)); exact BK378.out) hg (Kd.R_ne HO_390002.out BK378.out (by decide))); have n3_ := Aside0.mk (blk_grown (g := gb382) (o := .cells #[.string t379, u383001] 31 (0, 0)) (by (with_reducible repeat (first | refine blk_drewN ?_ _ | refine blk_drew ?_ | refine blk_alloc ?_ _)); exact BK382.out) hg (Kd.R_ne HO_390002.out BK382.out (by decide))); have n4_ := Aside0.mk (blk_grown (g := gb389) (o := .cells #[.string t386, u390001, u390002] 84 (0, 0)) (by (with_reducible repeat (first | refine blk_drewN ?_ _ | refine blk_drew ?_ | refine blk_alloc ?_ _)); exact BK389.out) hg (Kd.R_ne HO_390002.out BK389.out (by decide))); have n5_ := Aside0.mk (IsS96.grown (by repeat (first | (with_reducible first | exact HI0.out | apply IsS96.alloc | apply IsS96.drewN | apply IsS96.drew | apply IsS96.set_1 | apply IsS96.set_2 | refine IsS96.far ?_ NB0_378.out _ | refine IsS96.far ?_ NB0_382.out _ | refine IsS96.far ?_ NB0_389.out _) | exact HI0.out)) hg (IsS96.own_ne HI0.out HO_390002.out (by decide))); have n6_ := Aside0.mk (below_weaken (by repeat (first | (with_reducible first | exact HB.out | apply below_alloc | apply pw_below_drewN | apply below_drew1 | refine below_set ?_ (IsS96.ge HI0.out) | refine below_set ?_ GE378.out | refine below_set ?_ GE382.out | refine below_set ?_ GE389.out) | exact HB.out)) HL.out hb); have n7_ := Aside0.mk (KeepBut.trans (by repeat (first | (with_reducible first | exact HK.out | apply KeepBut.set_ | apply keep_drewN | apply keep_drew | apply keep_alloc | refine keep_far ?_ GW378.out _ | refine keep_far ?_ GW382.out _ | refine keep_far ?_ GW389.out _) | exact HK.out)) (KeepBut.of_grown hg g) (Kd.R_base2 HO_390002.out)); have n8_ := Aside0.mk (ho); clear HO_383001; clear HO_390001; clear BK378; clear BK382; clear BK389; clear HI0; clear HB; clear HK; clear HO_390002; have HO_383001 := n0_; have HO_390001 := n1_; have BK378 := n2_; have BK382 := n3_; have BK389 := n4_; have HI0 := n5_; have HB := n6_; have HK := n7_; have HO410 := n8_; clear n0_ n1_ n2_ n3_ n4_ n5_ n6_ n7_ n8_; clear ho hb hg hat; obtain ⟨Ao73, co73, eo73⟩ := Kd.R_slice HO410.out; subst eo73; have hcz74_0 : w72.cell? ⟨gb389, 0, none⟩ = some (.string t386) := (blk_cell BK389.out 0).trans rfl; have hcz74_1 : w72.cell? ⟨gb389, 1, none⟩ = some (u390001) := (blk_cell BK389.out 1).trans rfl; have hcz74_2 : w72.cell? ⟨gb389, 2, none⟩ = some (u390002) := (blk_cell BK389.out 2).trans rfl; have hfz74_0 := blk_frozen BK389.out 0; have hfz74_1 := blk_frozen BK389.out 1; have hfz74_2 := blk_frozen BK389.out 2; obtain ⟨ASz75_0, cSz75_0, HGz75, hgz75, HSz75_0, -⟩ := HI0.out; have hcz75_0 := cellS96_0 HGz75; have hcz75_1 := cellS96_1 HGz75; have hcz75_2 := cellS96_2 HGz75; have hfz75_1 := blk_frozen HGz75 1; have hfz75_2 := blk_frozen HGz75 2; clear HGz75 hgz75))
                          go_roundg k3
                          case measure => have := HK1.out; have := HK2.out; have := HK3.out; omega
                          case rel => exact ⟨(wrap64 (x35_3 + 1)), (t406), (false), (x379000_3), (y408), (.slice Ao73 y408.length co73), (by first | rfl | (simp; done) | (simp [*]; done)), H', ⟨by have := HK1.out; have := HK2.out; have := HK3.out; omega⟩, ⟨by (with_reducible repeat (first | apply Kd.S_alloc | apply Kd.S_drewN | apply Kd.S_drew)); exact Kd.S_mono (Kd.S_far (p := ⟨gb389, 2, none⟩) (Kd.S_mono HO_383001.out (fun k_ hk => (⟨hk, hk.1.2⟩ : _ ∧ k_ ≠ gb389))) (fun _ hk => hk.2) (.slice Ao73 y408.length co73)) (fun _ hk => ⟨hk.1.1.1, ⟨hk.1.2, hk.1.1.2⟩⟩)⟩, ⟨by (with_reducible repeat (first | apply Kd.R_alloc | apply Kd.R_drewN | apply Kd.R_drew)); exact Kd.R_mono (Kd.R_far (p := ⟨gb389, 2, none⟩) (Kd.R_types HO_390001.out BK389.out (by decide)) (fun _ hk => hk.2) (.slice Ao73 y408.length co73)) (fun _ hk => trivial)⟩, ⟨by (with_reducible repeat (first | apply Kd.R_alloc | apply Kd.R_drewN | apply Kd.R_drew)); exact Kd.R_mono (Kd.R_far (p := ⟨gb389, 2, none⟩) (Kd.R_types HO410.out BK389.out (by decide)) (fun _ hk => hk.2) (.slice Ao73 y408.length co73)) (fun _ hk => trivial)⟩, ⟨by (with_reducible repeat (first | refine blk_drewN ?_ _ | refine blk_drew ?_ | refine blk_alloc ?_ _)); refine blk_far ?_ NB378_389.out _; (with_reducible repeat (first | refine blk_drewN ?_ _ | refine blk_drew ?_ | refine blk_alloc ?_ _)); exact BK378.out⟩, ⟨by (with_reducible repeat (first | refine blk_drewN ?_ _ | refine blk_drew ?_ | refine blk_alloc ?_ _)); refine blk_far ?_ NB382_389.out _; (with_reducible repeat (first | refine blk_drewN ?_ _ | refine blk_drew ?_ | refine blk_alloc ?_ _)); exact BK382.out⟩, ⟨by (with_reducible repeat (first | refine blk_drewN ?_ _ | refine blk_drew ?_ | refine blk_alloc ?_ _)); refine blk_put (cs := #[.string t386, u390001, u390002]) ?_ 2 _ rfl; (with_reducible repeat (first | refine blk_drewN ?_ _ | refine blk_drew ?_ | refine blk_alloc ?_ _)); exact BK389.out⟩, ⟨by repeat (first | (with_reducible first | exact HI0.out | apply IsS96.alloc | apply IsS96.drewN | apply IsS96.drew | apply IsS96.set_1 | apply IsS96.set_2 | refine IsS96.far ?_ NB0_378.out _ | refine IsS96.far ?_ NB0_382.out _ | refine IsS96.far ?_ NB0_389.out _) | exact HI0.out)⟩, ⟨by repeat (first | (with_reducible first | exact HK.out | apply KeepBut.set_ | apply keep_drewN | apply keep_drew | apply keep_alloc | refine keep_far ?_ GW378.out _ | refine keep_far ?_ GW382.out _ | refine keep_far ?_ GW389.out _) | exact HK.out)⟩, ⟨by repeat (first | (with_reducible first | exact HB.out | apply below_alloc | apply pw_below_drewN | apply below_drew1 | refine below_set ?_ (IsS96.ge HI0.out) | refine below_set ?_ GE378.out | refine below_set ?_ GE382.out | refine below_set ?_ GE389.out) | exact HB.out)⟩⟩
                      · rw [if_neg c50] at H
                        exact absurd H (by simp)
                    · rw [if_neg c49] at H
                      have c49b0 : ((Int.tmod t405 2) == 1) = false := beq_eq_false_iff_ne.mpr c49
                      have c49b1 : ((Int.tmod t405 2) != 1) = true := bne_iff_ne.mpr c49
                      by_cases c76 : x390002_3.length < 17592186044416
                      · rw [if_pos c76] at H
                        have LMc76 := Aside0.mk c76
                        clear c76
                        obtain ⟨y411, hy411⟩ : ∃ y_ : List Int, y_ = (x390002_3 ++ [wrap64 (Int.tdiv t405 2)]) := ⟨_, rfl⟩
                        replace H : (if t407 = true then (some (t379, x383001_1, t406, t407)) else (impl_docReader_doc.l2 k3 t383 x11_1 t399 (wrap64 (x35_3 + 1)) s0_0 t406 t407 t379 x383001_1 t386 x390001_2 y411)) = some (r1, r2, r3, r4) := by first | (rw [hy411]; with_reducible exact H) | (have H2_ := (Option.bind_some _ _).symm.trans H; rw [hy411]; with_reducible exact H2_) | (have H2_ := (Option.bind_some _ _).symm.trans H; with_reducible exact H2_) | with_reducible exact H | (rw [hy411]; exact H) | exact H
                        have Ny411 := Aside0.mk hy411
                        clear hy411
                        by_cases c77 : t407 = true
                        · subst c77
                          have H1 : (some (t379, x383001_1, t406, true)) = some (r1, r2, r3, r4) := by rw [if_pos rfl] at H; exact H
                          clear H
                          have H := H1
                          clear H1
                          simp only [Option.some.injEq, Prod.mk.injEq] at H
                          obtain ⟨rfl, rfl, rfl, rfl⟩ := H
                          go_wp2_with (first | ((with_reducible refine gate_callee (f := 100) rfl ?_); refine goesL_ (some 38) rfl rfl Try.func100 (by kernel_rfl) rfl #[.pointer (some ⟨g, 0, none⟩), .int .i64 2000000000000] rfl (by (try simp only [List.map_toArray, List.map_cons, List.map_nil]); first | done | rfl | (simp only [List.length_drop, List.length_take]; rfl)) ?_; (with_reducible refine (impl_docReader_int.calls k3 g s0_0 x1001_3 x1002_3 2000000000000 t405 t406 true w0 _ ?side1 ?side2 A48.out).mono ?_); (case side1 => repeat (first | (with_reducible first | exact HI0.out | apply IsS96.alloc | apply IsS96.drewN | apply IsS96.drew | apply IsS96.set_1 | apply IsS96.set_2 | refine IsS96.far ?_ NB0_378.out _ | refine IsS96.far ?_ NB0_382.out _ | refine IsS96.far ?_ NB0_389.out _) | exact HI0.out)); (case side2 => repeat (first | (with_reducible first | exact HB.out | apply below_alloc | apply pw_below_drewN | apply below_drew1 | refine below_set ?_ (IsS96.ge HI0.out) | refine below_set ?_ GE378.out | refine below_set ?_ GE382.out | refine below_set ?_ GE389.out) | exact HB.out)); rintro e w78 ⟨rfl, hi, hb, hk⟩; refine ⟨_, rfl, ?_⟩; have n0_ := Aside0.mk (Kd.S_mono (Kd.S_keep (IsS96.apartS (show IsS96 w0 _ g s0_0 x1001_3 x1002_3 from by repeat (first | (with_reducible first | exact HI0.out | apply IsS96.alloc | apply IsS96.drewN | apply IsS96.drew | apply IsS96.set_1 | apply IsS96.set_2 | refine IsS96.far ?_ NB0_378.out _ | refine IsS96.far ?_ NB0_382.out _ | refine IsS96.far ?_ NB0_389.out _) | exact HI0.out)) (by (with_reducible repeat (first | apply Kd.S_alloc | apply Kd.S_drewN | apply Kd.S_drew)); exact HO_383001.out) (by decide)) hk (fun _ h => h.2)) (fun _ h => h.1)); have n1_ := Aside0.mk (Kd.R_mono (Kd.R_keep (IsS96.apart (show IsS96 w0 _ g s0_0 x1001_3 x1002_3 from by repeat (first | (with_reducible first | exact HI0.out | apply IsS96.alloc | apply IsS96.drewN | apply IsS96.drew | apply IsS96.set_1 | apply IsS96.set_2 | refine IsS96.far ?_ NB0_378.out _ | refine IsS96.far ?_ NB0_382.out _ | refine IsS96.far ?_ NB0_389.out _) | exact HI0.out)) (by (with_reducible repeat (first | apply Kd.R_alloc | apply Kd.R_drewN | apply Kd.R_drew)); exact HO_390001.out) (by decide)) hk (fun _ h => h.2)) (fun _ h => h.1)); have n2_ := Aside0.mk (Kd.R_mono (Kd.R_keep (IsS96.apart (show IsS96 w0 _ g s0_0 x1001_3 x1002_3 from by repeat (first | (with_reducible first | exact HI0.out | apply IsS96.alloc | apply IsS96.drewN | apply IsS96.drew | apply IsS96.set_1 | apply IsS96.set_2 | refine IsS96.far ?_ NB0_378.out _ | refine IsS96.far ?_ NB0_382.out _ | refine IsS96.far ?_ NB0_389.out _) | exact HI0.out)) (by (with_reducible repeat (first | apply Kd.R_alloc | apply Kd.R_drewN | apply Kd.R_drew)); exact HO_390002.out) (by decide)) hk (fun _ h => h.2)) (fun _ h => h.1)); have n3_ := Aside0.mk (KeepBut.blk hk (g' := gb378) (o := .cells #[.string x379000_3, .slice none 0 0] 31 (0, 0)) (by (with_reducible repeat (first | refine blk_drewN ?_ _ | refine blk_drew ?_ | refine blk_alloc ?_ _)); exact BK378.out) NB378_0.out (by simp)); have n4_ := Aside0.mk (KeepBut.blk hk (g' := gb382) (o := .cells #[.string t379, u383001] 31 (0, 0)) (by (with_reducible repeat (first | refine blk_drewN ?_ _ | refine blk_drew ?_ | refine blk_alloc ?_ _)); exact BK382.out) NB382_0.out (by simp)); have n5_ := Aside0.mk (KeepBut.blk hk (g' := gb389) (o := .cells #[.string t386, u390001, u390002] 84 (0, 0)) (by (with_reducible repeat (first | refine blk_drewN ?_ _ | refine blk_drew ?_ | refine blk_alloc ?_ _)); exact BK389.out) NB389_0.out (by simp)); have n6_ := Aside0.mk (KeepBut.trans (by repeat (first | (with_reducible first | exact HK.out | apply KeepBut.set_ | apply keep_drewN | apply keep_drew | apply keep_alloc | refine keep_far ?_ GW378.out _ | refine keep_far ?_ GW382.out _ | refine keep_far ?_ GW389.out _) | exact HK.out)) hk (.inl rfl)); have n7_ := Aside0.mk (hb); have n8_ := Aside0.mk (hi); clear HO_383001; clear HO_390001; clear HO_390002; clear BK378; clear BK382; clear BK389; clear HK; clear HB; clear HI0; have HO_383001 := n0_; have HO_390001 := n1_; have HO_390002 := n2_; have BK378 := n3_; have BK382 := n4_; have BK389 := n5_; have HK := n6_; have HB := n7_; have HI0 := n8_; clear n0_ n1_ n2_ n3_ n4_ n5_ n6_ n7_ n8_; (try clear hb); (try clear hb2); (try clear hk); (try clear hi); have hnb79 := NB389_378.out; have hnc79 := NB378_389.out; have hnb80 := NB389_382.out; have hnc80 := NB382_389.out; have hnb81 := NB389_0.out; have hnc81 := NB0_389.out; have hcz82_0 : w78.cell? ⟨gb389, 0, none⟩ = some (.string t386) := (blk_cell BK389.out 0).trans rfl; have hcz82_1 : w78.cell? ⟨gb389, 1, none⟩ = some (u390001) := (blk_cell BK389.out 1).trans rfl; have hcz82_2 : w78.cell? ⟨gb389, 2, none⟩ = some (u390002) := (blk_cell BK389.out 2).trans rfl; have hfz82_0 := blk_frozen BK389.out 0; have hfz82_1 := blk_frozen BK389.out 1; have hfz82_2 := blk_frozen BK389.out 2) | ((with_reducible refine gate_builtin (b := .append) (xs := #[.tmp 46, .tmp 49]) rfl ?_); at_builtin; refine Kd.R_append (Kd.int .i64) w.heap.size rfl (.tmp 46) (.tmp 49) 52 3 (.int .i64 0) 8 rfl Try.underlying52 info3 rfl (by decide) (by omega) u390002 x390002_3 (wrap64 (Int.tdiv t405 2)) [.int .i64 (wrap64 (Int.tdiv t405 2))] (fun _ => True) (fun _ => False) rfl rfl ?aP (fun _ hk => hk.elim) ?aF ?aO (Below.refl _ _) ?aS ?aL ?_; (case aP => exact rfl); (case aF => exact (fun _ _ => trivial)); (case aO => exact (by (with_reducible repeat (first | apply Kd.R_alloc | apply Kd.R_drewN | apply Kd.R_drew)); exact HO_390002.out)); (case aS => exact (keep_size (w := w) (g := g) (row := none) (by repeat (first | (with_reducible first | exact HK.out | apply KeepBut.set_ | apply keep_drewN | apply keep_drew | apply keep_alloc | refine keep_far ?_ GW378.out _ | refine keep_far ?_ GW382.out _ | refine keep_far ?_ GW389.out _) | exact HK.out)))); (case aL => have := LMc76.out; omega); intro v412 w83 ho hb hg hat; rw [← Ny411.out] at ho; have n0_ := Aside0.mk (Kd.S_after (ok := (fun k_ => some k_ ≠ (u390001 : Value).ownBlock ∧ k_ ≠ gb389)) (by (with_reducible repeat (first | apply Kd.S_alloc | apply Kd.S_drewN | apply Kd.S_drew)); exact Kd.S_mono HO_383001.out (fun _ hk => ⟨⟨hk.1, hk.2.2⟩, hk.2.1⟩)) hg hat); have n1_ := Aside0.mk (Kd.R_over' (by (with_reducible repeat (first | apply Kd.R_alloc | apply Kd.R_drewN | apply Kd.R_drew)); exact HO_390001.out) (Kd.R_typed (by (with_reducible repeat (first | apply Kd.R_alloc | apply Kd.R_drewN | apply Kd.R_drew)); exact HO_390002.out)) (by decide) hg); have n2_ := Aside0.mk (blk_grown (g := gb378) (o := .cells #[.string x379000_3, .slice none 0 0] 31 (0, 0)) (by (with_reducible repeat (first | refine blk_drewN ?_ _ | refine blk_drew ?_ | refine blk_alloc ?_ _)); exact BK378.out) hg (Kd.R_ne HO_390002.out BK378.out (by decide))); have n3_ := Aside0.mk (blk_grown (g := gb382) (o := .cells #[.string t379, u383001] 31 (0, 0)) (by (with_reducible repeat (first | refine blk_drewN ?_ _ | refine blk_drew ?_ | refine blk_alloc ?_ _)); exact BK382.out) hg (Kd.R_ne HO_390002.out BK382.out (by decide))); have n4_ := Aside0.mk (blk_grown (g := gb389) (o := .cells #[.string t386, u390001, u390002] 84 (0, 0)) (by (with_reducible repeat (first | refine blk_drewN ?_ _ | refine blk_drew ?_ | refine blk_alloc ?_ _)); exact BK389.out) hg (Kd.R_ne HO_390002.out BK389.out (by decide))); have n5_ := Aside0.mk (IsS96.grown (by repeat (first | (with_reducible first | exact HI0.out | apply IsS96.alloc | apply IsS96.drewN | apply IsS96.drew | apply IsS96.set_1 | apply IsS96.set_2 | refine IsS96.far ?_ NB0_378.out _ | refine IsS96.far ?_ NB0_382.out _ | refine IsS96.far ?_ NB0_389.out _) | exact HI0.out)) hg (IsS96.own_ne HI0.out HO_390002.out (by decide))); have n6_ := Aside0.mk (below_weaken (by repeat (first | (with_reducible first | exact HB.out | apply below_alloc | apply pw_below_drewN | apply below_drew1 | refine below_set ?_ (IsS96.ge HI0.out) | refine below_set ?_ GE378.out | refine below_set ?_ GE382.out | refine below_set ?_ GE389.out) | exact HB.out)) HL.out hb); have n7_ := Aside0.mk (KeepBut.trans (by repeat (first | (with_reducible first | exact HK.out | apply KeepBut.set_ | apply keep_drewN | apply keep_drew | apply keep_alloc | refine keep_far ?_ GW378.out _ | refine keep_far ?_ GW382.out _ | refine keep_far ?_ GW389.out _) | exact HK.out)) (KeepBut.of_grown hg g) (Kd.R_base2 HO_390002.out)); have n8_ := Aside0.mk (ho); clear HO_383001; clear HO_390001; clear BK378; clear BK382; clear BK389; clear HI0; clear HB; clear HK; clear HO_390002; have HO_383001 := n0_; have HO_390001 := n1_; have BK378 := n2_; have BK382 := n3_; have BK389 := n4_; have HI0 := n5_; have HB := n6_; have HK := n7_; have HO413 := n8_; clear n0_ n1_ n2_ n3_ n4_ n5_ n6_ n7_ n8_; clear ho hb hg hat; obtain ⟨Ao84, co84, eo84⟩ := Kd.R_slice HO413.out; subst eo84; have hcz85_0 : w83.cell? ⟨gb389, 0, none⟩ = some (.string t386) := (blk_cell BK389.out 0).trans rfl; have hcz85_1 : w83.cell? ⟨gb389, 1, none⟩ = some (u390001) := (blk_cell BK389.out 1).trans rfl; have hcz85_2 : w83.cell? ⟨gb389, 2, none⟩ = some (u390002) := (blk_cell BK389.out 2).trans rfl; have hfz85_0 := blk_frozen BK389.out 0; have hfz85_1 := blk_frozen BK389.out 1; have hfz85_2 := blk_frozen BK389.out 2; obtain ⟨ASz86_0, cSz86_0, HGz86, hgz86, HSz86_0, -⟩ := HI0.out; have hcz86_0 := cellS96_0 HGz86; have hcz86_1 := cellS96_1 HGz86; have hcz86_2 := cellS96_2 HGz86; have hfz86_1 := blk_frozen HGz86 1; have hfz86_2 := blk_frozen HGz86 2; clear HGz86 hgz86; have hnb87 := NB382_378.out; have hnc87 := NB378_382.out; have hnb88 := NB382_0.out; have hnc88 := NB0_382.out; have hcz89_0 : w83.cell? ⟨gb382, 0, none⟩ = some (.string t379) := (blk_cell BK382.out 0).trans rfl; have hcz89_1 : w83.cell? ⟨gb382, 1, none⟩ = some (u383001) := (blk_cell BK382.out 1).trans rfl; have hfz89_0 := blk_frozen BK382.out 0; have hfz89_1 := blk_frozen BK382.out 1; have hnb90 := NB378_0.out; have hnc90 := NB0_378.out; have hcz91_0 : w83.cell? ⟨gb378, 0, none⟩ = some (.string x379000_3) := (blk_cell BK378.out 0).trans rfl; have hcz91_1 : w83.cell? ⟨gb378, 1, none⟩ = some (.slice none 0 0) := (blk_cell BK378.out 1).trans rfl; have hfz91_0 := blk_frozen BK378.out 0; have hfz91_1 := blk_frozen BK378.out 1; obtain ⟨Ao92, co92, eo92⟩ := Kd.S_slice HO_383001.out; subst eo92))
                          refine bodyPost_ret (results_cell_row rfl _ _ gb378 31 #[.string t379, .slice Ao92 x383001_1.length co92] (0, 0) _ rfl (by (with_reducible repeat (first | refine blk_drewN ?_ _ | refine blk_drew ?_ | refine blk_alloc ?_ _)); refine blk_put (cs := #[.string t379, .slice none 0 0]) ?_ 1 _ rfl; (with_reducible repeat (first | refine blk_drewN ?_ _ | refine blk_drew ?_ | refine blk_alloc ?_ _)); refine blk_put (cs := #[.string x379000_3, .slice none 0 0]) ?_ 0 _ rfl; (with_reducible repeat (first | refine blk_drewN ?_ _ | refine blk_drew ?_ | refine blk_alloc ?_ _)); refine blk_far ?_ NB378_389.out _; (with_reducible repeat (first | refine blk_drewN ?_ _ | refine blk_drew ?_ | refine blk_alloc ?_ _)); exact BK378.out) Try.underlying31 rfl (by kernel_rfl)) rfl ?_
                          exact ⟨_, by first | rfl | (simp [errW_none, errW_some] <;> rfl) | (simp [*, errW_none, errW_some] <;> rfl), by (with_reducible repeat (first | apply Kd.S_alloc | apply Kd.S_drewN | apply Kd.S_drew)); exact Kd.S_mono (Kd.S_far (p := ⟨gb378, 1, none⟩) (Kd.S_far (p := ⟨gb378, 0, none⟩) (Kd.S_far (p := ⟨gb389, 2, none⟩) (Kd.S_types (Kd.S_mono HO_383001.out (fun k_ hk => (⟨hk, hk.1.2⟩ : _ ∧ k_ ≠ gb389))) BK378.out (by decide)) (fun _ hk => hk.1.2) (.slice Ao84 y411.length co84)) (fun _ hk => hk.2) (.string t379)) (fun _ hk => hk.2) (.slice Ao92 x383001_1.length co92)) (fun _ hk => trivial), by repeat (first | (with_reducible first | exact HI0.out | apply IsS96.alloc | apply IsS96.drewN | apply IsS96.drew | apply IsS96.set_1 | apply IsS96.set_2 | refine IsS96.far ?_ NB0_378.out _ | refine IsS96.far ?_ NB0_382.out _ | refine IsS96.far ?_ NB0_389.out _) | exact HI0.out), by repeat (first | (with_reducible first | exact HB.out | apply below_alloc | apply pw_below_drewN | apply below_drew1 | refine below_set ?_ (IsS96.ge HI0.out) | refine below_set ?_ GE378.out | refine below_set ?_ GE382.out | refine below_set ?_ GE389.out) | exact HB.out), by repeat (first | (with_reducible first | exact HK.out | apply KeepBut.set_ | apply keep_drewN | apply keep_drew | apply keep_alloc | refine keep_far ?_ GW378.out _ | refine keep_far ?_ GW382.out _ | refine keep_far ?_ GW389.out _) | exact HK.out)⟩
                        · replace c77 := Bool.eq_false_iff.mpr c77
                          subst c77
                          have H1 : (impl_docReader_doc.l2 k3 t383 x11_1 t399 (wrap64 (x35_3 + 1)) s0_0 t406 false t379 x383001_1 t386 x390001_2 y411) = some (r1, r2, r3, r4) := by rw [if_neg (show ¬ (false = true) by decide)] at H; exact H
                          clear H
                          have H := H1
                          clear H1
                          have H' := Aside0.mk H
                          clear H
                          go_wp2_with (first | ((with_reducible refine gate_callee (f := 100) rfl ?_); refine goesL_ (some 38) rfl rfl Try.func100 (by kernel_rfl) rfl #[.pointer (some ⟨g, 0, none⟩), .int .i64 2000000000000] rfl (by (try simp only [List.map_toArray, List.map_cons, List.map_nil]); first | done | rfl | (simp only [List.length_drop, List.length_take]; rfl)) ?_; (with_reducible refine (impl_docReader_int.calls k3 g s0_0 x1001_3 x1002_3 2000000000000 t405 t406 false w0 _ ?side1 ?side2 A48.out).mono ?_); (case side1 => repeat (first | (with_reducible first | exact HI0.out | apply IsS96.alloc | apply IsS96.drewN | apply IsS96.drew | apply IsS96.set_1 | apply IsS96.set_2 | refine IsS96.far ?_ NB0_378.out _ | refine IsS96.far ?_ NB0_382.out _ | refine IsS96.far ?_ NB0_389.out _) | exact HI0.out)); (case side2 => repeat (first | (with_reducible first | exact HB.out | apply below_alloc | apply pw_below_drewN | apply below_drew1 | refine below_set ?_ (IsS96.ge HI0.out) | refine below_set ?_ GE378.out | refine below_set ?_ GE382.out | refine below_set ?_ GE389.out) | exact HB.out)); rintro e w93 ⟨rfl, hi, hb, hk⟩; refine ⟨_, rfl, ?_⟩; have n0_ := Aside0.mk (Kd.S_mono (Kd.S_keep (IsS96.apartS (show IsS96 w0 _ g s0_0 x1001_3 x1002_3 from by repeat (first | (with_reducible first | exact HI0.out | apply IsS96.alloc | apply IsS96.drewN | apply IsS96.drew | apply IsS96.set_1 | apply IsS96.set_2 | refine IsS96.far ?_ NB0_378.out _ | refine IsS96.far ?_ NB0_382.out _ | refine IsS96.far ?_ NB0_389.out _) | exact HI0.out)) (by (with_reducible repeat (first | apply Kd.S_alloc | apply Kd.S_drewN | apply Kd.S_drew)); exact HO_383001.out) (by decide)) hk (fun _ h => h.2)) (fun _ h => h.1)); have n1_ := Aside0.mk (Kd.R_mono (Kd.R_keep (IsS96.apart (show IsS96 w0 _ g s0_0 x1001_3 x1002_3 from by repeat (first | (with_reducible first | exact HI0.out | apply IsS96.alloc | apply IsS96.drewN | apply IsS96.drew | apply IsS96.set_1 | apply IsS96.set_2 | refine IsS96.far ?_ NB0_378.out _ | refine IsS96.far ?_ NB0_382.out _ | refine IsS96.far ?_ NB0_389.out _) | exact HI0.out)) (by (with_reducible repeat (first | apply Kd.R_alloc | apply Kd.R_drewN | apply Kd.R_drew)); exact HO_390001.out) (by decide)) hk (fun _ h => h.2)) (fun _ h => h.1)); have n2_ := Aside0.mk (Kd.R_mono (Kd.R_keep (IsS96.apart (show IsS96 w0 _ g s0_0 x1001_3 x1002_3 from by repeat (first | (with_reducible first | exact HI0.out | apply IsS96.alloc | apply IsS96.drewN | apply IsS96.drew | apply IsS96.set_1 | apply IsS96.set_2 | refine IsS96.far ?_ NB0_378.out _ | refine IsS96.far ?_ NB0_382.out _ | refine IsS96.far ?_ NB0_389.out _) | exact HI0.out)) (by (with_reducible repeat (first | apply Kd.R_alloc | apply Kd.R_drewN | apply Kd.R_drew)); exact HO_390002.out) (by decide)) hk (fun _ h => h.2)) (fun _ h => h.1)); have n3_ := Aside0.mk (KeepBut.blk hk (g' := gb378) (o := .cells #[.string x379000_3, .slice none 0 0] 31 (0, 0)) (by (with_reducible repeat (first | refine blk_drewN ?_ _ | refine blk_drew ?_ | refine blk_alloc ?_ _)); exact BK378.out) NB378_0.out (by simp)); have n4_ := Aside0.mk (KeepBut.blk hk (g' := gb382) (o := .cells #[.string t379, u383001] 31 (0, 0)) (by (with_reducible repeat (first | refine blk_drewN ?_ _ | refine blk_drew ?_ | refine blk_alloc ?_ _)); exact BK382.out) NB382_0.out (by simp)); have n5_ := Aside0.mk (KeepBut.blk hk (g' := gb389) (o := .cells #[.string t386, u390001, u390002] 84 (0, 0)) (by (with_reducible repeat (first | refine blk_drewN ?_ _ | refine blk_drew ?_ | refine blk_alloc ?_ _)); exact BK389.out) NB389_0.out (by simp)); have n6_ := Aside0.mk (KeepBut.trans (by repeat (first | (with_reducible first | exact HK.out | apply KeepBut.set_ | apply keep_drewN | apply keep_drew | apply keep_alloc | refine keep_far ?_ GW378.out _ | refine keep_far ?_ GW382.out _ | refine keep_far ?_ GW389.out _) | exact HK.out)) hk (.inl rfl)); have n7_ := Aside0.mk (hb); have n8_ := Aside0.mk (hi); clear HO_383001; clear HO_390001; clear HO_390002; clear BK378; clear BK382; clear BK389; clear HK; clear HB; clear HI0; have HO_383001 := n0_; have HO_390001 := n1_; have HO_390002 := n2_; have BK378 := n3_; have BK382 := n4_; have BK389 := n5_; have HK := n6_; have HB := n7_; have HI0 := n8_; clear n0_ n1_ n2_ n3_ n4_ n5_ n6_ n7_ n8_; (try clear hb); (try clear hb2); (try clear hk); (try clear hi); have hnb94 := NB389_378.out; have hnc94 := NB378_389.out; have hnb95 := NB389_382.out; have hnc95 := NB382_389.out; have hnb96 := NB389_0.out; have hnc96 := NB0_389.out; have hcz97_0 : w93.cell? ⟨gb389, 0, none⟩ = some (.string t386) := (blk_cell BK389.out 0).trans rfl; have hcz97_1 : w93.cell? ⟨gb389, 1, none⟩ = some (u390001) := (blk_cell BK389.out 1).trans rfl; have hcz97_2 : w93.cell? ⟨gb389, 2, none⟩ = some (u390002) := (blk_cell BK389.out 2).trans rfl; have hfz97_0 := blk_frozen BK389.out 0; have hfz97_1 := blk_frozen BK389.out 1; have hfz97_2 := blk_frozen BK389.out 2) | ((with_reducible refine gate_builtin (b := .append) (xs := #[.tmp 46, .tmp 49]) rfl ?_); at_builtin; refine Kd.R_append (Kd.int .i64) w.heap.size rfl (.tmp 46) (.tmp 49) 52 3 (.int .i64 0) 8 rfl Try.underlying52 info3 rfl (by decide) (by omega) u390002 x390002_3 (wrap64 (Int.tdiv t405 2)) [.int .i64 (wrap64 (Int.tdiv t405 2))] (fun _ => True) (fun _ => False) rfl rfl ?aP (fun _ hk => hk.elim) ?aF ?aO (Below.refl _ _) ?aS ?aL ?_; (case aP => exact rfl); (case aF => exact (fun _ _ => trivial)); (case aO => exact (by (with_reducible repeat (first | apply Kd.R_alloc | apply Kd.R_drewN | apply Kd.R_drew)); exact HO_390002.out)); (case aS => exact (keep_size (w := w) (g := g) (row := none) (by repeat (first | (with_reducible first | exact HK.out | apply KeepBut.set_ | apply keep_drewN | apply keep_drew | apply keep_alloc | refine keep_far ?_ GW378.out _ | refine keep_far ?_ GW382.out _ | refine keep_far ?_ GW389.out _) | exact HK.out)))); (case aL => have := LMc76.out; omega); intro v412 w98 ho hb hg hat; rw [← Ny411.out] at ho; have n0_ := Aside0.mk (Kd.S_after (ok := (fun k_ => some k_ ≠ (u390001 : Value).ownBlock ∧ k_ ≠ gb389)) (by (with_reducible repeat (first | apply Kd.S_alloc | apply Kd.S_drewN | apply Kd.S_drew)); exact Kd.S_mono HO_383001.out (fun _ hk => ⟨⟨hk.1, hk.2.2⟩, hk.2.1⟩)) hg hat); have n1_ := Aside0.mk (Kd.R_over' (by (with_reducible repeat (first | apply Kd.R_alloc | apply Kd.R_drewN | apply Kd.R_drew)); exact HO_390001.out) (Kd.R_typed (by (with_reducible repeat (first | apply Kd.R_alloc | apply Kd.R_drewN | apply Kd.R_drew)); exact HO_390002.out)) (by decide) hg); have n2_ := Aside0.mk (blk_grown (g := gb378) (o := .cells #[.string x379000_3, .slice none 0 0] 31 (0, 0)) (by (with_reducible repeat (first | refine blk_drewN ?_ _ | refine blk_drew ?_ | refine blk_alloc ?_ _)); exact BK378.out) hg (Kd.R_ne HO_390002.out BK378.out (by decide))); have n3_ := Aside0.mk (blk_grown (g := gb382) (o := .cells #[.string t379, u383001] 31 (0, 0)) (by (with_reducible repeat (first | refine blk_drewN ?_ _ | refine blk_drew ?_ | refine blk_alloc ?_ _)); exact BK382.out) hg (Kd.R_ne HO_390002.out BK382.out (by decide))); have n4_ := Aside0.mk (blk_grown (g := gb389) (o := .cells #[.string t386, u390001, u390002] 84 (0, 0)) (by (with_reducible repeat (first | refine blk_drewN ?_ _ | refine blk_drew ?_ | refine blk_alloc ?_ _)); exact BK389.out) hg (Kd.R_ne HO_390002.out BK389.out (by decide))); have n5_ := Aside0.mk (IsS96.grown (by repeat (first | (with_reducible first | exact HI0.out | apply IsS96.alloc | apply IsS96.drewN | apply IsS96.drew | apply IsS96.set_1 | apply IsS96.set_2 | refine IsS96.far ?_ NB0_378.out _ | refine IsS96.far ?_ NB0_382.out _ | refine IsS96.far ?_ NB0_389.out _) | exact HI0.out)) hg (IsS96.own_ne HI0.out HO_390002.out (by decide))); have n6_ := Aside0.mk (below_weaken (by repeat (first | (with_reducible first | exact HB.out | apply below_alloc | apply pw_below_drewN | apply below_drew1 | refine below_set ?_ (IsS96.ge HI0.out) | refine below_set ?_ GE378.out | refine below_set ?_ GE382.out | refine below_set ?_ GE389.out) | exact HB.out)) HL.out hb); have n7_ := Aside0.mk (KeepBut.trans (by repeat (first | (with_reducible first | exact HK.out | apply KeepBut.set_ | apply keep_drewN | apply keep_drew | apply keep_alloc | refine keep_far ?_ GW378.out _ | refine keep_far ?_ GW382.out _ | refine keep_far ?_ GW389.out _) | exact HK.out)) (KeepBut.of_grown hg g) (Kd.R_base2 HO_390002.out)); have n8_ := Aside0.mk (ho); clear HO_383001; clear HO_390001; clear BK378; clear BK382; clear BK389; clear HI0; clear HB; clear HK; clear HO_390002; have HO_383001 := n0_; have HO_390001 := n1_; have BK378 := n2_; have BK382 := n3_; have BK389 := n4_; have HI0 := n5_; have HB := n6_; have HK := n7_; have HO413 := n8_; clear n0_ n1_ n2_ n3_ n4_ n5_ n6_ n7_ n8_; clear ho hb hg hat; obtain ⟨Ao99, co99, eo99⟩ := Kd.R_slice HO413.out; subst eo99; have hcz100_0 : w98.cell? ⟨gb389, 0, none⟩ = some (.string t386) := (blk_cell BK389.out 0).trans rfl; have hcz100_1 : w98.cell? ⟨gb389, 1, none⟩ = some (u390001) := (blk_cell BK389.out 1).trans rfl; have hcz100_2 : w98.cell? ⟨gb389, 2, none⟩ = some (u390002) := (blk_cell BK389.out 2).trans rfl; have hfz100_0 := blk_frozen BK389.out 0; have hfz100_1 := blk_frozen BK389.out 1; have hfz100_2 := blk_frozen BK389.out 2; obtain ⟨ASz101_0, cSz101_0, HGz101, hgz101, HSz101_0, -⟩ := HI0.out; have hcz101_0 := cellS96_0 HGz101; have hcz101_1 := cellS96_1 HGz101; have hcz101_2 := cellS96_2 HGz101; have hfz101_1 := blk_frozen HGz101 1; have hfz101_2 := blk_frozen HGz101 2; clear HGz101 hgz101))
                          go_roundg k3
                          case measure => have := HK1.out; have := HK2.out; have := HK3.out; omega
                          case rel => exact ⟨(wrap64 (x35_3 + 1)), (t406), (false), (x379000_3), (y411), (.slice Ao99 y411.length co99), (by first | rfl | (simp; done) | (simp [*]; done)), H', ⟨by have := HK1.out; have := HK2.out; have := HK3.out; omega⟩, ⟨by (with_reducible repeat (first | apply Kd.S_alloc | apply Kd.S_drewN | apply Kd.S_drew)); exact Kd.S_mono (Kd.S_far (p := ⟨gb389, 2, none⟩) (Kd.S_mono HO_383001.out (fun k_ hk => (⟨hk, hk.1.2⟩ : _ ∧ k_ ≠ gb389))) (fun _ hk => hk.2) (.slice Ao99 y411.length co99)) (fun _ hk => ⟨hk.1.1.1, ⟨hk.1.2, hk.1.1.2⟩⟩)⟩, ⟨by (with_reducible repeat (first | apply Kd.R_alloc | apply Kd.R_drewN | apply Kd.R_drew)); exact Kd.R_mono (Kd.R_far (p := ⟨gb389, 2, none⟩) (Kd.R_types HO_390001.out BK389.out (by decide)) (fun _ hk => hk.2) (.slice Ao99 y411.length co99)) (fun _ hk => trivial)⟩, ⟨by (with_reducible repeat (first | apply Kd.R_alloc | apply Kd.R_drewN | apply Kd.R_drew)); exact Kd.R_mono (Kd.R_far (p := ⟨gb389, 2, none⟩) (Kd.R_types HO413.out BK389.out (by decide)) (fun _ hk => hk.2) (.slice Ao99 y411.length co99)) (fun _ hk => trivial)⟩, ⟨by (with_reducible repeat (first | refine blk_drewN ?_ _ | refine blk_drew ?_ | refine blk_alloc ?_ _)); refine blk_far ?_ NB378_389.out _; (with_reducible repeat (first | refine blk_drewN ?_ _ | refine blk_drew ?_ | refine blk_alloc ?_ _)); exact BK378.out⟩, ⟨by (with_reducible repeat (first | refine blk_drewN ?_ _ | refine blk_drew ?_ | refine blk_alloc ?_ _)); refine blk_far ?_ NB382_389.out _; (with_reducible repeat (first | refine blk_drewN ?_ _ | refine blk_drew ?_ | refine blk_alloc ?_ _)); exact BK382.out⟩, ⟨by (with_reducible repeat (first | refine blk_drewN ?_ _ | refine blk_drew ?_ | refine blk_alloc ?_ _)); refine blk_put (cs := #[.string t386, u390001, u390002]) ?_ 2 _ rfl; (with_reducible repeat (first | refine blk_drewN ?_ _ | refine blk_drew ?_ | refine blk_alloc ?_ _)); exact BK389.out⟩, ⟨by repeat (first | (with_reducible first | exact HI0.out | apply IsS96.alloc | apply IsS96.drewN | apply IsS96.drew | apply IsS96.set_1 | apply IsS96.set_2 | refine IsS96.far ?_ NB0_378.out _ | refine IsS96.far ?_ NB0_382.out _ | refine IsS96.far ?_ NB0_389.out _) | exact HI0.out)⟩, ⟨by repeat (first | (with_reducible first | exact HK.out | apply KeepBut.set_ | apply keep_drewN | apply keep_drew | apply keep_alloc | refine keep_far ?_ GW378.out _ | refine keep_far ?_ GW382.out _ | refine keep_far ?_ GW389.out _) | exact HK.out)⟩, ⟨by repeat (first | (with_reducible first | exact HB.out | apply below_alloc | apply pw_below_drewN | apply below_drew1 | refine below_set ?_ (IsS96.ge HI0.out) | refine below_set ?_ GE378.out | refine below_set ?_ GE382.out | refine below_set ?_ GE389.out) | exact HB.out)⟩⟩
                      · rw [if_neg c76] at H
                        exact absurd H (by simp)
                  · rw [if_neg c47] at H
                    have c47b0 : decide (x35_3 < t399) = false := decide_eq_false c47
                    clear c47
                    by_cases c102 : x383001_1.length < 2199023255552
                    · rw [if_pos c102] at H
                      have LMc102 := Aside0.mk c102
                      clear c102
                      obtain ⟨y402, hy402⟩ : ∃ y_ : List (S84), y_ = (x383001_1 ++ [(⟨t386, x390001_2, x390002_3⟩ : S84)]) := ⟨_, rfl⟩
                      replace H : (if x1002_3 = true then (some (t379, y402, x1001_3, x1002_3)) else (impl_docReader_doc.l0 k3 t383 (wrap64 (x11_1 + 1)) s0_0 x1001_3 x1002_3 t379 y402)) = some (r1, r2, r3, r4) := by first | (rw [hy402]; with_reducible exact H) | (have H2_ := (Option.bind_some _ _).symm.trans H; rw [hy402]; with_reducible exact H2_) | (have H2_ := (Option.bind_some _ _).symm.trans H; with_reducible exact H2_) | with_reducible exact H | (rw [hy402]; exact H) | exact H
                      have Ny402 := Aside0.mk hy402
                      clear hy402
                      by_cases c103 : x1002_3 = true
                      · subst c103
                        have H1 : (some (t379, y402, x1001_3, true)) = some (r1, r2, r3, r4) := by rw [if_pos rfl] at H; exact H
                        clear H
                        have H := H1
                        clear H1
                        simp only [Option.some.injEq, Prod.mk.injEq] at H
                        obtain ⟨rfl, rfl, rfl, rfl⟩ := H
                        have hnb104 := NB382_378.out
                        have hnc104 := NB378_382.out
                        have hnb105 := NB382_389.out
                        have hnc105 := NB389_382.out
                        have hnb106 := NB382_0.out
                        have hnc106 := NB0_382.out
                        have hcz107_0 : wr.cell? ⟨gb382, 0, none⟩ = some (.string t379) := (blk_cell BK382.out 0).trans rfl
                        have hcz107_1 : wr.cell? ⟨gb382, 1, none⟩ = some (u383001) := (blk_cell BK382.out 1).trans rfl
                        have hfz107_0 := blk_frozen BK382.out 0
                        have hfz107_1 := blk_frozen BK382.out 1
                        have hnb108 := NB389_378.out
                        have hnc108 := NB378_389.out
                        have hnb109 := NB389_0.out
                        have hnc109 := NB0_389.out
                        have hcz110_0 : wr.cell? ⟨gb389, 0, none⟩ = some (.string t386) := (blk_cell BK389.out 0).trans rfl
                        have hcz110_1 : wr.cell? ⟨gb389, 1, none⟩ = some (u390001) := (blk_cell BK389.out 1).trans rfl
                        have hcz110_2 : wr.cell? ⟨gb389, 2, none⟩ = some (u390002) := (blk_cell BK389.out 2).trans rfl
                        have hfz110_0 := blk_frozen BK389.out 0
                        have hfz110_1 := blk_frozen BK389.out 1
                        have hfz110_2 := blk_frozen BK389.out 2
                        obtain ⟨Ao112, co112, eo112⟩ := Kd.R_slice HO_390001.out
                        subst eo112
                        obtain ⟨Ao113, co113, eo113⟩ := Kd.R_slice HO_390002.out
                        subst eo113
                        go_wp2_with (first | ((with_reducible refine gate_builtin (b := .append) (xs := #[.tmp 59, .tmp 61]) rfl ?_); at_builtin; refine Kd.S_append k84 w.heap.size rfl (.tmp 59) (.tmp 61) 29 84 (.agg #[(.string ⟨#[]⟩), (.slice none 0 0), (.slice none 0 0)]) 64 rfl Try.underlying29 info84 rfl (by decide) (by omega) u383001 x383001_1 (⟨t386, x390001_2, x390002_3⟩ : S84) [.string t386, .slice Ao112 x390001_2.length co112, .slice Ao113 x390002_3.length co113] (fun k_ => k_ ≠ gb389) (fun k_ => some k_ = (.slice Ao112 x390001_2.length co112 : Value).ownBlock ∨ some k_ = (.slice Ao113 x390002_3.length co113 : Value).ownBlock) rfl rfl ?aP (fun k_ hk_ => hk_.elim (fun h_ => ((Kd.R_mono (ok' := fun k_ => ((fun k_ => k_ ≠ gb389)) k_ ∧ some k_ ≠ (u383001 : Value).ownBlock) (Kd.R_types (Kd.R_apart' (HO_390001.out) (Kd.S_typed HO_383001.out) (by decide)) BK389.out (by decide)) (fun k_ hk => ⟨hk.2, hk.1.2⟩))).1 k_ h_.symm) (fun h_ => ((Kd.R_mono (ok' := fun k_ => ((fun k_ => k_ ≠ gb389)) k_ ∧ some k_ ≠ (u383001 : Value).ownBlock) (Kd.R_types (Kd.R_apart' (HO_390002.out) (Kd.S_typed HO_383001.out) (by decide)) BK389.out (by decide)) (fun k_ hk => ⟨hk.2, hk.1.2⟩))).1 k_ h_.symm)) ?aF ?aO (Below.refl _ _) ?aS ?aL ?_; (case aP => exact k84_mkM _ _ _ (⟨t386, x390001_2, x390002_3⟩ : S84) (Kd.R_mono (Kd.R_tight rfl (Kd.R_mono (ok' := fun k_ => ((fun k_ => k_ ≠ gb389)) k_ ∧ some k_ ≠ (u383001 : Value).ownBlock) (Kd.R_types (Kd.R_apart' (HO_390001.out) (Kd.S_typed HO_383001.out) (by decide)) BK389.out (by decide)) (fun k_ hk => ⟨hk.2, hk.1.2⟩))) (fun _ h_ => Or.inl h_)) (Kd.R_mono (Kd.R_tight rfl (Kd.R_mono (ok' := fun k_ => ((fun k_ => k_ ≠ gb389)) k_ ∧ some k_ ≠ (u383001 : Value).ownBlock) (Kd.R_types (Kd.R_apart' (HO_390002.out) (Kd.S_typed HO_383001.out) (by decide)) BK389.out (by decide)) (fun k_ hk => ⟨hk.2, hk.1.2⟩))) (fun _ h_ => Or.inr (h_)))); (case aF => exact (fun k_ hk => Kd.freshB (g := gb389) (o := .cells #[.string t386, .slice Ao112 x390001_2.length co112, .slice Ao113 x390002_3.length co113] 84 (0, 0)) (by (with_reducible repeat (first | refine blk_drewN ?_ _ | refine blk_drew ?_ | refine blk_alloc ?_ _)); exact BK389.out) k_ hk)); (case aO => exact (by (with_reducible repeat (first | apply Kd.S_alloc | apply Kd.S_drewN | apply Kd.S_drew)); exact Kd.S_mono HO_383001.out (fun k_ hk => ⟨hk.2.2, fun e_ => e_.elim (fun h_ => hk.1 h_) (fun h_ => hk.2.1 h_)⟩))); (case aS => exact (keep_size (w := w) (g := g) (row := none) (by repeat (first | (with_reducible first | exact HK.out | apply KeepBut.set_ | apply keep_drewN | apply keep_drew | apply keep_alloc | refine keep_far ?_ GW378.out _ | refine keep_far ?_ GW382.out _ | refine keep_far ?_ GW389.out _) | exact HK.out)))); (case aL => have := LMc102.out; omega); intro v403 w111 ho hb hg hat; rw [← Ny402.out] at ho; have n0_ := Aside0.mk (blk_grown (g := gb378) (o := .cells #[.string x379000_3, .slice none 0 0] 31 (0, 0)) (by (with_reducible repeat (first | refine blk_drewN ?_ _ | refine blk_drew ?_ | refine blk_alloc ?_ _)); exact BK378.out) hg (Kd.S_ne HO_383001.out BK378.out (by decide))); have n1_ := Aside0.mk (blk_grown (g := gb382) (o := .cells #[.string t379, u383001] 31 (0, 0)) (by (with_reducible repeat (first | refine blk_drewN ?_ _ | refine blk_drew ?_ | refine blk_alloc ?_ _)); exact BK382.out) hg (Kd.S_ne HO_383001.out BK382.out (by decide))); have n2_ := Aside0.mk (blk_grown (g := gb389) (o := .cells #[.string t386, .slice Ao112 x390001_2.length co112, .slice Ao113 x390002_3.length co113] 84 (0, 0)) (by (with_reducible repeat (first | refine blk_drewN ?_ _ | refine blk_drew ?_ | refine blk_alloc ?_ _)); exact BK389.out) hg (Kd.S_away HO_383001.out (fun _ hk => hk.2.2))); have n3_ := Aside0.mk (IsS96.grown (by repeat (first | (with_reducible first | exact HI0.out | apply IsS96.alloc | apply IsS96.drewN | apply IsS96.drew | apply IsS96.set_1 | apply IsS96.set_2 | refine IsS96.far ?_ NB0_378.out _ | refine IsS96.far ?_ NB0_382.out _ | refine IsS96.far ?_ NB0_389.out _) | exact HI0.out)) hg (IsS96.own_neS HI0.out HO_383001.out (by decide))); have n4_ := Aside0.mk (below_weaken (by repeat (first | (with_reducible first | exact HB.out | apply below_alloc | apply pw_below_drewN | apply below_drew1 | refine below_set ?_ (IsS96.ge HI0.out) | refine below_set ?_ GE378.out | refine below_set ?_ GE382.out | refine below_set ?_ GE389.out) | exact HB.out)) HL.out hb); have n5_ := Aside0.mk (KeepBut.trans (by repeat (first | (with_reducible first | exact HK.out | apply KeepBut.set_ | apply keep_drewN | apply keep_drew | apply keep_alloc | refine keep_far ?_ GW378.out _ | refine keep_far ?_ GW382.out _ | refine keep_far ?_ GW389.out _) | exact HK.out)) (KeepBut.of_grown hg g) (Kd.S_base2 HO_383001.out)); have n6_ := Aside0.mk (ho); clear BK378; clear BK382; clear BK389; clear HI0; clear HB; clear HK; clear HO_383001; clear HO_390001; clear HO_390002; have BK378 := n0_; have BK382 := n1_; have BK389 := n2_; have HI0 := n3_; have HB := n4_; have HK := n5_; have HO404 := n6_; clear n0_ n1_ n2_ n3_ n4_ n5_ n6_; clear ho hb hg hat; obtain ⟨Ao114, co114, eo114⟩ := Kd.S_slice HO404.out; subst eo114; have hcz115_0 : w111.cell? ⟨gb382, 0, none⟩ = some (.string t379) := (blk_cell BK382.out 0).trans rfl; have hcz115_1 : w111.cell? ⟨gb382, 1, none⟩ = some (u383001) := (blk_cell BK382.out 1).trans rfl; have hfz115_0 := blk_frozen BK382.out 0; have hfz115_1 := blk_frozen BK382.out 1; obtain ⟨ASz116_0, cSz116_0, HGz116, hgz116, HSz116_0, -⟩ := HI0.out; have hcz116_0 := cellS96_0 HGz116; have hcz116_1 := cellS96_1 HGz116; have hcz116_2 := cellS96_2 HGz116; have hfz116_1 := blk_frozen HGz116 1; have hfz116_2 := blk_frozen HGz116 2; clear HGz116 hgz116; have hnb117 := NB378_0.out; have hnc117 := NB0_378.out; have hcz118_0 : w111.cell? ⟨gb378, 0, none⟩ = some (.string x379000_3) := (blk_cell BK378.out 0).trans rfl; have hcz118_1 : w111.cell? ⟨gb378, 1, none⟩ = some (.slice none 0 0) := (blk_cell BK378.out 1).trans rfl; have hfz118_0 := blk_frozen BK378.out 0; have hfz118_1 := blk_frozen BK378.out 1))
                        refine bodyPost_ret (results_cell_row rfl _ _ gb378 31 #[.string t379, .slice Ao114 y402.length co114] (0, 0) _ rfl (by (with_reducible repeat (first | refine blk_drewN ?_ _ | refine blk_drew ?_ | refine blk_alloc ?_ _)); refine blk_put (cs := #[.string t379, .slice none 0 0]) ?_ 1 _ rfl; (with_reducible repeat (first | refine blk_drewN ?_ _ | refine blk_drew ?_ | refine blk_alloc ?_ _)); refine blk_put (cs := #[.string x379000_3, .slice none 0 0]) ?_ 0 _ rfl; (with_reducible repeat (first | refine blk_drewN ?_ _ | refine blk_drew ?_ | refine blk_alloc ?_ _)); refine blk_far ?_ NB378_382.out _; (with_reducible repeat (first | refine blk_drewN ?_ _ | refine blk_drew ?_ | refine blk_alloc ?_ _)); exact BK378.out) Try.underlying31 rfl (by kernel_rfl)) rfl ?_
                        exact ⟨_, by first | rfl | (simp [errW_none, errW_some] <;> rfl) | (simp [*, errW_none, errW_some] <;> rfl), by (with_reducible repeat (first | apply Kd.S_alloc | apply Kd.S_drewN | apply Kd.S_drew)); exact Kd.S_mono (Kd.S_far (p := ⟨gb378, 1, none⟩) (Kd.S_far (p := ⟨gb378, 0, none⟩) (Kd.S_far (p := ⟨gb382, 1, none⟩) (Kd.S_types (Kd.S_types HO404.out BK382.out (by decide)) BK378.out (by decide)) (fun _ hk => hk.1.2) (.slice Ao114 y402.length co114)) (fun _ hk => hk.2) (.string t379)) (fun _ hk => hk.2) (.slice Ao114 y402.length co114)) (fun _ hk => trivial), by repeat (first | (with_reducible first | exact HI0.out | apply IsS96.alloc | apply IsS96.drewN | apply IsS96.drew | apply IsS96.set_1 | apply IsS96.set_2 | refine IsS96.far ?_ NB0_378.out _ | refine IsS96.far ?_ NB0_382.out _ | refine IsS96.far ?_ NB0_389.out _) | exact HI0.out), by repeat (first | (with_reducible first | exact HB.out | apply below_alloc | apply pw_below_drewN | apply below_drew1 | refine below_set ?_ (IsS96.ge HI0.out) | refine below_set ?_ GE378.out | refine below_set ?_ GE382.out | refine below_set ?_ GE389.out) | exact HB.out), by repeat (first | (with_reducible first | exact HK.out | apply KeepBut.set_ | apply keep_drewN | apply keep_drew | apply keep_alloc | refine keep_far ?_ GW378.out _ | refine keep_far ?_ GW382.out _ | refine keep_far ?_ GW389.out _) | exact HK.out)⟩
                      · replace c103 := Bool.eq_false_iff.mpr c103
                        subst c103
                        have H1 : (impl_docReader_doc.l0 k3 t383 (wrap64 (x11_1 + 1)) s0_0 x1001_3 false t379 y402) = some (r1, r2, r3, r4) := by rw [if_neg (show ¬ (false = true) by decide)] at H; exact H
                        clear H
                        have H := H1
                        clear H1
                        have H' := Aside0.mk H
                        clear H
                        have hnb119 := NB382_378.out
                        have hnc119 := NB378_382.out
                        have hnb120 := NB382_389.out
                        have hnc120 := NB389_382.out
                        have hnb121 := NB382_0.out
                        have hnc121 := NB0_382.out
                        have hcz122_0 : wr.cell? ⟨gb382, 0, none⟩ = some (.string t379) := (blk_cell BK382.out 0).trans rfl
                        have hcz122_1 : wr.cell? ⟨gb382, 1, none⟩ = some (u383001) := (blk_cell BK382.out 1).trans rfl
                        have hfz122_0 := blk_frozen BK382.out 0
                        have hfz122_1 := blk_frozen BK382.out 1
                        have hnb123 := NB389_378.out
                        have hnc123 := NB378_389.out
                        have hnb124 := NB389_0.out
                        have hnc124 := NB0_389.out
                        have hcz125_0 : wr.cell? ⟨gb389, 0, none⟩ = some (.string t386) := (blk_cell BK389.out 0).trans rfl
                        have hcz125_1 : wr.cell? ⟨gb389, 1, none⟩ = some (u390001) := (blk_cell BK389.out 1).trans rfl
                        have hcz125_2 : wr.cell? ⟨gb389, 2, none⟩ = some (u390002) := (blk_cell BK389.out 2).trans rfl
                        have hfz125_0 := blk_frozen BK389.out 0
                        have hfz125_1 := blk_frozen BK389.out 1
                        have hfz125_2 := blk_frozen BK389.out 2
                        obtain ⟨Ao127, co127, eo127⟩ := Kd.R_slice HO_390001.out
                        subst eo127
                        obtain ⟨Ao128, co128, eo128⟩ := Kd.R_slice HO_390002.out
                        subst eo128
                        go_wp2_with (first | ((with_reducible refine gate_builtin (b := .append) (xs := #[.tmp 59, .tmp 61]) rfl ?_); at_builtin; refine Kd.S_append k84 w.heap.size rfl (.tmp 59) (.tmp 61) 29 84 (.agg #[(.string ⟨#[]⟩), (.slice none 0 0), (.slice none 0 0)]) 64 rfl Try.underlying29 info84 rfl (by decide) (by omega) u383001 x383001_1 (⟨t386, x390001_2, x390002_3⟩ : S84) [.string t386, .slice Ao127 x390001_2.length co127, .slice Ao128 x390002_3.length co128] (fun k_ => k_ ≠ gb389) (fun k_ => some k_ = (.slice Ao127 x390001_2.length co127 : Value).ownBlock ∨ some k_ = (.slice Ao128 x390002_3.length co128 : Value).ownBlock) rfl rfl ?aP (fun k_ hk_ => hk_.elim (fun h_ => ((Kd.R_mono (ok' := fun k_ => ((fun k_ => k_ ≠ gb389)) k_ ∧ some k_ ≠ (u383001 : Value).ownBlock) (Kd.R_types (Kd.R_apart' (HO_390001.out) (Kd.S_typed HO_383001.out) (by decide)) BK389.out (by decide)) (fun k_ hk => ⟨hk.2, hk.1.2⟩))).1 k_ h_.symm) (fun h_ => ((Kd.R_mono (ok' := fun k_ => ((fun k_ => k_ ≠ gb389)) k_ ∧ some k_ ≠ (u383001 : Value).ownBlock) (Kd.R_types (Kd.R_apart' (HO_390002.out) (Kd.S_typed HO_383001.out) (by decide)) BK389.out (by decide)) (fun k_ hk => ⟨hk.2, hk.1.2⟩))).1 k_ h_.symm)) ?aF ?aO (Below.refl _ _) ?aS ?aL ?_; (case aP => exact k84_mkM _ _ _ (⟨t386, x390001_2, x390002_3⟩ : S84) (Kd.R_mono (Kd.R_tight rfl (Kd.R_mono (ok' := fun k_ => ((fun k_ => k_ ≠ gb389)) k_ ∧ some k_ ≠ (u383001 : Value).ownBlock) (Kd.R_types (Kd.R_apart' (HO_390001.out) (Kd.S_typed HO_383001.out) (by decide)) BK389.out (by decide)) (fun k_ hk => ⟨hk.2, hk.1.2⟩))) (fun _ h_ => Or.inl h_)) (Kd.R_mono (Kd.R_tight rfl (Kd.R_mono (ok' := fun k_ => ((fun k_ => k_ ≠ gb389)) k_ ∧ some k_ ≠ (u383001 : Value).ownBlock) (Kd.R_types (Kd.R_apart' (HO_390002.out) (Kd.S_typed HO_383001.out) (by decide)) BK389.out (by decide)) (fun k_ hk => ⟨hk.2, hk.1.2⟩))) (fun _ h_ => Or.inr (h_)))); (case aF => exact (fun k_ hk => Kd.freshB (g := gb389) (o := .cells #[.string t386, .slice Ao127 x390001_2.length co127, .slice Ao128 x390002_3.length co128] 84 (0, 0)) (by (with_reducible repeat (first | refine blk_drewN ?_ _ | refine blk_drew ?_ | refine blk_alloc ?_ _)); exact BK389.out) k_ hk)); (case aO => exact (by (with_reducible repeat (first | apply Kd.S_alloc | apply Kd.S_drewN | apply Kd.S_drew)); exact Kd.S_mono HO_383001.out (fun k_ hk => ⟨hk.2.2, fun e_ => e_.elim (fun h_ => hk.1 h_) (fun h_ => hk.2.1 h_)⟩))); (case aS => exact (keep_size (w := w) (g := g) (row := none) (by repeat (first | (with_reducible first | exact HK.out | apply KeepBut.set_ | apply keep_drewN | apply keep_drew | apply keep_alloc | refine keep_far ?_ GW378.out _ | refine keep_far ?_ GW382.out _ | refine keep_far ?_ GW389.out _) | exact HK.out)))); (case aL => have := LMc102.out; omega); intro v403 w126 ho hb hg hat; rw [← Ny402.out] at ho; have n0_ := Aside0.mk (blk_grown (g := gb378) (o := .cells #[.string x379000_3, .slice none 0 0] 31 (0, 0)) (by (with_reducible repeat (first | refine blk_drewN ?_ _ | refine blk_drew ?_ | refine blk_alloc ?_ _)); exact BK378.out) hg (Kd.S_ne HO_383001.out BK378.out (by decide))); have n1_ := Aside0.mk (blk_grown (g := gb382) (o := .cells #[.string t379, u383001] 31 (0, 0)) (by (with_reducible repeat (first | refine blk_drewN ?_ _ | refine blk_drew ?_ | refine blk_alloc ?_ _)); exact BK382.out) hg (Kd.S_ne HO_383001.out BK382.out (by decide))); have n2_ := Aside0.mk (blk_grown (g := gb389) (o := .cells #[.string t386, .slice Ao127 x390001_2.length co127, .slice Ao128 x390002_3.length co128] 84 (0, 0)) (by (with_reducible repeat (first | refine blk_drewN ?_ _ | refine blk_drew ?_ | refine blk_alloc ?_ _)); exact BK389.out) hg (Kd.S_away HO_383001.out (fun _ hk => hk.2.2))); have n3_ := Aside0.mk (IsS96.grown (by repeat (first | (with_reducible first | exact HI0.out | apply IsS96.alloc | apply IsS96.drewN | apply IsS96.drew | apply IsS96.set_1 | apply IsS96.set_2 | refine IsS96.far ?_ NB0_378.out _ | refine IsS96.far ?_ NB0_382.out _ | refine IsS96.far ?_ NB0_389.out _) | exact HI0.out)) hg (IsS96.own_neS HI0.out HO_383001.out (by decide))); have n4_ := Aside0.mk (below_weaken (by repeat (first | (with_reducible first | exact HB.out | apply below_alloc | apply pw_below_drewN | apply below_drew1 | refine below_set ?_ (IsS96.ge HI0.out) | refine below_set ?_ GE378.out | refine below_set ?_ GE382.out | refine below_set ?_ GE389.out) | exact HB.out)) HL.out hb); have n5_ := Aside0.mk (KeepBut.trans (by repeat (first | (with_reducible first | exact HK.out | apply KeepBut.set_ | apply keep_drewN | apply keep_drew | apply keep_alloc | refine keep_far ?_ GW378.out _ | refine keep_far ?_ GW382.out _ | refine keep_far ?_ GW389.out _) | exact HK.out)) (KeepBut.of_grown hg g) (Kd.S_base2 HO_383001.out)); have n6_ := Aside0.mk (ho); clear BK378; clear BK382; clear BK389; clear HI0; clear HB; clear HK; clear HO_383001; clear HO_390001; clear HO_390002; have BK378 := n0_; have BK382 := n1_; have BK389 := n2_; have HI0 := n3_; have HB := n4_; have HK := n5_; have HO404 := n6_; clear n0_ n1_ n2_ n3_ n4_ n5_ n6_; clear ho hb hg hat; obtain ⟨Ao129, co129, eo129⟩ := Kd.S_slice HO404.out; subst eo129; have hcz130_0 : w126.cell? ⟨gb382, 0, none⟩ = some (.string t379) := (blk_cell BK382.out 0).trans rfl; have hcz130_1 : w126.cell? ⟨gb382, 1, none⟩ = some (u383001) := (blk_cell BK382.out 1).trans rfl; have hfz130_0 := blk_frozen BK382.out 0; have hfz130_1 := blk_frozen BK382.out 1; obtain ⟨ASz131_0, cSz131_0, HGz131, hgz131, HSz131_0, -⟩ := HI0.out; have hcz131_0 := cellS96_0 HGz131; have hcz131_1 := cellS96_1 HGz131; have hcz131_2 := cellS96_2 HGz131; have hfz131_1 := blk_frozen HGz131 1; have hfz131_2 := blk_frozen HGz131 2; clear HGz131 hgz131))
                        go_roundg k3
                        case measure => have := HK1.out; have := HK2.out; have := HK3.out; omega
                        case rel => exact ⟨(wrap64 (x11_1 + 1)), (x1001_3), (false), (x379000_3), (y402), (.slice Ao129 y402.length co129), (by first | rfl | (simp; done) | (simp [*]; done)), H', ⟨by have := HK1.out; have := HK2.out; have := HK3.out; omega⟩, ⟨by (with_reducible repeat (first | apply Kd.S_alloc | apply Kd.S_drewN | apply Kd.S_drew)); exact Kd.S_mono (Kd.S_far (p := ⟨gb382, 1, none⟩) (Kd.S_types HO404.out BK382.out (by decide)) (fun _ hk => hk.2) (.slice Ao129 y402.length co129)) (fun _ hk => trivial)⟩, ⟨by (with_reducible repeat (first | refine blk_drewN ?_ _ | refine blk_drew ?_ | refine blk_alloc ?_ _)); refine blk_far ?_ NB378_382.out _; (with_reducible repeat (first | refine blk_drewN ?_ _ | refine blk_drew ?_ | refine blk_alloc ?_ _)); exact BK378.out⟩, ⟨by (with_reducible repeat (first | refine blk_drewN ?_ _ | refine blk_drew ?_ | refine blk_alloc ?_ _)); refine blk_put (cs := #[.string t379, u383001]) ?_ 1 _ rfl; (with_reducible repeat (first | refine blk_drewN ?_ _ | refine blk_drew ?_ | refine blk_alloc ?_ _)); exact BK382.out⟩, ⟨by repeat (first | (with_reducible first | exact HI0.out | apply IsS96.alloc | apply IsS96.drewN | apply IsS96.drew | apply IsS96.set_1 | apply IsS96.set_2 | refine IsS96.far ?_ NB0_378.out _ | refine IsS96.far ?_ NB0_382.out _ | refine IsS96.far ?_ NB0_389.out _) | exact HI0.out)⟩, ⟨by repeat (first | (with_reducible first | exact HK.out | apply KeepBut.set_ | apply keep_drewN | apply keep_drew | apply keep_alloc | refine keep_far ?_ GW378.out _ | refine keep_far ?_ GW382.out _ | refine keep_far ?_ GW389.out _) | exact HK.out)⟩, ⟨by repeat (first | (with_reducible first | exact HB.out | apply below_alloc | apply pw_below_drewN | apply below_drew1 | refine below_set ?_ (IsS96.ge HI0.out) | refine below_set ?_ GE378.out | refine below_set ?_ GE382.out | refine below_set ?_ GE389.out) | exact HB.out)⟩⟩
                    · rw [if_neg c102] at H
                      exact absurd H (by simp)
      · rw [if_neg c11] at H
        have c11b0 : decide (x11_1 < t383) = false := decide_eq_false c11
        clear c11
        simp only [Option.some.injEq, Prod.mk.injEq] at H
        obtain ⟨rfl, rfl, rfl, rfl⟩ := H
        have hnb132 := NB382_378.out
        have hnc132 := NB378_382.out
        have hnb133 := NB382_0.out
        have hnc133 := NB0_382.out
        have hcz134_0 : wr.cell? ⟨gb382, 0, none⟩ = some (.string t379) := (blk_cell BK382.out 0).trans rfl
        have hcz134_1 : wr.cell? ⟨gb382, 1, none⟩ = some (u383001) := (blk_cell BK382.out 1).trans rfl
        have hfz134_0 := blk_frozen BK382.out 0
        have hfz134_1 := blk_frozen BK382.out 1
        have hnb135 := NB378_0.out
        have hnc135 := NB0_378.out
        have hcz136_0 : wr.cell? ⟨gb378, 0, none⟩ = some (.string x379000_1) := (blk_cell BK378.out 0).trans rfl
        have hcz136_1 : wr.cell? ⟨gb378, 1, none⟩ = some (.slice none 0 0) := (blk_cell BK378.out 1).trans rfl
        have hfz136_0 := blk_frozen BK378.out 0
        have hfz136_1 := blk_frozen BK378.out 1
        obtain ⟨Ao137, co137, eo137⟩ := Kd.S_slice HO_383001.out
        subst eo137
        go_wp2
        refine bodyPost_ret (results_cell_row rfl _ _ gb378 31 #[.string t379, .slice Ao137 x383001_1.length co137] (0, 0) _ rfl (by (with_reducible repeat (first | refine blk_drewN ?_ _ | refine blk_drew ?_ | refine blk_alloc ?_ _)); refine blk_put (cs := #[.string t379, .slice none 0 0]) ?_ 1 _ rfl; (with_reducible repeat (first | refine blk_drewN ?_ _ | refine blk_drew ?_ | refine blk_alloc ?_ _)); refine blk_put (cs := #[.string x379000_1, .slice none 0 0]) ?_ 0 _ rfl; (with_reducible repeat (first | refine blk_drewN ?_ _ | refine blk_drew ?_ | refine blk_alloc ?_ _)); exact BK378.out) Try.underlying31 rfl (by kernel_rfl)) rfl ?_
        exact ⟨_, by first | rfl | (simp [errW_none, errW_some] <;> rfl) | (simp [*, errW_none, errW_some] <;> rfl), by (with_reducible repeat (first | apply Kd.S_alloc | apply Kd.S_drewN | apply Kd.S_drew)); exact Kd.S_mono (Kd.S_far (p := ⟨gb378, 1, none⟩) (Kd.S_far (p := ⟨gb378, 0, none⟩) (Kd.S_types HO_383001.out BK378.out (by decide)) (fun _ hk => hk.2) (.string t379)) (fun _ hk => hk.2) (.slice Ao137 x383001_1.length co137)) (fun _ hk => trivial), by repeat (first | (with_reducible first | exact HI0.out | apply IsS96.alloc | apply IsS96.drewN | apply IsS96.drew | apply IsS96.set_1 | apply IsS96.set_2 | refine IsS96.far ?_ NB0_378.out _ | refine IsS96.far ?_ NB0_382.out _) | exact HI0.out), by repeat (first | (with_reducible first | exact HB.out | apply below_alloc | apply pw_below_drewN | apply below_drew1 | refine below_set ?_ (IsS96.ge HI0.out) | refine below_set ?_ GE378.out | refine below_set ?_ GE382.out) | exact HB.out), by repeat (first | (with_reducible first | exact HK.out | apply KeepBut.set_ | apply keep_drewN | apply keep_drew | apply keep_alloc | refine keep_far ?_ GW378.out _ | refine keep_far ?_ GW382.out _) | exact HK.out)⟩
end Go.Proofs.Ytndjodgcemgpfaa.Q
end

section
set_option linter.unusedVariables false
set_option linter.unusedSimpArgs false
namespace Go.Proofs.Ytndjodgcemgpfaa.Q
open Go.RowKit Go.Proofs.YtndjodgcemgpfaaW.PrintWords Go.Proofs.YtndjodgcemgpfaaW.PrintLast Go.Proofs.YtndjodgcemgpfaaW.PrintMore
def impl_ReadDoc.f (k : Nat) (l0 : List Int) : Option (ByteArray × List S84 × Int) := if (l0.length : Int) > 1048576 then some (ByteArray.empty, [], 2) else (impl_docReader_doc.f k l0 0 false).bind fun t => if t.2.2.2 = true then some (ByteArray.empty, [], 15) else if t.2.2.1 = (l0.length : Int) then some (t.1, t.2.1, 0) else some (ByteArray.empty, [], 15)
theorem impl_ReadDoc.mono : ∀ a0 k, LeO (impl_ReadDoc.f k a0) (impl_ReadDoc.f (k + 1) a0) := by
  intro a0 k
  unfold impl_ReadDoc.f
  exact LeO.ite (LeO.refl _) (LeO.bind (impl_docReader_doc.mono _ _ _ _) (fun _ => LeO.refl _))
set_option maxHeartbeats 8000000 in
set_option maxRecDepth 100000 in
theorem impl_ReadDoc.calls (k : Nat) (A0 : Option Addr) (c0 : Nat) (l0 : List Int) (r1 : ByteArray) (r2 : List S84) (r3 : Int) (w : World) (hr0 : Kd.C (Kd.int .u8) w A0 l0.length l0) (hc0 : l0.length ≤ c0) (h : impl_ReadDoc.f k l0 = some (r1, r2, r3)) :
    Calls Try.prog 20 #[.slice A0 l0.length c0] w fun e w' => ∃ v1_ : Value, e = .returned (.tuple #[.agg #[.string r1, v1_], .int .i64 r3]) ∧ Kd.S k84 84 w' w.heap.size (fun _ => True) v1_ r2 ∧ Below w.heap.size w w' := by
  unfold impl_ReadDoc.f at h
  have HR := Aside0.mk hr0
  have HC := Aside0.mk hc0
  clear hr0 hc0
  have hu31 := Try.underlying31
  have hu96 := Try.underlying96
  have HB := Aside0.mk (Below.refl w.heap.size w)
  by_cases k1 : (l0.length : Int) > 1048576
  · rw [if_pos k1] at h
    have k1' : decide (1048576 < (l0.length : Int)) = true := decide_eq_true k1
    clear k1
    simp only [Option.some.injEq, Prod.mk.injEq] at h
    obtain ⟨rfl, rfl, rfl⟩ := h
    go_enter Try.func20, Try.ntmps20
    go_wp2_with fail
    refine bodyPost_ret (results_list (rs := [.cell 2 31, .tmp 3]) rfl (by simp) (.cell w.heap.size 31 #[.string ⟨#[]⟩, .slice none 0 0] (0, 0) _ rfl (blk_new w _) Try.underlying31 rfl (by kernel_rfl) (.tmp .nil))) rfl ?_
    exact ⟨_, rfl, Kd.S_nil _ _ _ _ _, below_alloc HB.out _⟩
  · rw [if_neg k1] at h
    have k1' : decide (1048576 < (l0.length : Int)) = false := decide_eq_false k1
    clear k1
    obtain ⟨⟨t1, t2, t3, t4⟩, h1, h⟩ := Option.bind_eq_some_iff.mp h
    have H1 := Aside0.mk h1
    clear h1
    replace h : (if t4 = true then some (ByteArray.empty, [], 15) else if t3 = (l0.length : Int) then some (t1, t2, 0) else some (ByteArray.empty, [], 15)) = some (r1, r2, r3) := h
    have HH := Aside0.mk h
    clear h
    go_enter Try.func20, Try.ntmps20
    go_wp2_with fail
    go_at_call 58
    refine (impl_docReader_doc.calls k (w.heap.size + 1) l0 0 false t1 t2 t3 t4 w _ (by simpa using IsS96.new w (w.alloc _) A0 c0 l0 0 false (below_alloc HB.out _) HR.out HC.out) (below_alloc (below_alloc HB.out _) _) H1.out).mono ?_
    rintro e w1 ⟨v1, rfl, hS, hI, hB, hK⟩
    have hb2 := hK.blk (blk_alloc (blk_new w (.cells #[.string ⟨#[]⟩, .slice none 0 0] 31)) _) (show w.heap.size ≠ w.heap.size + 1 by omega) (by simp)
    have B2 := Aside0.mk hb2
    have HS := Aside0.mk (Kd.S_span hS (show w.heap.size ≤ ((w.alloc _).alloc _).heap.size by simp; omega))
    have HI := Aside0.mk hI
    have HB1 := Aside0.mk hB
    have h2 := hB.size
    obtain ⟨A1, c1, e1⟩ := Kd.S_slice hS
    subst e1
    clear hS hI hB hK hb2 HB H1
    obtain ⟨AX, cX, HG, _, _, _⟩ := IsS96.alloc HI.out (.cells #[.string t1, .slice A1 t2.length c1] 31)
    have hx1 := cellS96_1 HG
    have hx2 := cellS96_2 HG
    clear HG
    have hy := blk_alloc B2.out (.cells #[.string t1, .slice A1 t2.length c1] 31)
    have BY := Aside0.mk hy
    have hy0 := (blk_cell hy 0).trans rfl
    have hy1 := (blk_cell hy 1).trans rfl
    have hyf := blk_frozen hy
    clear hy
    cases t4 with
    | true =>
      have h := HH.out
      rw [if_pos rfl] at h
      simp only [Option.some.injEq, Prod.mk.injEq] at h
      obtain ⟨rfl, rfl, rfl⟩ := h
      go_wp2_with fail
      refine bodyPost_ret (results_list (rs := [.cell 2 31, .tmp 3]) rfl (by simp) (.cell w.heap.size 31 #[.string ⟨#[]⟩, .slice none 0 0] (0, 0) _ rfl (by simpa using blk_set (blk_set BY.out 0 _) 1 _) Try.underlying31 rfl (by kernel_rfl) (.tmp .nil))) rfl ?_
      exact ⟨_, rfl, Kd.S_nil _ _ _ _ _, below_set (below_set (below_alloc HB1.out _) (Nat.le_refl _)) (Nat.le_refl _)⟩
    | false =>
      have h := HH.out
      rw [if_neg (by simp)] at h
      by_cases k2 : t3 = (l0.length : Int)
      · rw [if_pos k2] at h
        simp only [Option.some.injEq, Prod.mk.injEq] at h
        obtain ⟨rfl, rfl, rfl⟩ := h
        clear HH
        subst k2
        go_wp2_with fail
        refine bodyPost_ret (results_list (rs := [.cell 2 31, .tmp 3]) rfl (by simp) (.cell w.heap.size 31 #[.string t1, .slice A1 t2.length c1] (0, 0) _ rfl (by simpa using blk_set (blk_set BY.out 0 _) 1 _) Try.underlying31 rfl (by kernel_rfl) (.tmp .nil))) rfl ?_
        exact ⟨_, rfl, Kd.S_mono (Kd.S_kept HS.out (((Kept.alloc (Kept.refl w1 (fun k_ => k_ = w.heap.size)) _).setCell (.inl rfl) _).setCell (.inl rfl) _) (fun k_ h1_ h2_ => by have h1_ := h1_.1; simp at h1_; omega)) (fun _ _ => trivial), below_set (below_set (below_alloc HB1.out _) (Nat.le_refl _)) (Nat.le_refl _)⟩
      · rw [if_neg k2] at h
        simp only [Option.some.injEq, Prod.mk.injEq] at h
        obtain ⟨rfl, rfl, rfl⟩ := h
        clear HH
        go_wp2_with fail
        all_goals first
          | (exfalso; omega)
          | (refine bodyPost_ret (results_list (rs := [.cell 2 31, .tmp 3]) rfl (by simp) (.cell w.heap.size 31 #[.string ⟨#[]⟩, .slice none 0 0] (0, 0) _ rfl (by simpa using blk_set (blk_set BY.out 0 _) 1 _) Try.underlying31 rfl (by kernel_rfl) (.tmp .nil))) rfl ?_
             exact ⟨_, rfl, Kd.S_nil _ _ _ _ _, below_set (below_set (below_alloc HB1.out _) (Nat.le_refl _)) (Nat.le_refl _)⟩)
end Go.Proofs.Ytndjodgcemgpfaa.Q
end
