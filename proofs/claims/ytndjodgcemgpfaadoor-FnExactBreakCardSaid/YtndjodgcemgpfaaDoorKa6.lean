/- A part of the proof: the texts Qh20, Qh15c, Pbrk2, Qh15, packed. -/
import Derived.Lib.OthersKept
import Derived.Test.YtndjodgcemgpfaaDoorKa5

open Go.World renaming block_lt_of_cell? → ua
open List renaming setIfInBounds_toArray → ub, set_cons_zero → uc, set_cons_succ → ud, length_drop → uf, length_append → ul
open Nat renaming le_refl → um
set_option linter.unusedVariables false
set_option linter.unusedSimpArgs false
section
namespace Go.Proofs.YtndjodgcemgpfaaDoor.Q
open Go.RowKit Go.Proofs.YtndjodgcemgpfaaDoorW.PrintWords Go.Proofs.YtndjodgcemgpfaaDoorW.PrintLast Go.Proofs.YtndjodgcemgpfaaDoorW.PrintMore
def Tabs (w : World) : Prop := Go.Lib.Utf8Tabs (Tryd.laysValid_ren.g 3) (Tryd.laysValid_ren.g 4) w
theorem Tabs.below {w w' : World} (h : Tabs w) (hb : Below w.heap.size w w') : Tabs w' := Utf8Tabs_below h hb
theorem utf8_valid.calls (s : ByteArray) (w : World) (hs : s.size ≤ 9223372036854775807) (hT : Tabs w) :
  Calls Tryd.prog 55 #[.string s] w fun e w' => e = .returned (.bool (okAt s 0)) ∧ Below w.heap.size w w' := by
 have h := Any.utf8_ValidString Tryd.laysValid s w hs hT
 rw [valid_ok] at h
 exact h
section
variable {α : Type} {d : Kd α} {e base : Nat} {ok : Nat → Prop} {w : World} {v : Value} {xs : List α}
theorem R_iter (h : d.R e w base ok v xs) {k : Nat} {s : ByteArray} {p : Nat} (hk : w.heap[k]? = some (.stringIter s p)) (q : Nat) : d.R e (w.iterAt k s q) base ok v xs :=
 Kd.R_mono (Kd.R_step (Kd.R_bound h) (fun j hj hlt => Lib.iterAt_other w k j s q (fun e => by
  obtain ⟨_, _, _, q', _, cells, hc⟩ := hj
  rw [e, hk] at hc
  cases hc))) (fun _ hj => hj.1)
theorem R_notIter (h : d.R e w base ok v xs) {k : Nat} {s : ByteArray} {p : Nat} (hk : w.heap[k]? = some (.stringIter s p)) : some k ≠ v.ownBlock := fun e => by
 obtain ⟨_, _, _, q', _, cells, hc⟩ := (Kd.R_bound h).1 k e.symm
 rw [hk] at hc
 cases hc
theorem iter_lt {k : Nat} {o : Obj} (hk : w.heap[k]? = some o) : k < w.heap.size := (Array.getElem?_eq_some_iff.1 hk).1
end
set_option maxHeartbeats 8000000 in
set_option maxRecDepth 100000 in
theorem impl_Decode.calls (s : ByteArray) (w : World) (hT : Tabs w) :
  Calls Tryd.prog 20 #[.string s] w fun e w' => ∃ v0_ : Value, e = .returned (.tuple #[v0_, .int .i64 (decP s).2]) ∧ Kd.R (Kd.int .i64) 3 w' w.heap.size (fun _ => True) v0_ (decP s).1 ∧ Below w.heap.size w w' := by
 have HB := zu.mk (Below.refl w.heap.size w)
 unfold decP
 by_cases c : 65536 < s.size
 ·rw [if_pos c]
  have c1 : decide ((65536 : Int) < (s.size : Int)) = true := decide_eq_true (by omega)
  clear c
  go_enter Tryd.func20, Tryd.ntmps20
  go_wp2_with fail
  go_ret2
  exact ⟨_, rfl, Kd.R_nil _ _ _ _ _, y0⟩
 ·rw [if_neg c]
  have c1 : decide ((65536 : Int) < (s.size : Int)) = false := decide_eq_false (by omega)
  have HS := zu.mk (show s.size ≤ 65536 by omega)
  clear c
  have cV : ∀ w', Below w.heap.size w w' → Calls Tryd.prog 55 #[.string s] w' _ := fun w' hb => utf8_valid.calls s w' (by have := HS.out; omega) (hT.below hb)
  cases ho : okAt s 0 with
  | false =>
   rw [if_neg (by simp)]
   go_enter Tryd.func20, Tryd.ntmps20
   go_wp2_with fail
   refine (cV _ HB.out).mono ?_
   rintro e w7 ⟨rfl, hb⟩
   have HB7 := zu.mk hb
   clear hb HB
   rw [ho]
   go_wp2_with fail
   go_ret2
   exact ⟨_, rfl, Kd.R_nil _ _ _ _ _, by repeat (first | (with_reducible first | exact HB7.out | apply z2 | apply z1 | apply z6) | exact HB7.out)⟩
  | true =>
   rw [if_pos rfl]
   go_enter Tryd.func20, Tryd.ntmps20
   go_wp2_with fail
   refine (cV _ HB.out).mono ?_
   rintro e w7 ⟨rfl, hb⟩
   have HB7 := zu.mk hb
   clear hb HB
   rw [ho]
   go_wp2_with fail
   go_loopg [4] (s.size + 1) (fun gk v4 w' => ∃ (p : Nat) (acc : List Int), zu (w'.heap[w7.heap.size]? = some (.stringIter s p)) ∧ zu (acc ++ chars s p = chars s 0) ∧ zu (s.size - p < gk) ∧ zu (acc.length ≤ p) ∧ zu (Kd.R (Kd.int .i64) 3 w' w.heap.size (fun _ => True) v4 acc) ∧ zu (Below w.heap.size w w'))
   case atStart => exact ⟨0, [], ⟨World.iter_heap w7 s 0⟩, ⟨rfl⟩, ⟨by omega⟩, ⟨by simp⟩, ⟨Kd.R_nil _ _ _ _ _⟩, ⟨z2 HB7.out _⟩⟩
   case round =>
    obtain ⟨p, acc, HI, HA, HG, HL, HO, HB⟩ := hrel
    have h7 := HB7.out.size
    have HZ := zu.mk (show w.heap.size ≤ w7.heap.size by omega)
    clear h7
    by_cases hp : p < s.size
    ·have hnx : ∀ ty, (Instr.next (.pointer (some ⟨w7.heap.size, 0, none⟩)) true ty).run Tryd.prog wr = _ := fun ty => Lib.run_next_any_at wr w7.heap.size s p ty HI.out hp
     have hd1 : (0 : Int) ≤ ((Utf8.decode s p).1 : Int) ∧ ((Utf8.decode s p).1 : Int) ≤ 2147483647 := by have := decode_le s p; omega
     obtain ⟨r, hr⟩ : ∃ r : Int, ((Utf8.decode s p).1 : Int) = r := ⟨_, rfl⟩
     obtain ⟨W1, hW⟩ : ∃ W1, wr.iterAt w7.heap.size s (p + (Utf8.decode s p).2) = W1 := ⟨_, rfl⟩
     have hI1 := Lib.iterAt_heap wr w7.heap.size s p (p + (Utf8.decode s p).2) HI.out
     have hO1 := R_iter HO.out HI.out (p + (Utf8.decode s p).2)
     have hB1 := Lib.below_iterAt HB.out HZ.out s (p + (Utf8.decode s p).2)
     have hA := HA.out
     rw [chars_cons hp, hr] at hA
     rw [hW] at hI1 hO1 hB1
     rw [hr] at hnx hd1
     rw [hW] at hnx
     clear HI HO HB HA
     have HI := zu.mk hI1
     have HO := zu.mk hO1
     have HB := zu.mk hB1
     have HA := zu.mk hA
     clear hI1 hO1 hB1 hA hW
     obtain ⟨y, hy⟩ : ∃ y_ : List Int, y_ = acc ++ [r] := ⟨_, rfl⟩
     have NY := zu.mk hy
     clear hy
     have HP := zu.mk hp
     clear hp
     go_wp2_with (first | ((with_reducible refine zo (b := .append) (xs := #[.tmp 18, .tmp 21]) rfl ?_); at_builtin; refine Kd.R_append (Kd.int .i64) (w0 := w) w.heap.size rfl (.tmp 18) (.tmp 21) 36 3 (.int .i64 0) 8 rfl Tryd.underlying36 info3 rfl (by decide) (by omega) u4 acc r [.int .i64 r] (fun _ => True) (fun _ => False) rfl rfl ?aP (fun _ hk => hk.elim) ?aF ?aO ?aB ?aS ?aL ?_; (case aP => exact rfl); (case aB => exact HB.out); (case aF => exact (fun _ _ => trivial)); (case aO => exact HO.out); (case aS => exact (zg HB.out)); (case aL => have := HL.out; have := HS.out; have := HP.out; omega); intro v126 w12 ho hb hg hat; rw [← NY.out] at ho; have hI2 := (hg.block w7.heap.size (iter_lt HI.out) (R_notIter HO.out HI.out)).trans HI.out; have n0_ := zu.mk (hb); have n1_ := zu.mk (ho); have n2_ := zu.mk hI2; clear HB; clear HO; clear HI; have HB := n0_; have HO := n1_; have HI := n2_; clear n0_ n1_ n2_; clear ho hb hg hat hI2))
     obtain ⟨k1, rfl⟩ : ∃ k1, gk = k1 + 1 := ⟨gk - 1, by have := HG.out; omega⟩
     have hw := Go.Lib.width_pos s p
     go_roundg k1
     case measure => omega
     case rel => exact ⟨p + (Utf8.decode s p).2, y, HI, ⟨by rw [NY.out, List.append_assoc]; exact HA.out⟩, ⟨by have := HG.out; have := HP.out; omega⟩, ⟨by have := HL.out; rw [NY.out, ul, List.length_singleton]; omega⟩, HO, HB⟩
    ·have hnx : ∀ ty, (Instr.next (.pointer (some ⟨w7.heap.size, 0, none⟩)) true ty).run Tryd.prog wr = _ := fun ty => Lib.run_next_end_at wr w7.heap.size s p ty HI.out hp
     have hA := HA.out
     rw [chars_end hp, List.append_nil] at hA
     subst hA
     go_wp2_with fail
     go_ret2
     exact ⟨_, rfl, HO.out, HB.out⟩
end Go.Proofs.YtndjodgcemgpfaaDoor.Q
end
section
namespace Go.Proofs.YtndjodgcemgpfaaDoor.Q
open Go.RowKit Go.Proofs.YtndjodgcemgpfaaDoorW.PrintWords Go.Proofs.YtndjodgcemgpfaaDoorW.PrintLast Go.Proofs.YtndjodgcemgpfaaDoorW.PrintMore
theorem class_call (r : Int) (w : World) : Calls Tryd.prog 47 #[.int .i64 r] w fun e w' => e = .returned (.int .i64 (cls r)) ∧ Drawn0 w w' := impl_Class.calls 3 r (cls r) w (implClass_ev 0 r)
set_option maxHeartbeats 8000000 in
set_option maxRecDepth 100000 in
theorem solid.calls (b : Nat) (A : Option Addr) (c : Nat) (l : List Int) (i : Int) (w : World) (hx : w.heap[b]? = some (.cells #[.slice A l.length c] 36 (0, 0))) (hC : Kd.C (Kd.int .i64) w A l.length l) :
  Calls Tryd.prog 46 #[.int .i64 i, .pointer (some ⟨b, 0, none⟩)] w fun e w' => e = .returned (.bool (solidP l i)) ∧ Drawn0 w w' := by
 have x0 := (za hx 0).trans rfl
 unfold solidP
 by_cases c1 : i < 0
 ·have c1' : decide (i < 0) = true := decide_eq_true c1
  rw [decide_eq_false (show ¬ 0 ≤ i by omega), Bool.false_and]
  go_enter Tryd.func46, Tryd.ntmps46
  go_wp2_with fail
  go_ret
  exact ⟨rfl, y1⟩
 have c1' : decide (i < 0) = false := decide_eq_false c1
 rw [decide_eq_true (show 0 ≤ i by omega), Bool.true_and]
 by_cases c2 : (l.length : Int) ≤ i
 ·have c2' : decide ((l.length : Int) ≤ i) = true := decide_eq_true c2
  rw [decide_eq_false (show ¬ i < (l.length : Int) by omega), Bool.false_and]
  go_enter Tryd.func46, Tryd.ntmps46
  go_wp2_with fail
  go_ret
  exact ⟨rfl, y1⟩
 have c2' : decide ((l.length : Int) ≤ i) = false := decide_eq_false c2
 rw [decide_eq_true (show i < (l.length : Int) by omega), Bool.true_and]
 obtain ⟨ad, e1, hx1⟩ := Kd.at_int hC i (by omega) (by omega)
 subst e1
 have p1 : (0 ≤ i) = True := eq_true (by omega)
 have p2 : (i < (l.length : Int)) = True := eq_true (by omega)
 have cC := fun w => class_call (rd l i) w
 unfold inner
 obtain ⟨q, hq⟩ : ∃ q, cls (rd l i) = q := ⟨_, rfl⟩
 rw [hq] at cC ⊢
 cases d1 : (q == 1) with
 | true =>
  go_enter Tryd.func46, Tryd.ntmps46
  go_wp2_with fail
  refine (cC _).mono ?_
  rintro e w1 ⟨rfl, m, rfl⟩
  go_wp2_with fail
  go_ret
  exact ⟨rfl, y1⟩
 | false =>
  go_enter Tryd.func46, Tryd.ntmps46
  go_wp2_with fail
  refine (cC _).mono ?_
  rintro e w1 ⟨rfl, m, rfl⟩
  go_wp2_with fail
  go_ret
  exact ⟨rfl, y1⟩
theorem cell_of_block {w w' : World} {a : Addr} (h : w'.heap[a.block]? = w.heap[a.block]?) : w'.cell? a = w.cell? a := by unfold World.cell?; rw [h]
def KeepO (w w' : World) (bo : Nat) (vo : Value) : Prop := ∀ k, k < w.heap.size → k ≠ bo → some k ≠ vo.ownBlock → w'.heap[k]? = w.heap[k]?
set_option maxHeartbeats 8000000 in
set_option maxRecDepth 100000 in
theorem put.calls (b0 b7 bo : Nat) (A7 : Option Addr) (c7 : Nat) (s : ByteArray) (at' : List Int) (vo : Value) (acc : List S43) (i j base : Nat) (w0 w : World)
  (h0 : w.heap[b0]? = some (.cells #[.string s] 9 (0, 0))) (h7 : w.heap[b7]? = some (.cells #[.slice A7 at'.length c7] 36 (0, 0))) (ho : w.heap[bo]? = some (.cells #[vo] 28 (0, 0))) (hC : Kd.C (Kd.int .i64) w A7 at'.length at') (hne : ∀ a, A7 = some a → some a.block ≠ vo.ownBlock)
  (hR : Kd.R k43 43 w base (fun _ => True) vo acc) (hB : Below base w0 w) (hbs : base ≤ w.heap.size) (hbo : base ≤ bo) (hl : acc.length ≤ 1048576) (hi : i < at'.length) (hj : j < at'.length) (e0 : 0 ≤ rd at' (i : Int)) (e1 : rd at' (i : Int) ≤ rd at' (j : Int)) (e2 : rd at' (j : Int) ≤ (s.size : Int)) (hs : s.size ≤ 1048576) :
  Calls Tryd.prog 48 #[.int .i64 (i : Int), .int .i64 (j : Int), .pointer (some ⟨bo, 0, none⟩), .pointer (some ⟨b0, 0, none⟩), .pointer (some ⟨b7, 0, none⟩)] w fun e w' => e = .returned (.tuple #[]) ∧ ∃ vo' : Value, w'.heap[bo]? = some (.cells #[vo'] 28 (0, 0)) ∧
   Kd.R k43 43 w' base (fun _ => True) vo' (acc ++ [tok s at' i j acc.length]) ∧ Below base w0 w' ∧ KeepO w w' bo vo := by
 obtain ⟨Ao, co, e3⟩ := Kd.R_slice hR
 subst e3
 have x0 := (za h0 0).trans rfl
 have x7 := (za h7 0).trans rfl
 have xo := (za ho 0).trans rfl
 have fo := z8 ho 0
 obtain ⟨I, hI⟩ : ∃ I : Int, (i : Int) = I := ⟨_, rfl⟩
 obtain ⟨J, hJ⟩ : ∃ J : Int, (j : Int) = J := ⟨_, rfl⟩
 have pi0 : 0 ≤ I := by omega
 have pi1 : I < (at'.length : Int) := by omega
 have pj0 : 0 ≤ J := by omega
 have pj1 : J < (at'.length : Int) := by omega
 unfold tok
 rw [hI] at e0 e1 ⊢
 rw [hJ] at e1 e2 ⊢
 obtain ⟨ad, e3, hx1⟩ := Kd.at_int hC I pi0 pi1
 subst e3
 obtain ⟨ad', e3, hx2⟩ := Kd.at_int hC J pj0 pj1
 obtain rfl : ad = ad' := by injection e3
 clear e3 hI hJ hi hj
 obtain ⟨X, hX⟩ : ∃ X : Int, rd at' I = X := ⟨_, rfl⟩
 obtain ⟨Y, hY⟩ : ∃ Y : Int, rd at' J = Y := ⟨_, rfl⟩
 rw [hX] at e0 e1 hx1 ⊢
 rw [hY] at e1 e2 hx2 ⊢
 clear hX hY
 replace e0 := eq_true e0
 replace e1 := eq_true e1
 replace e2 := eq_true e2
 replace pi0 := eq_true pi0
 replace pi1 := eq_true pi1
 replace pj0 := eq_true pj0
 replace pj1 := eq_true pj1
 go_enter Tryd.func48, Tryd.ntmps48
 go_wp2_with fail
 refine start_ (n := 25) (S := fun w' => w'.cell? ⟨bo, 0, none⟩ = some (.slice Ao acc.length co) ∧ w'.cell? ⟨b0, 0, none⟩ = some (.string s) ∧ w'.cell? ⟨b7, 0, none⟩ = some (.slice (some ad) at'.length c7) ∧ w'.cell? (ad.add I.toNat) = some (.int .i64 X) ∧ w'.cell? (ad.add J.toNat) = some (.int .i64 Y)) (ds := [24]) #[false, false, false, false, false, false, false, false, false, false, false, false, false, false, false, false, false, false, false, false, false, false, false, false, false] (by kernel_rfl) rfl rfl ⟨xo, x0, x7, hx1, hx2⟩ (fun hHeld => ?_)
 have BO := zd ho
 have B0 := zd h0
 have B7 := zd h7
 have RR := Kd.R_drew hR
 have CC := Kd.C_below hC (below_drew (Below.refl _ _))
 have BB := below_drew hB
 have sz : base ≤ w.drew.heap.size := Nat.le_trans hbs (below_drew (Below.refl w.heap.size w)).size
 have sz1 : w.heap.size ≤ w.drew.heap.size := (below_drew (Below.refl w.heap.size w)).size
 have k0 : ∀ k, k < w.heap.size → w.drew.heap[k]? = w.heap[k]? := fun k hk => (below_drew (Below.refl w.heap.size w)).block k hk
 generalize w.drew = w1 at BO B0 B7 RR CC BB sz sz1 k0 hHeld ⊢
 refine take_ (i := 0) (N := some 7) (v := ?_) (a' := ?_) #[true, false, false, false, false, false, false, false, false, false, false, false, false, false, false, false, false, false, false, false, false, false, false, false, false] rfl rfl (by kernel_rfl) (fun _ _ _ h => h) (Or.inl ⟨by rfl, ?_⟩) hHeld ?_ ?_
 rotate_left
 ·rintro w' ⟨s0, s1, s2, s3, s4⟩
  go_simp
  with_reducible rfl
 rotate_left
 ·simp only [Act.put, ub, uc, ud, zk, zl]
  rfl
 refine take_ (i := 1) (N := some 8) (v := ?_) (a' := ?_) #[true, true, false, false, false, false, false, false, false, false, false, false, false, false, false, false, false, false, false, false, false, false, false, false, false] rfl rfl (by kernel_rfl) (fun _ _ _ h => h) (Or.inl ⟨by rfl, ?_⟩) hHeld ?_ ?_
 rotate_left
 ·rintro w' ⟨s0, s1, s2, s3, s4⟩
  go_simp
  with_reducible rfl
 rotate_left
 ·simp only [Act.put, ub, uc, ud, zk, zl]
  rfl
 refine take_ (i := 2) (N := some 9) (v := ?_) (a' := ?_) #[true, true, true, false, false, false, false, false, false, false, false, false, false, false, false, false, false, false, false, false, false, false, false, false, false] rfl rfl (by kernel_rfl) (fun _ _ _ h => h) (Or.inl ⟨by rfl, ?_⟩) hHeld ?_ ?_
 rotate_left
 ·rintro w' ⟨s0, s1, s2, s3, s4⟩
  go_simp
  with_reducible rfl
 rotate_left
 ·simp only [Act.put, ub, uc, ud, zk, zl]
  rfl
 refine pure_ (i := 3) (N := some 10) (v := ?_) (a' := ?_) #[true, true, true, true, false, false, false, false, false, false, false, false, false, false, false, false, false, false, false, false, false, false, false, false, false] rfl rfl (by kernel_rfl) (fun _ _ _ h => h) (Or.inl ⟨by rfl, ?_⟩) ?_ ?_
 rotate_left
 ·intro w'
  go_simp
  with_reducible rfl
 rotate_left
 ·simp only [Act.put, ub, uc, ud, zk, zl]
  rfl
 refine pure_ (i := 4) (N := some 11) (v := ?_) (a' := ?_) #[true, true, true, true, true, false, false, false, false, false, false, false, false, false, false, false, false, false, false, false, false, false, false, false, false] rfl rfl (by kernel_rfl) (fun _ _ _ h => h) (Or.inl ⟨by rfl, ?_⟩) ?_ ?_
 rotate_left
 ·intro w'
  go_simp
  with_reducible rfl
 rotate_left
 ·simp only [Act.put, ub, uc, ud, zk, zl]
  rfl
 refine take_ (i := 5) (N := some 12) (v := ?_) (a' := ?_) #[true, true, true, true, true, true, false, false, false, false, false, false, false, false, false, false, false, false, false, false, false, false, false, false, false] rfl rfl (by kernel_rfl) (fun _ _ _ h => h) (Or.inl ⟨by rfl, ?_⟩) hHeld ?_ ?_
 rotate_left
 ·rintro w' ⟨s0, s1, s2, s3, s4⟩
  go_simp
  with_reducible rfl
 rotate_left
 ·simp only [Act.put, ub, uc, ud, zk, zl]
  rfl
 refine take_ (i := 6) (N := some 13) (v := ?_) (a' := ?_) #[true, true, true, true, true, true, true, false, false, false, false, false, false, false, false, false, false, false, false, false, false, false, false, false, false] rfl rfl (by kernel_rfl) (fun _ _ _ h => h) (Or.inl ⟨by rfl, ?_⟩) hHeld ?_ ?_
 rotate_left
 ·rintro w' ⟨s0, s1, s2, s3, s4⟩
  go_simp
  with_reducible rfl
 rotate_left
 ·simp only [Act.put, ub, uc, ud, zk, zl]
  rfl
 refine pure_ (i := 7) (N := some 14) (v := ?_) (a' := ?_) #[true, true, true, true, true, true, true, true, false, false, false, false, false, false, false, false, false, false, false, false, false, false, false, false, false] rfl rfl (by kernel_rfl) (fun _ _ _ h => h) (Or.inl ⟨by rfl, ?_⟩) ?_ ?_
 rotate_left
 ·intro w'
  go_simp
  with_reducible rfl
 rotate_left
 ·simp only [Act.put, ub, uc, ud, zk, zl]
  rfl
 refine pure_ (i := 8) (N := some 15) (v := ?_) (a' := ?_) #[true, true, true, true, true, true, true, true, true, false, false, false, false, false, false, false, false, false, false, false, false, false, false, false, false] rfl rfl (by kernel_rfl) (fun _ _ _ h => h) (Or.inl ⟨by rfl, ?_⟩) ?_ ?_
 rotate_left
 ·intro w'
  go_simp
  with_reducible rfl
 rotate_left
 ·simp only [Act.put, ub, uc, ud, zk, zl]
  rfl
 refine take_ (i := 9) (N := some 16) (v := ?_) (a' := ?_) #[true, true, true, true, true, true, true, true, true, true, false, false, false, false, false, false, false, false, false, false, false, false, false, false, false] rfl rfl (by kernel_rfl) (fun _ _ _ h => h) (Or.inl ⟨by rfl, ?_⟩) hHeld ?_ ?_
 rotate_left
 ·rintro w' ⟨s0, s1, s2, s3, s4⟩
  go_simp
  with_reducible rfl
 rotate_left
 ·simp only [Act.put, ub, uc, ud, zk, zl]
  rfl
 refine pure_ (i := 10) (N := some 17) (v := ?_) (a' := ?_) #[true, true, true, true, true, true, true, true, true, true, true, false, false, false, false, false, false, false, false, false, false, false, false, false, false] rfl rfl (by kernel_rfl) (fun _ _ _ h => h) (Or.inl ⟨by rfl, ?_⟩) ?_ ?_
 rotate_left
 ·intro w'
  go_simp
  with_reducible rfl
 rotate_left
 ·simp only [Act.put, ub, uc, ud, zk, zl]
  rfl
 refine take_ (i := 11) (N := some 18) (v := ?_) (a' := ?_) #[true, true, true, true, true, true, true, true, true, true, true, true, false, false, false, false, false, false, false, false, false, false, false, false, false] rfl rfl (by kernel_rfl) (fun _ _ _ h => h) (Or.inl ⟨by rfl, ?_⟩) hHeld ?_ ?_
 rotate_left
 ·rintro w' ⟨s0, s1, s2, s3, s4⟩
  go_simp
  with_reducible rfl
 rotate_left
 ·simp only [Act.put, ub, uc, ud, zk, zl]
  rfl
 refine pure_ (i := 12) (N := some 19) (v := ?_) (a' := ?_) #[true, true, true, true, true, true, true, true, true, true, true, true, true, false, false, false, false, false, false, false, false, false, false, false, false] rfl rfl (by kernel_rfl) (fun _ _ _ h => h) (Or.inl ⟨by rfl, ?_⟩) ?_ ?_
 rotate_left
 ·intro w'
  go_simp
  with_reducible rfl
 rotate_left
 ·simp only [Act.put, ub, uc, ud, zk, zl]
  rfl
 refine take_ (i := 13) (N := some 20) (v := ?_) (a' := ?_) #[true, true, true, true, true, true, true, true, true, true, true, true, true, true, false, false, false, false, false, false, false, false, false, false, false] rfl rfl (by kernel_rfl) (fun _ _ _ h => h) (Or.inl ⟨by rfl, ?_⟩) hHeld ?_ ?_
 rotate_left
 ·rintro w' ⟨s0, s1, s2, s3, s4⟩
  go_simp
  with_reducible rfl
 rotate_left
 ·simp only [Act.put, ub, uc, ud, zk, zl]
  rfl
 refine pure_ (i := 14) (N := some 21) (v := ?_) (a' := ?_) #[true, true, true, true, true, true, true, true, true, true, true, true, true, true, true, false, false, false, false, false, false, false, false, false, false] rfl rfl (by kernel_rfl) (fun _ _ _ h => h) (Or.inl ⟨by rfl, ?_⟩) ?_ ?_
 rotate_left
 ·intro w'
  go_simp
  with_reducible rfl
 rotate_left
 ·simp only [Act.put, ub, uc, ud, zk, zl]
  rfl
 refine pure_ (i := 15) (N := some 22) (v := ?_) (a' := ?_) #[true, true, true, true, true, true, true, true, true, true, true, true, true, true, true, true, false, false, false, false, false, false, false, false, false] rfl rfl (by kernel_rfl) (fun _ _ _ h => h) (Or.inl ⟨by rfl, ?_⟩) ?_ ?_
 rotate_left
 ·intro w'
  go_simp
  with_reducible rfl
 rotate_left
 ·simp only [Act.put, ub, uc, ud, zk, zl]
  rfl
 refine take_ (i := 16) (N := some 23) (v := ?_) (a' := ?_) #[true, true, true, true, true, true, true, true, true, true, true, true, true, true, true, true, true, false, false, false, false, false, false, false, false] rfl rfl (by kernel_rfl) (fun _ _ _ h => h) (Or.inl ⟨by rfl, ?_⟩) hHeld ?_ ?_
 rotate_left
 ·rintro w' ⟨s0, s1, s2, s3, s4⟩
  go_simp
  with_reducible rfl
 rotate_left
 ·simp only [Act.put, ub, uc, ud, zk, zl]
  rfl
 refine take_ (i := 17) (N := some 24) (v := ?_) (a' := ?_) #[true, true, true, true, true, true, true, true, true, true, true, true, true, true, true, true, true, true, false, false, false, false, false, false, false] rfl rfl (by kernel_rfl) (fun _ _ _ h => h) (Or.inl ⟨by rfl, ?_⟩) hHeld ?_ ?_
 rotate_left
 ·rintro w' ⟨s0, s1, s2, s3, s4⟩
  go_simp
  with_reducible rfl
 rotate_left
 ·simp only [Act.put, ub, uc, ud, zk, zl]
  rfl
 refine pure_ (i := 18) (N := some 25) (v := ?_) (a' := ?_) #[true, true, true, true, true, true, true, true, true, true, true, true, true, true, true, true, true, true, true, false, false, false, false, false, false] rfl rfl (by kernel_rfl) (fun _ _ _ h => h) (Or.inl ⟨by rfl, ?_⟩) ?_ ?_
 rotate_left
 ·intro w'
  go_simp
  with_reducible rfl
 rotate_left
 ·simp only [Act.put, ub, uc, ud, zk, zl]
  rfl
 refine pure_ (i := 19) (N := some 26) (v := ?_) (a' := ?_) #[true, true, true, true, true, true, true, true, true, true, true, true, true, true, true, true, true, true, true, true, false, false, false, false, false] rfl rfl (by kernel_rfl) (fun _ _ _ h => h) (Or.inl ⟨by rfl, ?_⟩) ?_ ?_
 rotate_left
 ·intro w'
  go_simp
  with_reducible rfl
 rotate_left
 ·simp only [Act.put, ub, uc, ud, zk, zl]
  rfl
 refine take_ (i := 20) (N := some 27) (v := ?_) (a' := ?_) #[true, true, true, true, true, true, true, true, true, true, true, true, true, true, true, true, true, true, true, true, true, false, false, false, false] rfl rfl (by kernel_rfl) (fun _ _ _ h => h) (Or.inl ⟨by rfl, ?_⟩) hHeld ?_ ?_
 rotate_left
 ·rintro w' ⟨s0, s1, s2, s3, s4⟩
  go_simp
  with_reducible rfl
 rotate_left
 ·simp only [Act.put, ub, uc, ud, zk, zl]
  rfl
 refine pure_ (i := 21) (N := some 28) (v := ?_) (a' := ?_) #[true, true, true, true, true, true, true, true, true, true, true, true, true, true, true, true, true, true, true, true, true, true, false, false, false] rfl rfl (by kernel_rfl) (fun _ _ _ h => h) (Or.inl ⟨by rfl, ?_⟩) ?_ ?_
 rotate_left
 ·intro w'
  go_simp
  with_reducible rfl
 rotate_left
 ·simp only [Act.put, ub, uc, ud, zk, zl]
  rfl
 refine one_ (i := 22) (N := some 29) #[true, true, true, true, true, true, true, true, true, true, true, true, true, true, true, true, true, true, true, true, true, true, true, false, false] rfl rfl (by kernel_rfl) (by decide) (fun K hK => ?_)
 refine value_ (w1 := ?_) (v := ?_) (by rfl) rfl ?_ ?_
 rotate_left 2
 ·go_simp
  constructor
  ·rfl
  ·rfl
 have BO' := zb BO (.cells #[.string (s.extract X.toNat Y.toNat), .int .i64 (acc.length : Int), .int .i64 X, .int .i64 Y] 43)
 have lt0 := iter_lt BO
 refine hK.out _ _ ⟨(za BO' 0).trans rfl, (za (zb B0 _) 0).trans rfl, (za (zb B7 _) 0).trans rfl, ((z2 (Below.refl _ w1) _).cell (ua w1 _ hHeld.2.2.2.1)).trans hHeld.2.2.2.1, ((z2 (Below.refl _ w1) _).cell (ua w1 _ hHeld.2.2.2.2)).trans hHeld.2.2.2.2⟩ (fun hHeld1 => ?_)
 have hHeld0 := hHeld
 clear hHeld
 clear hK K
 refine norm_ (a' := ?_) ?_ ?_
 rotate_left
 ·show Act.put _ (some 29) _ = _
  simp only [Act.put, ub, uc, ud, zk, zl]
  rfl
 refine one_ (i := 23) (N := some 30) #[true, true, true, true, true, true, true, true, true, true, true, true, true, true, true, true, true, true, true, true, true, true, true, true, false] rfl rfl (by kernel_rfl) (by decide) (fun K hK => ?_)
 refine Kd.R_append_step k43 (w0 := w0) base (by rfl) (.tmp 7) (.tmp 29) 28 43 (.agg #[(.string ⟨#[]⟩), (.int .i64 0), (.int .i64 0), (.int .i64 0)]) 40 rfl Tryd.underlying28 info43 rfl (by decide) (by omega) (.slice Ao acc.length co) acc (⟨s.extract X.toNat Y.toNat, (acc.length : Int), X, Y⟩ : S43) [.string (s.extract X.toNat Y.toNat), .int .i64 (acc.length : Int), .int .i64 X, .int .i64 Y] (fun _ => True) (fun _ => False) rfl rfl ?aP (fun _ hk => hk.elim) ?aF ?aO ?aB ?aS ?aL ?_
 (case aP => exact k43_mkM _ _ _ (⟨s.extract X.toNat Y.toNat, (acc.length : Int), X, Y⟩ : S43))
 (case aF => exact (fun _ _ => trivial))
 (case aO => exact RR)
 (case aB => exact BB)
 (case aS => exact sz)
 (case aL => omega)
 intro v1 w2 hR2 hb2 hg2 hat2
 obtain ⟨A1, co1, e3⟩ := Kd.R_slice hR2
 subst e3
 have bo2 := (hg2.block bo lt0 (Kd.R_ne RR BO (by decide))).trans BO
 have b02 := (hg2.block b0 (iter_lt B0) (Kd.R_ne RR B0 (by decide))).trans B0
 have b72 := (hg2.block b7 (iter_lt B7) (Kd.R_ne RR B7 (by decide))).trans B7
 have l1 := ua w1 _ hHeld0.2.2.2.1
 have c1 := (cell_of_block (hg2.block _ (by rw [add_block] at l1 ⊢; exact l1) (by rw [add_block]; exact hne ad rfl))).trans hHeld0.2.2.2.1
 have c2 := (cell_of_block (hg2.block _ (by rw [add_block] at l1 ⊢; exact l1) (by rw [add_block]; exact hne ad rfl))).trans hHeld0.2.2.2.2
 refine hK.out _ _ ⟨(za bo2 0).trans rfl, (za b02 0).trans rfl, (za b72 0).trans rfl, c1, c2⟩ (fun hHeld => ?_)
 clear hK K
 refine norm_ (a' := ?_) ?_ ?_
 rotate_left
 ·show Act.put _ (some 30) _ = _
  simp only [Act.put, ub, uc, ud, zk, zl]
  rfl
 refine last_ (i := 24) (N := none) #[true, true, true, true, true, true, true, true, true, true, true, true, true, true, true, true, true, true, true, true, true, true, true, true, true] rfl rfl (by kernel_rfl) (by decide) (fun K hK => ?_)
 have hs9 := (za bo2 0).trans rfl
 have hf := z8 bo2 0
 refine skip_ (w1 := ?_) (by rfl) rfl ?_ ?_
 rotate_left
 ·go_simp
  rfl
 refine hK.out _ _ ?_
 clear hK K
 refine done_ (by kernel_rfl) ?_
 go_end0
 refine ⟨rfl, _, blk_set bo2 0 _, ?_, ?_, ?_⟩
 ·simp only [ul, List.length_singleton] at hR2 ⊢
  exact Kd.R_set hR2 bo2 (by decide) 0 _
 ·exact hb2.setCell (p := ⟨bo, 0, none⟩) hbo _
 ·intro k hk h1 h2
  rw [Below.heap_setCell w2 _ _ k h1, hg2.block k (by omega) h2, k0 k hk]
end Go.Proofs.YtndjodgcemgpfaaDoor.Q
end
section
namespace Go.Proofs.YtndjodgcemgpfaaDoor.Q
open Go.RowKit Go.Proofs.YtndjodgcemgpfaaDoorW.PrintWords Go.Proofs.YtndjodgcemgpfaaDoorW.PrintLast Go.Proofs.YtndjodgcemgpfaaDoorW.PrintMore
open Go.Lib (decodeN decode_at)
theorem chars_len (s : ByteArray) : ∀ d p : Nat, s.size - p ≤ d → (chars s p).length ≤ s.size - p ∧ (offs s p).length = (chars s p).length := by
 intro d
 induction d with
 | zero => intro p h; rw [chars_end (by omega), offs_end (by omega)]; exact ⟨Nat.zero_le _, rfl⟩
 | succ d ih =>
  intro p h
  by_cases hp : p < s.size
  ·have hw := Go.Lib.width_pos s p
   obtain ⟨h1, h2⟩ := ih (p + (Utf8.decode s p).2) (by omega)
   rw [chars_cons hp, offs_cons hp, List.length_cons, List.length_cons, h2]
   omega
  ·rw [chars_end hp, offs_end hp]; exact ⟨Nat.zero_le _, rfl⟩
theorem offs_len (s : ByteArray) (p : Nat) : (offs s p).length = (chars s p).length := (chars_len s (s.size - p) p (um _)).2
theorem ats_len (s : ByteArray) : (ats s).length = (chars s 0).length + 1 := by
 unfold ats
 rw [ul, offs_len]
 rfl
theorem decode_fit (s : ByteArray) (p : Nat) (h : p < s.size) : p + (Utf8.decode s p).2 ≤ s.size := by
 rw [decode_at]
 have hN : 1 ≤ s.size - p := by omega
 have : (decodeN (s.size - p) (s.get! p).toNat (s.get! (p + 1)).toNat (s.get! (p + 2)).toNat (s.get! (p + 3)).toNat).2 ≤ s.size - p := by
  generalize s.size - p = N at hN
  unfold decodeN
  repeat' split
  all_goals (simp only; omega)
 omega
theorem chars_posn (s : ByteArray) : ∀ i : Nat, i ≤ (chars s 0).length → chars s (posn s i) = (chars s 0).drop i ∧ offs s (posn s i) = (offs s 0).drop i ∧ posn s i ≤ s.size := by
 intro i
 induction i with
 | zero => intro _; exact ⟨rfl, rfl, Nat.zero_le _⟩
 | succ i ih =>
  intro h
  obtain ⟨h1, h2, h3⟩ := ih (by omega)
  have hp : posn s i < s.size := by
   refine Classical.byContradiction fun hn => ?_
   rw [chars_end hn] at h1
   have := congrArg List.length h1
   rw [uf, List.length_nil] at this
   omega
  have hf := decode_fit s (posn s i) hp
  rw [chars_cons hp] at h1
  rw [offs_cons hp] at h2
  have e : posn s (i + 1) = posn s i + (Utf8.decode s (posn s i)).2 := rfl
  rw [e]
  refine ⟨?_, ?_, hf⟩
  ·rw [← List.drop_drop, ← h1]; rfl
  ·rw [← List.drop_drop, ← h2]; rfl
theorem posn_lt (s : ByteArray) (i : Nat) (h : i < (chars s 0).length) : posn s i < s.size := by
 obtain ⟨h1, _, _⟩ := chars_posn s i (by omega)
 refine Classical.byContradiction fun hn => ?_
 rw [chars_end hn] at h1
 have := congrArg List.length h1
 rw [uf, List.length_nil] at this
 omega
theorem posn_end (s : ByteArray) : posn s (chars s 0).length = s.size := by
 obtain ⟨h1, _, h3⟩ := chars_posn s _ (um _)
 refine Nat.le_antisymm h3 (Nat.le_of_not_lt fun hn => ?_)
 rw [chars_cons hn] at h1
 have := congrArg List.length h1
 rw [uf, List.length_cons] at this
 omega
theorem posn_le (s : ByteArray) : ∀ d i : Nat, posn s i ≤ posn s (i + d) := by
 intro d
 induction d with
 | zero => intro i; exact um _
 | succ d ih =>
  intro i
  have h : posn s (i + (d + 1)) = posn s (i + d) + (Utf8.decode s (posn s (i + d))).2 := rfl
  have := ih i
  omega
theorem rd_chars (s : ByteArray) (i : Nat) (h : i < (chars s 0).length) : rd (chars s 0) (i : Int) = ((Utf8.decode s (posn s i)).1 : Int) := by
 obtain ⟨h1, _, _⟩ := chars_posn s i (by omega)
 rw [chars_cons (posn_lt s i h)] at h1
 have h4 : (chars s 0)[i]? = some ((Utf8.decode s (posn s i)).1 : Int) := by
  have := congrArg (fun l => l[0]?) h1
  simp only [List.getElem?_cons_zero, List.getElem?_drop, Nat.add_zero] at this
  exact this.symm
 unfold rd
 rw [List.getD_eq_getElem?_getD, Int.toNat_natCast, h4]
 rfl
theorem rd_ats (s : ByteArray) (i : Nat) (h : i ≤ (chars s 0).length) : rd (ats s) (i : Int) = ((posn s i : Nat) : Int) := by
 unfold rd ats
 rw [List.getD_eq_getElem?_getD, Int.toNat_natCast]
 by_cases hi : i < (chars s 0).length
 ·obtain ⟨_, h2, _⟩ := chars_posn s i h
  rw [offs_cons (posn_lt s i hi)] at h2
  have h4 : (offs s 0)[i]? = some ((posn s i : Nat) : Int) := by
   have := congrArg (fun l => l[0]?) h2
   simp only [List.getElem?_cons_zero, List.getElem?_drop, Nat.add_zero] at this
   exact this.symm
  rw [List.getElem?_append_left (by rw [offs_len]; exact hi), h4]
  rfl
 ·obtain rfl : i = (chars s 0).length := by omega
  rw [posn_end, List.getElem?_append_right (by rw [offs_len]; exact um _), offs_len, Nat.sub_self]
  rfl
theorem ats_mono (s : ByteArray) (i j : Nat) (h : i ≤ j) (hj : j ≤ (chars s 0).length) : 0 ≤ rd (ats s) (i : Int) ∧ rd (ats s) (i : Int) ≤ rd (ats s) (j : Int) ∧ rd (ats s) (j : Int) ≤ (s.size : Int) := by
 rw [rd_ats s i (by omega), rd_ats s j hj]
 have h1 := posn_le s (j - i) i
 rw [show i + (j - i) = j by omega] at h1
 have h2 := (chars_posn s j hj).2.2
 omega
end Go.Proofs.YtndjodgcemgpfaaDoor.Q
end
section
namespace Go.Proofs.YtndjodgcemgpfaaDoor.Q
open Go.RowKit Go.Proofs.YtndjodgcemgpfaaDoorW.PrintWords Go.Proofs.YtndjodgcemgpfaaDoorW.PrintLast Go.Proofs.YtndjodgcemgpfaaDoorW.PrintMore
theorem blk_iter {w : World} {g k t : Nat} {cs : Array Value} {s : ByteArray} {p : Nat} (h : w.heap[g]? = some (.cells cs t (0, 0))) (hk : w.heap[k]? = some (.stringIter s p)) (q : Nat) : (w.iterAt k s q).heap[g]? = some (.cells cs t (0, 0)) :=
 (Lib.iterAt_other w k g s q (fun e => by rw [e, hk] at h; cases h)).trans h
theorem iter_notCell {w : World} {g k t : Nat} {cs : Array Value} {s : ByteArray} {p : Nat} (h : w.heap[g]? = some (.cells cs t (0, 0))) (hk : w.heap[k]? = some (.stringIter s p)) : k ≠ g := fun e => by rw [e, h] at hk; cases hk
theorem ne_after {v7 v6 v6' : Value} {n : Nat} (h : ∀ k, v7.ownBlock = some k → some k ≠ v6.ownBlock) (hl : ∀ k, v7.ownBlock = some k → k < n) (hat : v6'.ownBlock = v6.ownBlock ∨ ∃ b, v6'.ownBlock = some b ∧ n ≤ b) : ∀ k, v7.ownBlock = some k → some k ≠ v6'.ownBlock := fun k hk e => by
 rcases hat with h1 | ⟨b, h1, h2⟩
 ·rw [h1] at e; exact h k hk e
 ·rw [h1] at e; cases e; have := hl k hk; omega
theorem ne_after' {v7 v6 v7' : Value} {n : Nat} (h : ∀ k, v7.ownBlock = some k → some k ≠ v6.ownBlock) (hl : ∀ k, v6.ownBlock = some k → k < n) (hat : v7'.ownBlock = v7.ownBlock ∨ ∃ b, v7'.ownBlock = some b ∧ n ≤ b) : ∀ k, v7'.ownBlock = some k → some k ≠ v6.ownBlock := fun k hk e => by
 rcases hat with h1 | ⟨b, h1, h2⟩
 ·rw [h1] at hk; exact h k hk e
 ·rw [h1] at hk; cases hk; have := hl k e.symm; omega
theorem toks_end {s : ByteArray} {a l : List Int} {i n : Nat} (h : ¬ i < l.length) : toks s a l i n = [] := by rw [toks, dif_neg h]
theorem toks_word {s : ByteArray} {a l : List Int} {i n : Nat} (h : i < l.length) (g : i < stop l i) : toks s a l i n = tok s a i (stop l i) n :: toks s a l (stop l i) (n + 1) := by rw [toks, dif_pos h, dif_pos g]
theorem toks_skip {s : ByteArray} {a l : List Int} {i n : Nat} (h : i < l.length) (g : ¬ i < stop l i) : toks s a l i n = toks s a l (i + 1) n := by rw [toks, dif_pos h, dif_neg g]
structure St (w w' : World) (b6 b7 bo : Nat) (A6 A7 : Option Addr) (c6 c7 : Nat) (s : ByteArray) (at' l : List Int) (vo : Value) (acc : List S43) : Prop where
 n6 : w.heap.size < b6
 n7 : b6 < b7
 no : b7 < bo
 b0 : w'.heap[w.heap.size]? = some (.cells #[.string s] 9 (0, 0))
 b6 : w'.heap[b6]? = some (.cells #[.slice A6 l.length c6] 36 (0, 0))
 b7 : w'.heap[b7]? = some (.cells #[.slice A7 at'.length c7] 36 (0, 0))
 bo : w'.heap[bo]? = some (.cells #[vo] 28 (0, 0))
 r6 : Kd.R (Kd.int .i64) 3 w' w.heap.size (fun _ => True) (.slice A6 l.length c6) l
 r7 : Kd.R (Kd.int .i64) 3 w' w.heap.size (fun _ => True) (.slice A7 at'.length c7) at'
 ro : Kd.R k43 43 w' w.heap.size (fun _ => True) vo acc
 hb : Below w.heap.size w w'
section
variable {w w' : World} {b6 b7 bo : Nat} {A6 A7 : Option Addr} {c6 c7 : Nat} {s : ByteArray} {at' l : List Int} {vo : Value} {acc : List S43}
theorem St.drewN (h : St w w' b6 b7 bo A6 A7 c6 c7 s at' l vo acc) (m : Nat) : St w (w'.drewN m) b6 b7 bo A6 A7 c6 c7 s at' l vo acc :=
 ⟨h.n6, h.n7, h.no, zc h.b0 m, zc h.b6 m, zc h.b7 m, zc h.bo m, Kd.R_drewN h.r6 m, Kd.R_drewN h.r7 m, Kd.R_drewN h.ro m, z1 h.hb m⟩
theorem St.drawn {w2 : World} (h : St w w' b6 b7 bo A6 A7 c6 c7 s at' l vo acc) (hd : Drawn0 w' w2) : St w w2 b6 b7 bo A6 A7 c6 c7 s at' l vo acc := by
 obtain ⟨m, rfl⟩ := hd
 exact h.drewN m
theorem St.solid (h : St w w' b6 b7 bo A6 A7 c6 c7 s at' l vo acc) (i : Int) : Calls Tryd.prog 46 #[.int .i64 i, .pointer (some ⟨b6, 0, none⟩)] w' fun e w2 => e = .returned (.bool (solidP l i)) ∧ Drawn0 w' w2 :=
 solid.calls b6 A6 c6 l i w' h.b6 (Kd.R_reads' h.r6).2.2
theorem St.elem (h : St w w' b6 b7 bo A6 A7 c6 c7 s at' l vo acc) (i : Int) (h0 : 0 ≤ i) (h1 : i < (l.length : Int)) : ∃ ad, A6 = some ad ∧ w'.cell? (ad.add i.toNat) = some (.int .i64 (rd l i)) :=
 Kd.at_int (Kd.R_reads' h.r6).2.2 i h0 h1
theorem R_keepO {w1 w2 : World} {base : Nat} {v : Value} {xs : List Int} {ok : Nat → Prop} (h : Kd.R (Kd.int .i64) 3 w1 base ok v xs) (hk : KeepO w1 w2 bo vo) (hbo : w1.heap[bo]? = some (.cells #[vo] 28 (0, 0))) (hro : ∃ b ok' ys, Kd.R k43 43 w1 b ok' vo ys) : Kd.R (Kd.int .i64) 3 w2 base ok v xs :=
 Kd.R_mono (Kd.R_step (Kd.R_bound h) (fun j hj hlt => by
  obtain ⟨_, _, _, q, hq, cells, hc⟩ := hj
  obtain ⟨b, ok', ys, hR⟩ := hro
  have hq3 : q = 3 := by simpa [Kd.int, Kd.scalar] using hq
  subst hq3
  refine hk j hlt (fun e => ?_) (Kd.R_ne hR hc (by decide))
  rw [e, hbo] at hc
  cases hc)) (fun _ hj => hj.1)
theorem St.put (h : St w w' b6 b7 bo A6 A7 c6 c7 s at' l vo acc) (i j : Nat) (hl : acc.length ≤ 1048576) (hi : i < at'.length) (hj : j < at'.length) (e0 : 0 ≤ rd at' (i : Int)) (e1 : rd at' (i : Int) ≤ rd at' (j : Int)) (e2 : rd at' (j : Int) ≤ (s.size : Int)) (hs : s.size ≤ 1048576) :
  Calls Tryd.prog 48 #[.int .i64 (i : Int), .int .i64 (j : Int), .pointer (some ⟨bo, 0, none⟩), .pointer (some ⟨w.heap.size, 0, none⟩), .pointer (some ⟨b7, 0, none⟩)] w' fun e w2 => e = .returned (.tuple #[]) ∧ ∃ vo' : Value,
   St w w2 b6 b7 bo A6 A7 c6 c7 s at' l vo' (acc ++ [tok s at' i j acc.length]) := by
 have n6 := h.n6
 have n7 := h.n7
 have no := h.no
 refine (put.calls w.heap.size b7 bo A7 c7 s at' vo acc i j w.heap.size w w' h.b0 h.b7 h.bo (Kd.R_reads' h.r7).2.2 (fun a ha => ?_) h.ro h.hb (zg h.hb) (by omega) hl hi hj e0 e1 e2 hs).mono ?_
 ·subst ha
  obtain ⟨g, rfl⟩ := Kd.R_head h.r7
  obtain ⟨_, _, _, q, hq, cells, hc⟩ := (Kd.R_bound h.r7).1 g rfl
  have hq3 : q = 3 := by simpa [Kd.int, Kd.scalar] using hq
  subst hq3
  exact Kd.R_ne h.ro hc (by decide)
 ·rintro e w2 ⟨rfl, vo', hbo, hR, hB, hK⟩
  refine ⟨rfl, vo', n6, n7, no, ?_, ?_, ?_, hbo, R_keepO h.r6 hK h.bo ⟨_, _, _, h.ro⟩, R_keepO h.r7 hK h.bo ⟨_, _, _, h.ro⟩, hR, hB⟩
  ·exact (hK _ (iter_lt h.b0) (by omega) (Kd.R_ne h.ro h.b0 (by decide))).trans h.b0
  ·exact (hK _ (iter_lt h.b6) (by omega) (Kd.R_ne h.ro h.b6 (by decide))).trans h.b6
  ·exact (hK _ (iter_lt h.b7) (by omega) (Kd.R_ne h.ro h.b7 (by decide))).trans h.b7
end
set_option maxHeartbeats 1500000 in
set_option maxRecDepth 100000 in
theorem impl_Break.calls (s : ByteArray) (w : World) (hT : Tabs w) :
  Calls Tryd.prog 15 #[.string s] w fun e w' => ∃ v0_ : Value, e = .returned (.tuple #[v0_, .int .i64 (brkP s).2]) ∧ Kd.R k43 43 w' w.heap.size (fun _ => True) v0_ (brkP s).1 ∧ Below w.heap.size w w' := by
 have HB := zu.mk (Below.refl w.heap.size w)
 have hmf : ∀ (fn : Fn) (first cap : Array Value) (w : World), (Instr.makeFunc fn first cap).run Tryd.prog w = .ok (.func fn first cap) w := fun _ _ _ _ => rfl
 have cD : ∀ w', Below w.heap.size w w' → Calls Tryd.prog 20 #[.string s] w' _ := fun w' hb => impl_Decode.calls s w' (hT.below hb)
 obtain ⟨L, C, hdec⟩ : ∃ L C, decP s = (L, C) := ⟨_, _, rfl⟩
 rw [hdec] at cD
 obtain ⟨R1, R2, hres⟩ : ∃ R1 R2, brkP s = (R1, R2) := ⟨_, _, rfl⟩
 rw [hres]
 unfold brkP at hres
 rw [hdec] at hres
 simp only at cD hres ⊢
 by_cases c0 : C = 0
 ·rw [if_pos c0] at hres
  have HR := zu.mk hres
  clear hres
  have c0' : (C != 0) = false := by rw [c0]; rfl
  go_enter Tryd.func15, Tryd.ntmps15
  go_wp2_with fail
  refine (cD _ (z2 HB.out _)).mono ?_
  rintro e w7 ⟨v0, rfl, _, hb⟩
  have B0 := zu.mk ((hb.block w.heap.size (by simp)).trans (blk_new w (.cells #[.string s] 9)))
  have HB7 := zu.mk (ze (z2 HB.out _) hb)
  have x0 := (za B0.out 0).trans rfl
  clear hb HB x0
  go_wp2_with (first | ((with_reducible refine zn (N := 6) rfl ?_); refine zr ?hg (N := 6) ?hd (cs := #[.slice none 0 0]) (t := 36) ?hr ?_; (case hd => rfl); (case hg => rfl); (case hr => first | (go_simp; done) | (go_simp; rfl)); intro b6 hg_ w8 hbox_ hb_; have B6 := zu.mk hbox_; have B0n := zu.mk ((hb_.block _ (iter_lt B0.out)).trans B0.out); have HB8 := zu.mk (ze HB7.out hb_); have N60 := zu.mk (show w.heap.size < b6 by rw [hg_]; exact iter_lt B0.out); clear B0 HB7 hbox_ hb_ hg_; have B0 := B0n; clear B0n) | ((with_reducible refine zn (N := 7) rfl ?_); refine zr ?hg (N := 7) ?hd (cs := #[.slice none 0 0]) (t := 36) ?hr ?_; (case hd => rfl); (case hg => rfl); (case hr => first | (go_simp; done) | (go_simp; rfl)); intro b7 hg_ w9 hbox_ hb_; have B7 := zu.mk hbox_; have B0n := zu.mk ((hb_.block _ (iter_lt B0.out)).trans B0.out); have B6n := zu.mk ((hb_.block _ (iter_lt B6.out)).trans B6.out); have HB9 := zu.mk (ze HB8.out hb_); have N76 := zu.mk (show b6 < b7 by rw [hg_]; exact iter_lt B6.out); clear B0 B6 HB8 hbox_ hb_ hg_; have B0 := B0n; have B6 := B6n; clear B0n B6n; have x0 := (za B0.out 0).trans rfl))
  have HS := zu.mk (show s.size ≤ 65536 by
   unfold decP at hdec
   by_cases c : 65536 < s.size
   ·rw [if_pos c] at hdec
    have := (Prod.mk.inj hdec).2
    omega
   ·omega)
  have KB := zu.mk (show w.heap.size ≤ w9.heap.size by have := iter_lt B0.out; omega)
  have HI := zu.mk (World.iter_heap w9 s 0)
  have HB := zu.mk (z2 HB9.out (.stringIter s 0))
  have B0n := zu.mk (zb B0.out (.stringIter s 0))
  have B6n := zu.mk (zb B6.out (.stringIter s 0))
  have B7n := zu.mk (zb B7.out (.stringIter s 0))
  clear B0 B6 B7 HB9 x0
  have B0 := B0n
  have B6 := B6n
  have B7 := B7n
  clear B0n B6n B7n
  generalize hW0 : w9.alloc (.stringIter s 0) = W0 at HB B0 B6 B7
  have hW1 : w9.iter s 0 = W0 := hW0
  rw [hW1] at HI
  rw [hW1]
  clear hW0 hW1
  generalize w9.heap.size = bk at HI KB ⊢
  have N67 : b6 ≠ b7 := by have := N76.out; omega
  have N67' : b7 ≠ b6 := by have := N76.out; omega
  go_loopg [] (s.size + 1) (fun gk w' => ∃ (p : Nat) (rs at' : List Int) (v6 v7 : Value), zu (w'.heap[bk]? = some (.stringIter s p)) ∧ zu (w'.heap[w.heap.size]? = some (.cells #[.string s] 9 (0, 0))) ∧ zu (w'.heap[b6]? = some (.cells #[v6] 36 (0, 0))) ∧ zu (w'.heap[b7]? = some (.cells #[v7] 36 (0, 0))) ∧ zu (Kd.R (Kd.int .i64) 3 w' w.heap.size (fun _ => True) v6 rs) ∧ zu (Kd.R (Kd.int .i64) 3 w' w.heap.size (fun _ => True) v7 at') ∧ zu (∀ k, v7.ownBlock = some k → some k ≠ v6.ownBlock) ∧ zu (rs ++ chars s p = chars s 0 ∧ at' ++ offs s p = offs s 0 ∧ at'.length = rs.length) ∧ zu (s.size - p < gk) ∧ zu (rs.length ≤ p) ∧ zu (Below w.heap.size w w'))
  case atStart => exact ⟨0, [], [], _, _, HI, B0, B6, B7, ⟨Kd.R_nil _ _ _ _ _⟩, ⟨Kd.R_nil _ _ _ _ _⟩, ⟨fun k hk => by cases hk⟩, ⟨rfl, rfl, rfl⟩, ⟨by omega⟩, ⟨by simp⟩, HB⟩
  case round =>
   clear HI B0 B6 B7 HB
   obtain ⟨p, rs, at', v6, v7, HI, B0, B6, B7, HO6, HO7, NE, HA, HG, HL, HB⟩ := hrel
   by_cases hp : p < s.size
   ·have hnx : ∀ ty, (Instr.next (.pointer (some ⟨bk, 0, none⟩)) true ty).run Tryd.prog wr = _ := fun ty => Lib.run_next_any_at wr bk s p ty HI.out hp
    have hd1 : (0 : Int) ≤ ((Utf8.decode s p).1 : Int) ∧ ((Utf8.decode s p).1 : Int) ≤ 2147483647 := by have := decode_le s p; omega
    obtain ⟨r, hr⟩ : ∃ r : Int, ((Utf8.decode s p).1 : Int) = r := ⟨_, rfl⟩
    obtain ⟨P, hP⟩ : ∃ P : Int, (p : Int) = P := ⟨_, rfl⟩
    obtain ⟨W1, hW⟩ : ∃ W1, wr.iterAt bk s (p + (Utf8.decode s p).2) = W1 := ⟨_, rfl⟩
    have hI1 := Lib.iterAt_heap wr bk s p (p + (Utf8.decode s p).2) HI.out
    have hO6 := R_iter HO6.out HI.out (p + (Utf8.decode s p).2)
    have hO7 := R_iter HO7.out HI.out (p + (Utf8.decode s p).2)
    have hB0 := blk_iter B0.out HI.out (p + (Utf8.decode s p).2)
    have hB6 := blk_iter B6.out HI.out (p + (Utf8.decode s p).2)
    have hB7 := blk_iter B7.out HI.out (p + (Utf8.decode s p).2)
    have hB1 := Lib.below_iterAt HB.out KB.out s (p + (Utf8.decode s p).2)
    obtain ⟨hA1, hA2, hA3⟩ := HA.out
    rw [chars_cons hp, hr] at hA1
    rw [offs_cons hp, hP] at hA2
    rw [hW] at hI1 hO6 hO7 hB0 hB6 hB7 hB1
    rw [hr] at hnx hd1
    rw [hW, hP] at hnx
    clear HI HO6 HO7 B0 B6 B7 HB HA hW
    have HI := zu.mk hI1
    have HO6 := zu.mk hO6
    have HO7 := zu.mk hO7
    have HB := zu.mk hB1
    have B0 := zu.mk hB0
    have B6 := zu.mk hB6
    have B7 := zu.mk hB7
    have HA1 := zu.mk hA1
    have HA2 := zu.mk hA2
    have HA3 := zu.mk hA3
    clear hI1 hO6 hO7 hB1 hB0 hB6 hB7 hA1 hA2 hA3
    have x6 := (za B6.out 0).trans rfl
    have x7 := (za B7.out 0).trans rfl
    obtain ⟨y, hy⟩ : ∃ y_ : List Int, y_ = rs ++ [r] := ⟨_, rfl⟩
    have NY := zu.mk hy
    clear hy
    obtain ⟨z, hz⟩ : ∃ y_ : List Int, y_ = at' ++ [P] := ⟨_, rfl⟩
    have NZ := zu.mk hz
    clear hz
    have HP := zu.mk hp
    clear hp
    go_wp2_with (first | ((with_reducible refine zo (b := .append) (xs := #[.tmp 29, .tmp 32]) rfl ?_); at_builtin; refine Kd.R_append (Kd.int .i64) (w0 := w) w.heap.size rfl (.tmp 29) (.tmp 32) 36 3 (.int .i64 0) 8 rfl Tryd.underlying36 info3 rfl (by decide) (by omega) v6 rs r [.int .i64 r] (fun _ => True) (fun _ => False) rfl rfl ?aP (fun _ hk => hk.elim) ?aF ?aO ?aB ?aS ?aL ?_; (case aP => exact rfl); (case aF => exact (fun _ _ => trivial)); (case aB => exact HB.out); (case aO => exact HO6.out); (case aS => exact (zg HB.out)); (case aL => have := HL.out; have := HS.out; have := HP.out; omega); intro v126 w12 ho hb hg hat; rw [← NY.out] at ho; obtain ⟨A6, c6, e6⟩ := Kd.R_slice ho; subst e6; have mI := zu.mk ((hg.block bk (iter_lt HI.out) (R_notIter HO6.out HI.out)).trans HI.out); have m0 := zu.mk ((hg.block _ (iter_lt B0.out) (Kd.R_ne HO6.out B0.out (by decide))).trans B0.out); have m6 := zu.mk ((hg.block _ (iter_lt B6.out) (Kd.R_ne HO6.out B6.out (by decide))).trans B6.out); have m7 := zu.mk ((hg.block _ (iter_lt B7.out) (Kd.R_ne HO6.out B7.out (by decide))).trans B7.out); have mR := zu.mk (Kd.R_grown2 HO7.out rfl hg (fun k hk e => NE.out k e.symm hk.symm)); have mN := zu.mk (ne_after NE.out (Kd.R_lt HO7.out) hat); have mB := zu.mk hb; have mO := zu.mk ho; clear HI B0 B6 B7 HO6 HO7 NE HB x6 x7 ho hb hg hat; have HI := mI; have B0 := m0; have B6 := m6; have B7 := m7; have HO7 := mR; have NE := mN; have HB := mB; have HO6 := mO; clear mI m0 m6 m7 mR mN mB mO; have x6 := (za B6.out 0).trans rfl; have f6 := z8 B6.out 0; have x7 := (za B7.out 0).trans rfl) | ((with_reducible refine zp (t := 36) (p := 6) rfl ?_); refine zs (t := 36) (p := 6) (v := ?vo_) (w1 := (w12.setCell ⟨b6, 0, none⟩ (.slice A6 y.length c6))) ?hg ?ho ?hn ?hr ?_; (case ho => rfl); (case hg => rfl); (case hn => rfl); (case hr => first | (go_simp; done) | (go_simp; rfl)); intro w14 hw; have mI := zu.mk ((Below.heap_setCell w12 ⟨b6, 0, none⟩ (.slice A6 y.length c6) bk (iter_notCell B6.out HI.out)).trans HI.out); have m0 := zu.mk ((Below.heap_setCell w12 ⟨b6, 0, none⟩ (.slice A6 y.length c6) w.heap.size (show w.heap.size ≠ b6 by have := N60.out; omega)).trans B0.out); have m6 := zu.mk (blk_set B6.out 0 (.slice A6 y.length c6)); have m7 := zu.mk ((Below.heap_setCell w12 ⟨b6, 0, none⟩ (.slice A6 y.length c6) b7 N67').trans B7.out); have mO := zu.mk (Kd.R_set HO6.out B6.out (by decide) 0 (.slice A6 y.length c6)); have mR := zu.mk (Kd.R_set HO7.out B6.out (by decide) 0 (.slice A6 y.length c6)); have mB := zu.mk (HB.out.setCell (p := ⟨b6, 0, none⟩) (Nat.le_of_lt N60.out) (.slice A6 y.length c6)); rw [← hw] at mI m0 m6 m7 mO mR mB; clear HI B0 B6 B7 HO6 HO7 HB x6 f6 x7 hw; have HI := mI; have B0 := m0; have B6 := m6; have B7 := m7; have HO7 := mR; have HB := mB; have HO6 := mO; clear mI m0 m6 m7 mR mB mO; have x7 := (za B7.out 0).trans rfl) | ((with_reducible refine zo (b := .append) (xs := #[.tmp 34, .tmp 36]) rfl ?_); at_builtin; refine Kd.R_append (Kd.int .i64) (w0 := w) w.heap.size rfl (.tmp 34) (.tmp 36) 36 3 (.int .i64 0) 8 rfl Tryd.underlying36 info3 rfl (by decide) (by omega) v7 at' P [.int .i64 P] (fun _ => True) (fun _ => False) rfl rfl ?aP (fun _ hk => hk.elim) ?aF ?aO ?aB ?aS ?aL ?_; (case aP => exact rfl); (case aF => exact (fun _ _ => trivial)); (case aB => exact HB.out); (case aO => exact HO7.out); (case aS => exact (zg HB.out)); (case aL => have := HA3.out; have := HL.out; have := HS.out; have := HP.out; omega); intro v127 w13 ho hb hg hat; rw [← NZ.out] at ho; obtain ⟨A7, c7, e7⟩ := Kd.R_slice ho; subst e7; have mI := zu.mk ((hg.block bk (iter_lt HI.out) (R_notIter HO7.out HI.out)).trans HI.out); have m0 := zu.mk ((hg.block _ (iter_lt B0.out) (Kd.R_ne HO7.out B0.out (by decide))).trans B0.out); have m6 := zu.mk ((hg.block _ (iter_lt B6.out) (Kd.R_ne HO7.out B6.out (by decide))).trans B6.out); have m7 := zu.mk ((hg.block _ (iter_lt B7.out) (Kd.R_ne HO7.out B7.out (by decide))).trans B7.out); have mR := zu.mk (Kd.R_grown2 HO6.out rfl hg (fun k hk => NE.out k hk)); have mN := zu.mk (ne_after' NE.out (Kd.R_lt HO6.out) hat); have mB := zu.mk hb; have mO := zu.mk ho; clear HI B0 B6 B7 HO6 HO7 NE HB x7 ho hb hg hat; have HI := mI; have B0 := m0; have B6 := m6; have B7 := m7; have HO6 := mR; have NE := mN; have HB := mB; have HO7 := mO; clear mI m0 m6 m7 mR mN mB mO; have x7 := (za B7.out 0).trans rfl; have f7 := z8 B7.out 0))
    obtain ⟨k1, rfl⟩ : ∃ k1, gk = k1 + 1 := ⟨gk - 1, by have := HG.out; omega⟩
    have hw := Go.Lib.width_pos s p
    go_roundg k1
    case measure => omega
    case rel => exact ⟨p + (Utf8.decode s p).2, y, z, _, _, ⟨(Below.heap_setCell w13 ⟨b7, 0, none⟩ _ bk (iter_notCell B7.out HI.out)).trans HI.out⟩, ⟨(Below.heap_setCell w13 ⟨b7, 0, none⟩ _ w.heap.size (show w.heap.size ≠ b7 by have := N60.out; have := N76.out; omega)).trans B0.out⟩, ⟨(Below.heap_setCell w13 ⟨b7, 0, none⟩ _ b6 N67).trans B6.out⟩, ⟨blk_set B7.out 0 _⟩, ⟨Kd.R_set HO6.out B7.out (by decide) 0 _⟩, ⟨Kd.R_set HO7.out B7.out (by decide) 0 _⟩, NE,
     ⟨by rw [NY.out, List.append_assoc]; exact HA1.out, by rw [NZ.out, List.append_assoc]; exact HA2.out, by rw [NY.out, NZ.out, ul, ul, HA3.out]; rfl⟩, ⟨by have := HG.out; have := HP.out; omega⟩, ⟨by have := HL.out; rw [NY.out, ul, List.length_singleton]; omega⟩, ⟨HB.out.setCell (p := ⟨b7, 0, none⟩) (show w.heap.size ≤ b7 by have := N60.out; have := N76.out; omega) _⟩⟩
   ·have hnx : ∀ ty, (Instr.next (.pointer (some ⟨bk, 0, none⟩)) true ty).run Tryd.prog wr = _ := fun ty => Lib.run_next_end_at wr bk s p ty HI.out hp
    have x0 := (za B0.out 0).trans rfl
    have x7 := (za B7.out 0).trans rfl
    obtain ⟨hA1, hA2, hA3⟩ := HA.out
    have HA3 := zu.mk (show rs.length ≤ s.size ∧ at'.length ≤ s.size by
     have h1 := congrArg List.length hA1
     have h2 := (chars_len s (s.size - 0) 0 (um _)).1
     rw [ul] at h1
     omega)
    rw [chars_end hp, List.append_nil] at hA1
    rw [offs_end (by exact hp), List.append_nil] at hA2
    obtain ⟨SZ, hSZ⟩ : ∃ z : Int, (s.size : Int) = z := ⟨_, rfl⟩
    obtain ⟨z, hz⟩ : ∃ y_ : List Int, y_ = at' ++ [SZ] := ⟨_, rfl⟩
    have NZ := zu.mk hz
    rw [← hSZ, hA2] at hz
    have NZ' := zu.mk (show z = ats s from hz)
    clear hz hA2 hA3 HA
    go_wp2_with (first | ((with_reducible refine zo (b := .append) (xs := #[.tmp 38, .tmp 41]) rfl ?_); at_builtin; refine Kd.R_append (Kd.int .i64) (w0 := w) w.heap.size rfl (.tmp 38) (.tmp 41) 36 3 (.int .i64 0) 8 rfl Tryd.underlying36 info3 rfl (by decide) (by omega) v7 at' SZ [.int .i64 SZ] (fun _ => True) (fun _ => False) rfl rfl ?aP (fun _ hk => hk.elim) ?aF ?aO ?aB ?aS ?aL ?_; (case aP => exact rfl); (case aF => exact (fun _ _ => trivial)); (case aB => exact HB.out); (case aO => exact HO7.out); (case aS => exact (zg HB.out)); (case aL => have := HA3.out; have := HS.out; omega); intro v127 w13 ho hb hg hat; rw [← NZ.out] at ho; obtain ⟨A7, c7, e7⟩ := Kd.R_slice ho; subst e7; have m0 := zu.mk ((hg.block _ (iter_lt B0.out) (Kd.R_ne HO7.out B0.out (by decide))).trans B0.out); have m6 := zu.mk ((hg.block _ (iter_lt B6.out) (Kd.R_ne HO7.out B6.out (by decide))).trans B6.out); have m7 := zu.mk ((hg.block _ (iter_lt B7.out) (Kd.R_ne HO7.out B7.out (by decide))).trans B7.out); have mR := zu.mk (Kd.R_grown2 HO6.out rfl hg (fun k hk => NE.out k hk)); have mB := zu.mk hb; have mO := zu.mk ho; clear B0 B6 B7 HO6 HO7 NE HB x7 x0 ho hb hg hat; have B0 := m0; have B6 := m6; have B7 := m7; have HO6 := mR; have HB := mB; have HO7 := mO; clear m0 m6 m7 mR mB mO; have x7 := (za B7.out 0).trans rfl; have f7 := z8 B7.out 0))
    have l7 := iter_lt B7.out
    have sv : (w13.setCell ⟨b7, 0, none⟩ (.slice A7 z.length c7)).heap.size = w13.heap.size := by simp
    have m0 := zb ((Below.heap_setCell w13 ⟨b7, 0, none⟩ (.slice A7 z.length c7) w.heap.size (show w.heap.size ≠ b7 by have := N60.out; have := N76.out; omega)).trans B0.out) (.cells #[.slice none 0 0] 28)
    have m6 := zb ((Below.heap_setCell w13 ⟨b7, 0, none⟩ (.slice A7 z.length c7) b6 N67).trans B6.out) (.cells #[.slice none 0 0] 28)
    have m7 := zb (blk_set B7.out 0 (.slice A7 z.length c7)) (.cells #[.slice none 0 0] 28)
    have mO := Kd.R_alloc (Kd.R_set HO6.out B7.out (by decide) 0 (.slice A7 z.length c7)) (.cells #[.slice none 0 0] 28)
    have mR := Kd.R_alloc (Kd.R_set HO7.out B7.out (by decide) 0 (.slice A7 z.length c7)) (.cells #[.slice none 0 0] 28)
    have mB := z2 (HB.out.setCell (p := ⟨b7, 0, none⟩) (show w.heap.size ≤ b7 by have := N60.out; have := N76.out; omega) (.slice A7 z.length c7)) (.cells #[.slice none 0 0] 28)
    have bO := blk_new (w13.setCell ⟨b7, 0, none⟩ (.slice A7 z.length c7)) (.cells #[.slice none 0 0] 28)
    rw [sv] at bO
    clear B0 B6 B7 HO6 HO7 HB x7 f7 sv
    generalize (w13.setCell ⟨b7, 0, none⟩ (.slice A7 z.length c7)).alloc (.cells #[.slice none 0 0] 28) = W0 at m0 m6 m7 mO mR mB bO ⊢
    have NO := zu.mk (show b7 < w13.heap.size from l7)
    clear l7
    generalize w13.heap.size = bo at bO NO ⊢
    subst hA1
    rw [NZ'.out] at m7 mR
    obtain ⟨A6, c6, e6, _, _⟩ := Kd.R_reads mO
    subst e6
    have HT := zu.mk (show St w W0 b6 b7 bo A6 A7 c6 c7 s (ats s) (chars s 0) (.slice none 0 0) [] from ⟨N60.out, N76.out, NO.out, m0, m6, m7, bO, mO, mR, Kd.R_nil _ _ _ _ _, mB⟩)
    have HO := zu.mk (show okAt s 0 = true by
     unfold decP at hdec
     by_cases c : 65536 < s.size
     ·rw [if_pos c] at hdec; have := (Prod.mk.inj hdec).2; omega
     ·rw [if_neg c] at hdec
      by_cases o : okAt s 0 = true
      ·exact o
      ·rw [if_neg o] at hdec; have := (Prod.mk.inj hdec).2; omega)
    have HLn := zu.mk (show (chars s 0).length ≤ s.size from (chars_len s (s.size - 0) 0 (um _)).1)
    have HM := zu.mk (ats_mono s)
    have HLa := zu.mk (ats_len s)
    clear mB m0 m6 m7 bO mO mR hnx HI HG HL HA3 NZ NZ' hp hT cD hdec c0'
    generalize hal : ats s = at' at HT HM HLa ⊢
    generalize hcl : chars s 0 = l at HT HLn HM HLa ⊢
    have HAL := zu.mk hal
    have HCL := zu.mk hcl
    clear hal hcl HO
    have cC := fun r w => class_call r w
    go_loopg [13] (l.length + 1) (fun gk v13 w' => ∃ (i : Nat) (acc : List S43) (vo : Value), v13 = .int .i64 (i : Int) ∧ zu (acc ++ toks s at' l i acc.length = toks s at' l 0 0) ∧ zu (l.length - i < gk) ∧ zu (i ≤ l.length) ∧ zu (acc.length ≤ i) ∧ zu (St w w' b6 b7 bo A6 A7 c6 c7 s at' l vo acc))
    case atStart => exact ⟨0, [], _, rfl, ⟨rfl⟩, ⟨by omega⟩, ⟨by omega⟩, ⟨by simp⟩, HT⟩
    case round =>
     clear HT
     obtain ⟨i, acc, vo, rfl, HA, HG, HI, HL, HT⟩ := hrel
     have x6 := (za HT.out.b6 0).trans rfl
     by_cases hi : i < l.length
     ·obtain ⟨ad, e1, hx1⟩ := HT.out.elem (i : Int) (by omega) (by omega)
      subst e1
      obtain ⟨I, hI⟩ : ∃ I : Int, (i : Int) = I := ⟨_, rfl⟩
      rw [hI] at hx1 ⊢
      have p1 : (0 ≤ I) = True := eq_true (by omega)
      have p2 : (I < (l.length : Int)) = True := eq_true (by omega)
      have p3 : I < (l.length : Int) := by omega
      obtain ⟨q, hq⟩ : ∃ q, cls (rd l I) = q := ⟨_, rfl⟩
      have cCi := cC (rd l I)
      rw [hq] at cCi
      by_cases h4 : q = 4
      ·subst h4
       have hst : stop l i = i + 1 := by unfold stop; rw [hI, hq, if_pos rfl]
       go_wp2_with fail
       refine (cCi _).mono ?_
       rintro e w1 ⟨rfl, hd⟩
       have HT1 := zu.mk (HT.out.drawn hd)
       clear hd HT
       have hm := HM.out i (i + 1) (by omega) (by omega)
       have pc := HT1.out.put i (i + 1) (by have := HL.out; have := HLn.out; have := HS.out; omega) (by have := HLa.out; omega) (by have := HLa.out; omega) hm.1 hm.2.1 hm.2.2 (by have := HS.out; omega)
       rw [show ((i + 1 : Nat) : Int) = wrap64 (I + 1) by rw [zw (by omega) (by have := HLn.out; have := HS.out; omega)]; omega, hI] at pc
       clear hm
       go_wp2_with fail
       refine pc.mono ?_
       rintro e w2 ⟨rfl, vo', hT2⟩
       go_wp2_with fail
       obtain ⟨k1, rfl⟩ : ∃ k1, gk = k1 + 1 := ⟨gk - 1, by have := HG.out; omega⟩
       go_roundg k1
       case measure => omega
       case rel => exact ⟨i + 1, acc ++ [tok s at' i (i + 1) acc.length], vo', by rw [show ((i + 1 : Nat) : Int) = wrap64 (I + 1) by rw [zw (by omega) (by have := HLn.out; have := HS.out; omega)]; omega], ⟨by rw [← HA.out, toks_word hi (by omega), hst, ul, List.length_singleton, List.append_assoc]; rfl⟩, ⟨by have := HG.out; omega⟩, ⟨by omega⟩, ⟨by have := HL.out; rw [ul, List.length_singleton]; omega⟩, ⟨hT2⟩⟩
      ·have h4' : (q == 4) = false := beq_eq_false_iff_ne.2 h4
       by_cases hin : inner (rd l I) = true
       ·have hst : stop l i = wend l (i + 1) := by unfold stop; rw [hI, hq, if_neg h4, if_pos hin]
        have sC : solidP l I = true := by unfold solidP; rw [hin, decide_eq_true (show 0 ≤ I by omega), decide_eq_true p3]; rfl
        go_wp2_with fail
        refine (cCi _).mono ?_
        rintro e w1 ⟨rfl, hd⟩
        have HT1 := zu.mk (HT.out.drawn hd)
        clear hd HT
        have pc := HT1.out.solid I
        rw [sC] at pc
        go_wp2_with fail
        refine pc.mono ?_
        rintro e w2 ⟨rfl, hd⟩
        have HT2 := zu.mk (HT1.out.drawn hd)
        clear hd HT1 pc
        go_wp2_with fail
        obtain ⟨k1, rfl⟩ : ∃ k1, gk = k1 + 1 := ⟨gk - 1, by have := HG.out; omega⟩
        have wJ : ((i + 1 : Nat) : Int) = wrap64 (I + 1) := by rw [zw (by omega) (by have := HLn.out; have := HS.out; omega)]; omega
        go_loopg [14] (l.length + 1) (fun gj v14 w' => ∃ (j : Nat), v14 = .int .i64 (j : Int) ∧ zu (i < j) ∧ zu (j ≤ l.length) ∧ zu (wend l j = wend l (i + 1)) ∧ zu (l.length - j < gj) ∧ zu (St w w' b6 b7 bo (some ad) A7 c6 c7 s at' l vo acc))
        case atStart => exact ⟨i + 1, by rw [wJ], ⟨by omega⟩, ⟨by omega⟩, ⟨rfl⟩, ⟨by omega⟩, HT2⟩
        case round =>
         clear HT2 hx1 x6 wJ
         obtain ⟨j, rfl, HJ1, HJ2, HJ3, HJ4, HT2⟩ := hrel
         have hij := HJ1.out
         have hjl := HJ2.out
         obtain ⟨J, hJ⟩ : ∃ J : Int, (j : Int) = J := ⟨_, rfl⟩
         rw [hJ]
         have pj := HT2.out.solid J
         have x6 := (za HT2.out.b6 0).trans rfl
         have WM := zu.mk (show wrap64 (J - 1) = J - 1 from by have := HLn.out; have := HS.out; exact zw (by omega) (by omega))
         have WP := zu.mk (show wrap64 (J + 1) = J + 1 from by have := HLn.out; have := HS.out; exact zw (by omega) (by omega))
         by_cases hj : j < l.length
         ·have q1 : (0 ≤ J) = True := eq_true (by omega)
          have q2 : (J < (l.length : Int)) = True := eq_true (by omega)
          have q3 : decide (0 ≤ J) = true := decide_eq_true (by omega)
          have q4 : decide (J < (l.length : Int)) = true := decide_eq_true (by omega)
          cases hn : inner (rd l J) with
          | true =>
           have sJ : solidP l J = true := by unfold solidP; rw [hn, q3, q4]; rfl
           rw [sJ] at pj
           go_wp2_with fail
           refine pj.mono ?_
           rintro e w3 ⟨rfl, hd⟩
           have HT3 := zu.mk (HT2.out.drawn hd)
           clear hd HT2
           go_wp2_with fail
           obtain ⟨k2, rfl⟩ : ∃ k2, gk = k2 + 1 := ⟨gk - 1, by have := HJ4.out; omega⟩
           go_roundg k2
           case measure => omega
           case rel => exact ⟨j + 1, by rw [show ((j + 1 : Nat) : Int) = wrap64 (J + 1) by rw [WP.out]; omega], ⟨by omega⟩, ⟨by omega⟩, ⟨by rw [← HJ3.out, wend_step hj, if_pos (by unfold goesOn; rw [hJ, hn]; rfl)]⟩, ⟨by have := HJ4.out; omega⟩, HT3⟩
          | false =>
           have sJ : solidP l J = false := by unfold solidP; rw [hn, Bool.and_false, Bool.and_false]
           rw [sJ] at pj
           go_wp2_with fail
           refine pj.mono ?_
           rintro e w3 ⟨rfl, hd⟩
           have HT3 := zu.mk (HT2.out.drawn hd)
           clear hd HT2
           have x63 := (za HT3.out.b6 0).trans rfl
           obtain ⟨ad2, e2, hx2⟩ := HT3.out.elem J (by omega) (by omega)
           obtain rfl : ad = ad2 := by injection e2
           clear e2
           obtain ⟨q5, hq5⟩ : ∃ q, cls (rd l J) = q := ⟨_, rfl⟩
           have cJ := cC (rd l J)
           rw [hq5] at cJ
           by_cases h3 : q5 = 3
           ·have h3' : (q5 == 3) = true := beq_iff_eq.2 h3
            go_wp2_with fail
            refine (cJ _).mono ?_
            rintro e w4 ⟨rfl, hd⟩
            have HT4 := zu.mk (HT3.out.drawn hd)
            clear hd HT3
            have pm := HT4.out.solid (wrap64 (J - 1))
            cases hv : solidP l (wrap64 (J - 1)) with
            | true =>
             rw [hv] at pm
             go_wp2_with fail
             refine pm.mono ?_
             rintro e w5 ⟨rfl, hd⟩
             have HT5 := zu.mk (HT4.out.drawn hd)
             clear hd HT4
             have pp := HT5.out.solid (wrap64 (J + 1))
             cases hu : solidP l (wrap64 (J + 1)) with
             | true =>
              rw [hu] at pp
              go_wp2_with fail
              refine pp.mono ?_
              rintro e w6 ⟨rfl, hd⟩
              have HT6 := zu.mk (HT5.out.drawn hd)
              clear hd HT5
              go_wp2_with fail
              obtain ⟨k2, rfl⟩ : ∃ k2, gk = k2 + 1 := ⟨gk - 1, by have := HJ4.out; omega⟩
              go_roundg k2
              case measure => omega
              case rel => exact ⟨j + 1, by rw [show ((j + 1 : Nat) : Int) = wrap64 (J + 1) by rw [WP.out]; omega], ⟨by omega⟩, ⟨by omega⟩, ⟨by rw [← HJ3.out, wend_step hj, if_pos (by unfold goesOn; rw [hJ, hn, hq5, h3', ← WM.out, ← WP.out, hv, hu]; rfl)]⟩, ⟨by have := HJ4.out; omega⟩, HT6⟩
             | false =>
              rw [hu] at pp
              go_wp2_with fail
              refine pp.mono ?_
              rintro e w6 ⟨rfl, hd⟩
              have HT6 := zu.mk (HT5.out.drawn hd)
              clear hd HT5
              have he : wend l (i + 1) = j := by rw [← HJ3.out]; exact by rw [wend_step hj, if_neg (by unfold goesOn; rw [hJ, hn, hq5, h3', ← WM.out, ← WP.out, hv, hu]; decide)]
              have hm := HM.out i j (by omega) (by omega)
              have pc := HT6.out.put i j (by have := HL.out; have := HLn.out; have := HS.out; omega) (by have := HLa.out; omega) (by have := HLa.out; omega) hm.1 hm.2.1 hm.2.2 (by have := HS.out; omega)
              rw [hJ, hI] at pc
              clear hm
              go_wp2_with fail
              refine pc.mono ?_
              rintro e w9 ⟨rfl, vo', hT9⟩
              go_wp2_with fail
              go_roundg k1
              case measure => omega
              case rel => exact ⟨j, acc ++ [tok s at' i j acc.length], vo', by rw [hJ], ⟨by rw [← HA.out, toks_word hi (by rw [hst]; omega), hst, he, ul, List.length_singleton, List.append_assoc]; rfl⟩, ⟨by have := HG.out; omega⟩, ⟨by omega⟩, ⟨by have := HL.out; rw [ul, List.length_singleton]; omega⟩, ⟨hT9⟩⟩
            | false =>
             rw [hv] at pm
             go_wp2_with fail
             refine pm.mono ?_
             rintro e w5 ⟨rfl, hd⟩
             have HT5 := zu.mk (HT4.out.drawn hd)
             clear hd HT4
             have he : wend l (i + 1) = j := by rw [← HJ3.out]; exact by rw [wend_step hj, if_neg (by unfold goesOn; rw [hJ, hn, hq5, h3', ← WM.out, hv]; simp)]
             have hm := HM.out i j (by omega) (by omega)
             have pc := HT5.out.put i j (by have := HL.out; have := HLn.out; have := HS.out; omega) (by have := HLa.out; omega) (by have := HLa.out; omega) hm.1 hm.2.1 hm.2.2 (by have := HS.out; omega)
             rw [hJ, hI] at pc
             clear hm
             go_wp2_with fail
             refine pc.mono ?_
             rintro e w9 ⟨rfl, vo', hT9⟩
             go_wp2_with fail
             go_roundg k1
             case measure => omega
             case rel => exact ⟨j, acc ++ [tok s at' i j acc.length], vo', by rw [hJ], ⟨by rw [← HA.out, toks_word hi (by rw [hst]; omega), hst, he, ul, List.length_singleton, List.append_assoc]; rfl⟩, ⟨by have := HG.out; omega⟩, ⟨by omega⟩, ⟨by have := HL.out; rw [ul, List.length_singleton]; omega⟩, ⟨hT9⟩⟩
           ·have h3' : (q5 == 3) = false := beq_eq_false_iff_ne.2 h3
            go_wp2_with fail
            refine (cJ _).mono ?_
            rintro e w4 ⟨rfl, hd⟩
            have HT4 := zu.mk (HT3.out.drawn hd)
            clear hd HT3
            have he : wend l (i + 1) = j := by rw [← HJ3.out]; exact by rw [wend_step hj, if_neg (by unfold goesOn; rw [hJ, hn, hq5, h3']; simp)]
            have hm := HM.out i j (by omega) (by omega)
            have pc := HT4.out.put i j (by have := HL.out; have := HLn.out; have := HS.out; omega) (by have := HLa.out; omega) (by have := HLa.out; omega) hm.1 hm.2.1 hm.2.2 (by have := HS.out; omega)
            rw [hJ, hI] at pc
            clear hm
            go_wp2_with fail
            refine pc.mono ?_
            rintro e w9 ⟨rfl, vo', hT9⟩
            go_wp2_with fail
            go_roundg k1
            case measure => omega
            case rel => exact ⟨j, acc ++ [tok s at' i j acc.length], vo', by rw [hJ], ⟨by rw [← HA.out, toks_word hi (by rw [hst]; omega), hst, he, ul, List.length_singleton, List.append_assoc]; rfl⟩, ⟨by have := HG.out; omega⟩, ⟨by omega⟩, ⟨by have := HL.out; rw [ul, List.length_singleton]; omega⟩, ⟨hT9⟩⟩
         ·have sJ : solidP l J = false := by unfold solidP; rw [decide_eq_false (show ¬ J < (l.length : Int) by omega), Bool.false_and, Bool.and_false]
          have q4 : decide (J < (l.length : Int)) = false := decide_eq_false (by omega)
          rw [sJ] at pj
          go_wp2_with fail
          refine pj.mono ?_
          rintro e w3 ⟨rfl, hd⟩
          have HT3 := zu.mk (HT2.out.drawn hd)
          clear hd HT2
          have x63 := (za HT3.out.b6 0).trans rfl
          have he : wend l (i + 1) = j := by rw [← HJ3.out]; exact wend_end hj
          have hm := HM.out i j (by omega) (by omega)
          have pc := HT3.out.put i j (by have := HL.out; have := HLn.out; have := HS.out; omega) (by have := HLa.out; omega) (by have := HLa.out; omega) hm.1 hm.2.1 hm.2.2 (by have := HS.out; omega)
          rw [hJ, hI] at pc
          clear hm
          go_wp2_with fail
          refine pc.mono ?_
          rintro e w9 ⟨rfl, vo', hT9⟩
          go_wp2_with fail
          go_roundg k1
          case measure => omega
          case rel => exact ⟨j, acc ++ [tok s at' i j acc.length], vo', by rw [hJ], ⟨by rw [← HA.out, toks_word hi (by rw [hst]; omega), hst, he, ul, List.length_singleton, List.append_assoc]; rfl⟩, ⟨by have := HG.out; omega⟩, ⟨by omega⟩, ⟨by have := HL.out; rw [ul, List.length_singleton]; omega⟩, ⟨hT9⟩⟩
       ·have hst : stop l i = i := by unfold stop; rw [hI, hq, if_neg h4, if_neg hin]
        have sC : solidP l I = false := by unfold solidP; rw [Bool.eq_false_iff.2 hin, Bool.and_false, Bool.and_false]
        go_wp2_with fail
        refine (cCi _).mono ?_
        rintro e w1 ⟨rfl, hd⟩
        have HT1 := zu.mk (HT.out.drawn hd)
        clear hd HT
        have pc := HT1.out.solid I
        rw [sC] at pc
        go_wp2_with fail
        refine pc.mono ?_
        rintro e w2 ⟨rfl, hd⟩
        have HT2 := zu.mk (HT1.out.drawn hd)
        clear hd HT1 pc
        go_wp2_with fail
        obtain ⟨k1, rfl⟩ : ∃ k1, gk = k1 + 1 := ⟨gk - 1, by have := HG.out; omega⟩
        go_roundg k1
        case measure => omega
        case rel => exact ⟨i + 1, acc, vo, by rw [show ((i + 1 : Nat) : Int) = wrap64 (I + 1) by rw [zw (by omega) (by have := HLn.out; have := HS.out; omega)]; omega], ⟨by rw [← HA.out, toks_skip hi (by omega)]⟩, ⟨by have := HG.out; omega⟩, ⟨by omega⟩, ⟨by have := HL.out; omega⟩, HT2⟩
     ·have hA := HA.out
      have h := HR.out
      rw [toks_end hi, List.append_nil] at hA
      rw [HAL.out, HCL.out, ← hA] at h
      clear hA HA HR
      obtain ⟨Ao, co, e3⟩ := Kd.R_slice HT.out.ro
      subst e3
      have xo := (za HT.out.bo 0).trans rfl
      have p4 : decide ((i : Int) < (l.length : Int)) = false := decide_eq_false (by omega)
      by_cases c9 : 8192 < acc.length
      ·have c9' : decide ((8192 : Int) < (acc.length : Int)) = true := decide_eq_true (by omega)
       rw [if_pos c9] at h
       obtain ⟨rfl, rfl⟩ := Prod.mk.inj h
       go_wp2_with fail
       go_ret2
       exact ⟨_, rfl, Kd.R_nil _ _ _ _ _, HT.out.hb⟩
      ·have c9' : decide ((8192 : Int) < (acc.length : Int)) = false := decide_eq_false (by omega)
       rw [if_neg c9] at h
       obtain ⟨rfl, rfl⟩ := Prod.mk.inj h
       go_wp2_with fail
       go_ret2
       exact ⟨_, rfl, HT.out.ro, HT.out.hb⟩
 ·rw [if_neg c0] at hres
  obtain ⟨rfl, rfl⟩ := Prod.mk.inj hres
  have c0' : (C != 0) = true := bne_iff_ne.2 c0
  go_enter Tryd.func15, Tryd.ntmps15
  go_wp2_with fail
  refine (cD _ (z2 HB.out _)).mono ?_
  rintro e w7 ⟨v0, rfl, _, hb⟩
  have HB7 := zu.mk (ze (z2 HB.out _) hb)
  clear hb HB
  go_wp2_with fail
  go_ret2
  exact ⟨_, rfl, Kd.R_nil _ _ _ _ _, HB7.out⟩
end Go.Proofs.YtndjodgcemgpfaaDoor.Q
end
