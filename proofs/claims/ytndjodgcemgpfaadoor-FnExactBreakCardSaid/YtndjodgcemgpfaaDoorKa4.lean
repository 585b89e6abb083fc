/- A part of the proof: the texts Pdec, Qxf37, Qxf43, Qxf44, Qxf14, Qxf66, Qxf47, Pbrk, packed. -/
import Derived.Lib.ValidLaws
import Derived.Lib.TrimU
import Derived.Test.YtndjodgcemgpfaaDoorKa3

open Go.World renaming block_lt_of_cell? → ua
open List renaming setIfInBounds_toArray → ub, set_cons_zero → uc, set_cons_succ → ud, length_drop → uf, length_take → ug, map_toArray → uh, map_cons → ui, map_nil → uj
open Option renaming bind_eq_some_iff → ue, bind_some → uk
open Nat renaming le_refl → um
set_option linter.unusedVariables false
set_option linter.unusedSimpArgs false
section
namespace Go.Proofs.YtndjodgcemgpfaaDoor.Q
open Go.RowKit Go.Proofs.YtndjodgcemgpfaaDoorW.PrintWords Go.Proofs.YtndjodgcemgpfaaDoorW.PrintLast Go.Proofs.YtndjodgcemgpfaaDoorW.PrintMore
open Go.Lib (decodeN decode_at)
theorem bt_get (s : ByteArray) (p : Nat) (h : p < s.size) : bt s (p : Int) = ((s.get! p).toNat : Int) := by
 have h1 : ((p : Int)).toNat < s.size := by omega
 unfold bt
 rw [dif_pos h1]
 show ((s.data[(p : Int).toNat]'h1).toNat : Int) = ((s.data[p]!).toNat : Int)
 simp only [Int.toNat_natCast]
 rw [getElem!_pos s.data p h]
def blen (v : Int) : Int := if v < 128 then 1 else if v < 2048 then 2 else if v < 65536 then 3 else 4
theorem charOK_ev (v : Int) : spec_l01CharOK.f v = some (decide (0 ≤ v ∧ v ≤ 1114111 ∧ (v < 55296 ∨ 57343 < v))) := by
 unfold spec_l01CharOK.f
 repeat' split
 all_goals (congr 1; symm; first | (apply decide_eq_true; omega) | (apply decide_eq_false; omega) | (apply decide_eq_decide.2; omega))
def bytesOf (v : Int) : List Int :=
 if v < 128 then [v % 256] else if v < 2048 then [192 + v / 64, 128 + v % 64] else if v < 65536 then [224 + v / 4096, 128 + v / 64 % 64, 128 + v % 64]
 else [240 + v / 262144, 128 + v / 4096 % 64, 128 + v / 64 % 64, 128 + v % 64]
theorem l01Bytes_len (v : Int) : ∃ l, spec_l01Bytes.f v = some l ∧ (l.length : Int) = blen v := by
 unfold spec_l01Bytes.f blen
 repeat' split
 all_goals exact ⟨_, rfl, rfl⟩
theorem l01Bytes_ev (v : Int) (h0 : 0 ≤ v) (h1 : v ≤ 1114111) : spec_l01Bytes.f v = some (bytesOf v) := by
 unfold spec_l01Bytes.f bytesOf
 have e1 : Int.tdiv v 64 = v / 64 := Int.tdiv_eq_ediv_of_nonneg h0
 have e2 : Int.tdiv v 4096 = v / 4096 := Int.tdiv_eq_ediv_of_nonneg h0
 have e3 : Int.tdiv v 262144 = v / 262144 := Int.tdiv_eq_ediv_of_nonneg h0
 have w1 : wrap64 (v / 64) = v / 64 := zw (by omega) (by omega)
 have w2 : wrap64 (v / 4096) = v / 4096 := zw (by omega) (by omega)
 have w3 : wrap64 (v / 262144) = v / 262144 := zw (by omega) (by omega)
 have m0 : Int.tmod v 64 = v % 64 := Int.tmod_eq_emod_of_nonneg h0
 have m1 : Int.tmod (v / 64) 64 = v / 64 % 64 := Int.tmod_eq_emod_of_nonneg (by omega)
 have m2 : Int.tmod (v / 4096) 64 = v / 4096 % 64 := Int.tmod_eq_emod_of_nonneg (by omega)
 rw [e1, e2, e3, w1, w2, w3, m0, m1, m2]
 have W : ∀ x : Int, 0 ≤ x → x < 256 → wrap64 x % 256 = x := fun x a b => by rw [zw (by omega) (by omega)]; omega
 by_cases c0 : v < 128
 ·rw [if_pos c0, if_pos c0]
 rw [if_neg c0, if_neg c0]
 by_cases c1 : v < 2048
 ·rw [if_pos c1, if_pos c1, W _ (by omega) (by omega), W _ (by omega) (by omega)]
 rw [if_neg c1, if_neg c1]
 by_cases c2 : v < 65536
 ·rw [if_pos c2, if_pos c2, W _ (by omega) (by omega), W _ (by omega) (by omega), W _ (by omega) (by omega)]
 rw [if_neg c2, if_neg c2, W _ (by omega) (by omega), W _ (by omega) (by omega), W _ (by omega) (by omega), W _ (by omega) (by omega)]
def fin (v n : Int) : Int × Int := if (0 ≤ v ∧ v ≤ 1114111 ∧ (v < 55296 ∨ 57343 < v)) ∧ blen v = n then (v, n) else (0, 0)
theorem at_end (k : Nat) (s : ByteArray) (p n v i : Int) (h : ¬ i < n) : spec_l01At.l0 (k + 1) s p n v i = some (fin v n) := by
 rw [spec_l01At.l0, if_neg h, charOK_ev]
 obtain ⟨l, hl, hn⟩ := l01Bytes_len v
 simp only [uk, decide_eq_true_eq]
 unfold fin
 by_cases c : 0 ≤ v ∧ v ≤ 1114111 ∧ (v < 55296 ∨ 57343 < v)
 ·rw [if_pos c, hl]
  simp only [uk, hn]
  by_cases c' : blen v = n
  ·rw [if_pos c', if_pos ⟨c, c'⟩]
  ·rw [if_neg c', if_neg (fun h => c' h.2)]
 ·rw [if_neg c, if_neg (fun h => c h.1)]
theorem at_step (k : Nat) (s : ByteArray) (p i : Nat) (n v : Int) (b : Nat) (h : (i : Int) < n) (hi : i < 8) (hp : p + i < s.size) (hs : s.size ≤ 1099511627776) (hv : 0 ≤ v ∧ v ≤ 1099511627776) (hb : (s.get! (p + i)).toNat = b) :
  spec_l01At.l0 (k + 1) s p n v i = if b < 128 then some (0, 0) else if 191 < b then some (0, 0) else spec_l01At.l0 k s p n (v * 64 + b - 128) ((i + 1 : Nat) : Int) := by
 have hb8 : b < 256 := by rw [← hb]; exact UInt8.toNat_lt _
 have e0 : wrap64 ((p : Int) + (i : Int)) = ((p + i : Nat) : Int) := by rw [zw (by omega) (by omega)]; omega
 have e1 : bt s ((p + i : Nat) : Int) = (b : Int) := by rw [bt_get s _ hp, hb]
 rw [spec_l01At.l0, if_pos h, e0, if_pos (by omega), if_pos (by omega), e1, zw (x := (b : Int)) (by omega) (by omega), zw (x := v * 64) (by omega) (by omega), zw (x := v * 64 + (b : Int)) (by omega) (by omega),
  zw (x := v * 64 + (b : Int) - 128) (by omega) (by omega), zw (x := (i : Int) + 1) (by omega) (by omega)]
 by_cases c0 : b < 128
 ·rw [if_pos c0, if_pos (by omega)]
 rw [if_neg c0, if_neg (by omega)]
 by_cases c1 : 191 < b
 ·rw [if_pos c1, if_pos (by omega)]
 rw [if_neg c1, if_neg (by omega)]
 rfl
set_option maxRecDepth 100000 in
set_option maxHeartbeats 4000000 in
theorem dec2 (N b0 b1 b2 b3 : Nat) (h : 192 ≤ b0) (h' : b0 < 224) (g1 : b1 < 256) : decodeN N b0 b1 b2 b3 = if 1 < N ∧ 128 ≤ b1 ∧ b1 ≤ 191 ∧ 128 ≤ (b0 - 192) * 64 + (b1 - 128) then ((b0 - 192) * 64 + (b1 - 128), 2) else (65533, 1) := by
 unfold decodeN
 repeat' split
 all_goals first | rfl | (exfalso; omega) | (congr 1; omega)
set_option maxRecDepth 100000 in
set_option maxHeartbeats 4000000 in
theorem dec3 (N b0 b1 b2 b3 : Nat) (h : 224 ≤ b0) (h' : b0 < 240) (g1 : b1 < 256) (g2 : b2 < 256) : decodeN N b0 b1 b2 b3 = if 2 < N ∧ (128 ≤ b1 ∧ b1 ≤ 191) ∧ (128 ≤ b2 ∧ b2 ≤ 191) ∧ 2048 ≤ ((b0 - 224) * 64 + (b1 - 128)) * 64 + (b2 - 128) ∧ (((b0 - 224) * 64 + (b1 - 128)) * 64 + (b2 - 128) < 55296 ∨ 57343 < ((b0 - 224) * 64 + (b1 - 128)) * 64 + (b2 - 128)) then (((b0 - 224) * 64 + (b1 - 128)) * 64 + (b2 - 128), 3) else (65533, 1) := by
 unfold decodeN
 repeat' split
 all_goals first | rfl | (exfalso; omega) | (congr 1; omega)
set_option maxRecDepth 100000 in
set_option maxHeartbeats 4000000 in
theorem dec4 (N b0 b1 b2 b3 : Nat) (h : 240 ≤ b0) (h' : b0 < 256) (g1 : b1 < 256) (g2 : b2 < 256) (g3 : b3 < 256) : decodeN N b0 b1 b2 b3 = if 3 < N ∧ (128 ≤ b1 ∧ b1 ≤ 191) ∧ (128 ≤ b2 ∧ b2 ≤ 191) ∧ (128 ≤ b3 ∧ b3 ≤ 191) ∧ 65536 ≤ (((b0 - 240) * 64 + (b1 - 128)) * 64 + (b2 - 128)) * 64 + (b3 - 128) ∧ (((b0 - 240) * 64 + (b1 - 128)) * 64 + (b2 - 128)) * 64 + (b3 - 128) ≤ 1114111 then ((((b0 - 240) * 64 + (b1 - 128)) * 64 + (b2 - 128)) * 64 + (b3 - 128), 4) else (65533, 1) := by
 unfold decodeN
 repeat' split
 all_goals first | rfl | (exfalso; omega) | (congr 1; omega)
def tell (x : Nat × Nat) : Int × Int := if x = (65533, 1) then (0, 0) else ((x.1 : Int), (x.2 : Int))
theorem tell_bad : tell (65533, 1) = (0, 0) := rfl
theorem tell_at (v n : Nat) (h : n ≠ 1) : tell (v, n) = ((v : Int), (n : Int)) := if_neg (fun e => h (Prod.mk.inj e).2)
theorem l01At_ev (k : Nat) (s : ByteArray) (p : Nat) (hp : p < s.size) (hs : s.size ≤ 1099511627776) : spec_l01At.f (k + 6) s p = some (tell (Utf8.decode s p)) := by
 obtain ⟨b0, hb0⟩ : ∃ b, (s.get! p).toNat = b := ⟨_, rfl⟩
 obtain ⟨b1, hb1⟩ : ∃ b, (s.get! (p + 1)).toNat = b := ⟨_, rfl⟩
 obtain ⟨b2, hb2⟩ : ∃ b, (s.get! (p + 2)).toNat = b := ⟨_, rfl⟩
 obtain ⟨b3, hb3⟩ : ∃ b, (s.get! (p + 3)).toNat = b := ⟨_, rfl⟩
 have g0 : b0 < 256 := by rw [← hb0]; exact UInt8.toNat_lt _
 have g1 : b1 < 256 := by rw [← hb1]; exact UInt8.toNat_lt _
 have g2 : b2 < 256 := by rw [← hb2]; exact UInt8.toNat_lt _
 have g3 : b3 < 256 := by rw [← hb3]; exact UInt8.toNat_lt _
 rw [decode_at, hb0, hb1, hb2, hb3]
 have e0 : bt s (p : Int) = (b0 : Int) := by rw [bt_get s p hp, hb0]
 rw [spec_l01At.f, if_pos (by omega), if_pos (by omega), e0, zw (x := (b0 : Int)) (by omega) (by omega)]
 by_cases c0 : b0 < 128
 ·rw [if_pos (by omega), show decodeN (s.size - p) b0 b1 b2 b3 = (b0, 1) by unfold decodeN; rw [if_pos c0]]
  unfold tell
  rw [if_neg (fun e => by have := (Prod.mk.inj e).1; omega)]
  rfl
 rw [if_neg (by omega)]
 by_cases c4 : 240 ≤ b0
 ·rw [if_pos (by omega), dec4 _ b0 b1 b2 b3 c4 g0 g1 g2 g3, spec_l01At.j0, zw (x := (p : Int) + 4) (by omega) (by omega), zw (x := (b0 : Int) - 240) (by omega) (by omega)]
  by_cases hn : 3 < s.size - p
  ·rw [if_neg (by omega)]
   have s1 := at_step (k + 4) s p 1 4 ((b0 : Int) - 240) b1 (by omega) (by omega) (by omega) hs (by omega) hb1
   rw [show ((1 : Nat) : Int) = 1 by rfl] at s1
   rw [s1]
   by_cases d1 : b1 < 128
   ·rw [if_pos d1, if_neg (by omega)]; rfl
   rw [if_neg d1]
   by_cases d1' : 191 < b1
   ·rw [if_pos d1', if_neg (by omega)]; rfl
   rw [if_neg d1', at_step (k + 3) s p 2 4 _ b2 (by omega) (by omega) (by omega) hs (by omega) hb2]
   by_cases d2 : b2 < 128
   ·rw [if_pos d2, if_neg (by omega)]; rfl
   rw [if_neg d2]
   by_cases d2' : 191 < b2
   ·rw [if_pos d2', if_neg (by omega)]; rfl
   rw [if_neg d2', at_step (k + 2) s p 3 4 _ b3 (by omega) (by omega) (by omega) hs (by omega) hb3]
   by_cases d3 : b3 < 128
   ·rw [if_pos d3, if_neg (by omega)]; rfl
   rw [if_neg d3]
   by_cases d3' : 191 < b3
   ·rw [if_pos d3', if_neg (by omega)]; rfl
   rw [if_neg d3', at_end (k + 1) s p 4 _ _ (by omega)]
   congr 1
   unfold fin blen
   by_cases e : 65536 ≤ (((b0 - 240) * 64 + (b1 - 128)) * 64 + (b2 - 128)) * 64 + (b3 - 128) ∧ (((b0 - 240) * 64 + (b1 - 128)) * 64 + (b2 - 128)) * 64 + (b3 - 128) ≤ 1114111
   ·rw [if_pos (by refine ⟨by omega, ?_⟩; repeat' split; all_goals omega), if_pos ⟨hn, by omega, by omega, by omega, e⟩, tell_at _ _ (by decide)]
    congr 1
    omega
   ·rw [if_neg, if_neg (fun h => e h.2.2.2.2)]
    ·rfl
    ·rintro ⟨h1, h2⟩
     revert h2
     repeat' split
     all_goals omega
  ·rw [if_pos (by omega), if_neg (by omega)]; rfl
 rw [if_neg (by omega)]
 by_cases c3 : 224 ≤ b0
 ·rw [if_pos (by omega), dec3 _ b0 b1 b2 b3 c3 (by omega) g1 g2, spec_l01At.j0, zw (x := (p : Int) + 3) (by omega) (by omega), zw (x := (b0 : Int) - 224) (by omega) (by omega)]
  by_cases hn : 2 < s.size - p
  ·rw [if_neg (by omega)]
   have s1 := at_step (k + 4) s p 1 3 ((b0 : Int) - 224) b1 (by omega) (by omega) (by omega) hs (by omega) hb1
   rw [show ((1 : Nat) : Int) = 1 by rfl] at s1
   rw [s1]
   by_cases d1 : b1 < 128
   ·rw [if_pos d1, if_neg (by omega)]; rfl
   rw [if_neg d1]
   by_cases d1' : 191 < b1
   ·rw [if_pos d1', if_neg (by omega)]; rfl
   rw [if_neg d1', at_step (k + 3) s p 2 3 _ b2 (by omega) (by omega) (by omega) hs (by omega) hb2]
   by_cases d2 : b2 < 128
   ·rw [if_pos d2, if_neg (by omega)]; rfl
   rw [if_neg d2]
   by_cases d2' : 191 < b2
   ·rw [if_pos d2', if_neg (by omega)]; rfl
   rw [if_neg d2', at_end (k + 2) s p 3 _ _ (by omega)]
   congr 1
   unfold fin blen
   by_cases e : 2048 ≤ ((b0 - 224) * 64 + (b1 - 128)) * 64 + (b2 - 128) ∧ (((b0 - 224) * 64 + (b1 - 128)) * 64 + (b2 - 128) < 55296 ∨ 57343 < ((b0 - 224) * 64 + (b1 - 128)) * 64 + (b2 - 128))
   ·rw [if_pos (by refine ⟨by omega, ?_⟩; repeat' split; all_goals omega), if_pos ⟨hn, by omega, by omega, e⟩, tell_at _ _ (by decide)]
    congr 1
    omega
   ·rw [if_neg, if_neg (fun h => e h.2.2.2)]
    ·rfl
    ·rintro ⟨h1, h2⟩
     revert h2
     repeat' split
     all_goals omega
  ·rw [if_pos (by omega), if_neg (by omega)]; rfl
 rw [if_neg (by omega)]
 by_cases c2 : 192 ≤ b0
 ·rw [if_pos (by omega), dec2 _ b0 b1 b2 b3 c2 (by omega) g1, spec_l01At.j0, zw (x := (p : Int) + 2) (by omega) (by omega), zw (x := (b0 : Int) - 192) (by omega) (by omega)]
  by_cases hn : 1 < s.size - p
  ·rw [if_neg (by omega)]
   have s1 := at_step (k + 4) s p 1 2 ((b0 : Int) - 192) b1 (by omega) (by omega) (by omega) hs (by omega) hb1
   rw [show ((1 : Nat) : Int) = 1 by rfl] at s1
   rw [s1]
   by_cases d1 : b1 < 128
   ·rw [if_pos d1, if_neg (by omega)]; rfl
   rw [if_neg d1]
   by_cases d1' : 191 < b1
   ·rw [if_pos d1', if_neg (by omega)]; rfl
   rw [if_neg d1', at_end (k + 3) s p 2 _ _ (by omega)]
   congr 1
   unfold fin blen
   by_cases e : 128 ≤ (b0 - 192) * 64 + (b1 - 128)
   ·rw [if_pos (by refine ⟨by omega, ?_⟩; repeat' split; all_goals omega), if_pos ⟨hn, by omega, by omega, e⟩, tell_at _ _ (by decide)]
    congr 1
    omega
   ·rw [if_neg, if_neg (fun h => e h.2.2.2)]
    ·rfl
    ·rintro ⟨h1, h2⟩
     revert h2
     repeat' split
     all_goals omega
  ·rw [if_pos (by omega), if_neg (by omega)]; rfl
 rw [if_neg (by omega), show decodeN (s.size - p) b0 b1 b2 b3 = (65533, 1) from Go.Lib.decodeN_bad _ _ _ _ _ (.inl ⟨by omega, by omega⟩)]
 rfl
def chars (s : ByteArray) (p : Nat) : List Int := if h : p < s.size then ((Utf8.decode s p).1 : Int) :: chars s (p + (Utf8.decode s p).2) else []
termination_by s.size - p
decreasing_by have := Go.Lib.width_pos s p; omega
def okAt (s : ByteArray) (p : Nat) : Bool := if h : p < s.size then (if Utf8.decode s p = (65533, 1) then false else okAt s (p + (Utf8.decode s p).2)) else true
termination_by s.size - p
decreasing_by have := Go.Lib.width_pos s p; omega
theorem chars_end {s : ByteArray} {p : Nat} (h : ¬ p < s.size) : chars s p = [] := by rw [chars, dif_neg h]
theorem chars_cons {s : ByteArray} {p : Nat} (h : p < s.size) : chars s p = ((Utf8.decode s p).1 : Int) :: chars s (p + (Utf8.decode s p).2) := by rw [chars, dif_pos h]
theorem okAt_end {s : ByteArray} {p : Nat} (h : ¬ p < s.size) : okAt s p = true := by rw [okAt, dif_neg h]
theorem okAt_step {s : ByteArray} {p : Nat} (h : p < s.size) : okAt s p = if Utf8.decode s p = (65533, 1) then false else okAt s (p + (Utf8.decode s p).2) := by rw [okAt, dif_pos h]
theorem decode_le4 (s : ByteArray) (p : Nat) : (Utf8.decode s p).2 ≤ 4 := by
 rw [decode_at]
 unfold decodeN
 repeat' split
 all_goals simp only [Nat.reduceLeDiff]
theorem size_list (s : ByteArray) : s.data.toList.length = s.size := Array.length_toList
theorem valid_drop (s : ByteArray) : ∀ (d p : Nat), s.size - p ≤ d → Go.Lib.validD (s.data.toList.drop p) = okAt s p := by
 intro d
 induction d with
 | zero =>
  intro p hd
  rw [okAt_end (by omega), List.drop_eq_nil_of_le (by rw [size_list]; omega)]
  rfl
 | succ d ih =>
  intro p hd
  by_cases hp : p < s.size
  ·have hw := Go.Lib.width_pos s p
   rw [okAt_step hp, Go.Lib.validD_step _ (fun e => by have h0 := congrArg List.length e; rw [uf, size_list, List.length_nil] at h0; omega), Go.Lib.decodeL_drop, List.drop_drop, ih _ (by omega)]
   by_cases c : Utf8.decode s p = (65533, 1)
   ·rw [if_pos c, if_pos (by rw [c]; exact ⟨rfl, rfl⟩)]
   ·rw [if_neg c, if_neg (fun h => c (Prod.ext h.1 h.2))]
  ·rw [okAt_end hp, List.drop_eq_nil_of_le (by rw [size_list]; omega)]
   rfl
theorem valid_ok (s : ByteArray) : Go.Lib.validD s.data.toList = okAt s 0 := valid_drop s (s.size - 0) 0 (um _)
theorem l01Decode_l0 (s : ByteArray) (hs : s.size ≤ 1099511627776) : ∀ (d k p : Nat) (acc : List Int), s.size - p < d → acc.length ≤ p →
  spec_l01Decode.l0 (k + d + 6) s acc (p : Int) = some (if okAt s p = true then (acc ++ chars s p, true) else ([], false)) := by
 intro d
 induction d with
 | zero => intro k p acc hd; omega
 | succ d ih =>
  intro k p acc hd ha
  rw [show k + (d + 1) + 6 = (k + d + 6) + 1 by omega, spec_l01Decode.l0]
  by_cases hp : p < s.size
  ·have hw := Go.Lib.width_pos s p
   rw [if_pos (by omega), l01At_ev (k + d) s p hp hs, okAt_step hp, chars_cons hp]
   simp only [uk]
   by_cases c : Utf8.decode s p = (65533, 1)
   ·rw [if_pos c, c, tell_bad]
    rfl
   ·have hle := decode_le4 s p
    have ht : tell (Utf8.decode s p) = (((Utf8.decode s p).1 : Int), ((Utf8.decode s p).2 : Int)) := if_neg c
    rw [if_neg c, ht, if_neg (by simp only; omega), if_pos (by omega)]
    simp only
    rw [zw (by omega) (by omega), show (p : Int) + ((Utf8.decode s p).2 : Int) = ((p + (Utf8.decode s p).2 : Nat) : Int) by omega, ih k _ _ (by omega) (by simp; omega)]
    simp only [List.append_assoc, List.singleton_append]
  ·rw [if_neg (by omega), okAt_end hp, chars_end hp, if_pos rfl, List.append_nil]
def decP (s : ByteArray) : List Int × Int := if 65536 < s.size then ([], 2) else if okAt s 0 = true then (chars s 0, 0) else ([], 3)
theorem spec_Decode_ev (s : ByteArray) (hs : s.size ≤ 1099511627776) (k : Nat) : spec_Decode.f (k + s.size + 7) s = some (decP s) := by
 unfold spec_Decode.f decP
 by_cases c : 65536 < s.size
 ·rw [if_pos (by omega), if_pos c]
 ·rw [if_neg (by omega), if_neg c, spec_l01Decode.f, show k + s.size + 7 = k + (s.size + 1) + 6 by omega]
  have h := l01Decode_l0 s hs (s.size + 1) k 0 [] (by omega) (by simp)
  rw [show ((0 : Nat) : Int) = 0 by rfl] at h
  rw [h]
  by_cases o : okAt s 0 = true
  ·simp [o]
  ·simp [o]
end Go.Proofs.YtndjodgcemgpfaaDoor.Q
end
section
namespace Go.Proofs.YtndjodgcemgpfaaDoor.Q
open Go.RowKit Go.Proofs.YtndjodgcemgpfaaDoorW.PrintWords Go.Proofs.YtndjodgcemgpfaaDoorW.PrintLast Go.Proofs.YtndjodgcemgpfaaDoorW.PrintMore
attribute [local go_sem] max2_int min2_int max_two min_two max_three min_three max_four min_four
def spec_l01Encode.l0 : Nat → List Int → List Int → Int → Option (ByteArray)
 | 0, _, _, _ => none
 | k + 1, x0, x3, x4 => if x4 < (x0.length : Int) then (if 0 ≤ x4 then ((spec_l01Bytes.f (rd x0 x4)).bind fun t144 => (if x3.length + t144.length < 140737488355328 then (spec_l01Encode.l0 k x0 (x3 ++ t144) (wrap64 (x4 + 1))) else (none))) else (none)) else (some (strOfNums x3))
def spec_l01Encode.f (k : Nat) (l0 : List Int) : Option (ByteArray) := spec_l01Encode.l0 k l0 (([] : List Int)) 0
set_option maxHeartbeats 8000000 in
set_option maxRecDepth 100000 in
theorem spec_l01Encode.calls (k : Nat) (A0 : Option Addr) (c0 : Nat) (l0 : List Int) (r : ByteArray) (w : World) (hr0 : Kd.C (Kd.int .i64) w A0 l0.length l0) (hc0 : l0.length ≤ c0) (h : spec_l01Encode.f k l0 = some r) :
  Calls Tryd.prog 37 #[.slice A0 l0.length c0] w fun e w' => e = .returned (.string r) ∧ Below w.heap.size w w' := by
 have HR0 := zu.mk hr0
 have HC0 := zu.mk hc0
 clear hr0 hc0
 have HB := zu.mk (Below.refl w.heap.size w)
 have H : (spec_l01Encode.l0 k l0 (([] : List Int)) 0) = some r := h
 clear h
 obtain ⟨y140, hy140⟩ : ∃ y_ : List Int, y_ = (([] : List Int)) := ⟨_, rfl⟩
 replace H : (spec_l01Encode.l0 k l0 y140 0) = some r := by first | (rw [hy140]; with_reducible exact H) | (have H2_ := (uk _ _).symm.trans H; rw [hy140]; with_reducible exact H2_) | (have H2_ := (uk _ _).symm.trans H; with_reducible exact H2_) | with_reducible exact H | (rw [hy140]; exact H) | exact H
 have Ny140 := zu.mk hy140
 clear hy140
 have H' := zu.mk H
 clear H
 go_enter Tryd.func37, Tryd.ntmps37
 go_wp2_with (first | ((with_reducible refine zn (N := 5) rfl ?_); refine Kd.R_lit (Kd.int .u8) _ 5 ?hg (N := 5) ?hd (xs := ([] : List Int)) (inner := []) (ok := fun _ => True) (okp := fun _ => True) ?hr ?hp (fun _ hk => hk) trivial (Below.refl _ _) (um _) (by simp) ?_; (case hd => rfl); (case hg => rfl); (case hr => first | (go_simp; done) | (go_simp; rfl)); (case hp => exact (Reps.none _ _)); intro v141 w2 ho3 hb hg_ hnew_; clear hg_ hnew_; (first | rw [← Ny140.out] at ho3 | (simp only [Int.reduceToNat] at ho3; rw [← Ny140.out] at ho3)); have n0_ := zu.mk (Kd.R_lower ho3 (zg y0)); have n1_ := zu.mk (ze y0 hb); clear HB; have HO142 := n0_; have HB := n1_; clear n0_ n1_; clear hb ho3))
 go_loopg [3, 4] k (fun kq v3 v4 w' => ∃ (x3_1 : List Int) (x4_1 : Int), v4 = .int .i64 x4_1 ∧ zu (spec_l01Encode.l0 kq l0 x3_1 x4_1 = some r) ∧ zu (kq ≤ k) ∧ zu (Kd.R (Kd.int .u8) 5 w' w.heap.size (fun _ => True) v3 x3_1) ∧ zu (Below w.heap.size w w'))
 case atStart => exact ⟨(y140), (0), (by first | rfl | (simp; done) | (simp [*]; done)), H', ⟨um _⟩, ⟨by (with_reducible repeat (first | apply Kd.R_alloc | apply Kd.R_drewN | apply Kd.R_drew)); exact HO142.out⟩, ⟨y0⟩⟩
 case round =>
  clear H'
  try clear p2
  try clear c3
  obtain ⟨x3_1, x4_1, rfl, HA, HK1, HO_3, HB⟩ := hrel
  cases gk with
  | zero => exact absurd HA.out (by simp [spec_l01Encode.l0])
  | succ k1 =>
   have H := HA.out
   clear HA
   simp only [spec_l01Encode.l0] at H
   by_cases c4 : x4_1 < (l0.length : Int)
   ·rw [if_pos c4] at H
    have c4b0 : decide (x4_1 < (l0.length : Int)) = true := decide_eq_true c4
    clear c4
    by_cases c5 : 0 ≤ x4_1
    ·rw [if_pos c5] at H
     have c5b0 : decide (0 ≤ x4_1) = true := decide_eq_true c5
     clear c5
     replace H := ue.mp H
     obtain ⟨t144, A60, H⟩ := H
     replace H : (if x3_1.length + t144.length < 140737488355328 then (spec_l01Encode.l0 k1 l0 (x3_1 ++ t144) (wrap64 (x4_1 + 1))) else (none)) = some r := H
     have A6 := zu.mk A60
     clear A60
     by_cases c7 : x3_1.length + t144.length < 140737488355328
     ·rw [if_pos c7] at H
      have LMc7 := zu.mk c7
      clear c7
      obtain ⟨y147, hy147⟩ : ∃ y_ : List Int, y_ = (x3_1 ++ t144) := ⟨_, rfl⟩
      replace H : (spec_l01Encode.l0 k1 l0 y147 (wrap64 (x4_1 + 1))) = some r := by first | (rw [hy147]; with_reducible exact H) | (have H2_ := (uk _ _).symm.trans H; rw [hy147]; with_reducible exact H2_) | (have H2_ := (uk _ _).symm.trans H; with_reducible exact H2_) | with_reducible exact H | (rw [hy147]; exact H) | exact H
      have Ny147 := zu.mk hy147
      clear hy147
      have H' := zu.mk H
      clear H
      have p143 : 0 ≤ (x4_1 : Int) := of_decide_eq_true (by first | (with_reducible assumption) | assumption)
      have q143 : x4_1 < (l0.length : Int) := of_decide_eq_true (by first | (with_reducible assumption) | assumption)
      obtain ⟨ad143, e143, hx143_0⟩ := Kd.at_int HR0.out x4_1 p143 q143
      cases e143
      replace hx143_0 := (HB.out.cell (ua w _ hx143_0)).trans hx143_0
      replace p143 := eq_true p143
      replace q143 := eq_true q143
      go_wp2_with (first | ((with_reducible refine zm (f := 45) rfl ?_); refine goesL_ (some 17) rfl rfl Tryd.func45 (by kernel_rfl) rfl #[.int .i64 (rd l0 x4_1)] rfl (by (try simp only [uh, ui, uj]); first | done | rfl | (simp only [uf, ug]; rfl)) ?_; (with_reducible refine (spec_l01Bytes.calls (rd l0 x4_1) t144 _ A6.out).mono ?_); rintro e w8 ⟨v145, rfl, ho0, hb⟩; refine ⟨_, rfl, ?_⟩; have n0_ := zu.mk (Kd.R_elder' (by (with_reducible repeat (first | apply Kd.R_alloc | apply Kd.R_drewN | apply Kd.R_drew)); exact HO_3.out) (Kd.R_base ho0) hb); have n1_ := zu.mk (Kd.R_lower (Kd.R_new' ho0 (Kd.R_lt (by (with_reducible repeat (first | apply Kd.R_alloc | apply Kd.R_drewN | apply Kd.R_drew)); exact HO_3.out))) (zg y0)); have n2_ := zu.mk (ze y0 hb); clear HO_3; clear HB; have HO_3 := n0_; have HO146 := n1_; have HB := n2_; clear n0_ n1_ n2_; (try clear hb); (try clear hb2); (try clear hk); (try clear hi); (try clear ho0); obtain ⟨Ao10, co10, eo10⟩ := Kd.R_slice HO146.out; subst eo10) | ((with_reducible refine zo (b := .append) (xs := #[.tmp 12, .tmp 17]) rfl ?_); at_builtin; refine Kd.R_append_rows (Kd.int .u8) (w0 := w) w.heap.size rfl (.tmp 12) (.tmp 17) 34 5 (.int .u8 0) 1 rfl Tryd.underlying34 info5 rfl (by decide) (by omega) u3 x3_1 t144 _ _ _ (fun k_ => some k_ ≠ (.slice Ao10 t144.length co10 : Value).ownBlock) (fun _ => False) rfl rfl ?aO ?aR (fun _ _ h => h) (fun _ h => h.elim) ?aF ?aB ?aS ?aL ?_; (case aR => repeat (first | exact (Kd.R_reads' HO146.out).2.2 | (with_reducible refine Kd.C_alloc ?_ _) | (with_reducible refine Kd.C_drewN ?_ _) | (with_reducible refine Kd.C_drew ?_))); (case aB => exact y0); (case aF => exact (fun k_ hk => Kd.fresh' (Kd.R_lt (by (with_reducible repeat (first | apply Kd.R_alloc | apply Kd.R_drewN | apply Kd.R_drew)); exact HO146.out)) k_ hk)); (case aO => exact (by (with_reducible repeat (first | apply Kd.R_alloc | apply Kd.R_drewN | apply Kd.R_drew)); exact Kd.R_mono HO_3.out (fun _ hk => hk.2))); (case aS => exact (zg y0)); (case aL => have := LMc7.out; omega); intro v148 w9 ho hb hg hat; rw [← Ny147.out] at ho; have n0_ := zu.mk (Kd.R_after (ok := (fun _ => True)) (by (with_reducible repeat (first | apply Kd.R_alloc | apply Kd.R_drewN | apply Kd.R_drew)); exact HO146.out) hg hat); have n1_ := zu.mk (hb); have n2_ := zu.mk (ho); clear HO146; clear HB; clear HO_3; have HO146 := n0_; have HB := n1_; have HO149 := n2_; clear n0_ n1_ n2_; clear ho hb hg hat))
      go_roundg k1
      case measure => have := HK1.out; omega
      case rel => exact ⟨(y147), (wrap64 (x4_1 + 1)), (by first | rfl | (simp; done) | (simp [*]; done)), H', ⟨by have := HK1.out; omega⟩, ⟨by (with_reducible repeat (first | apply Kd.R_alloc | apply Kd.R_drewN | apply Kd.R_drew)); exact Kd.R_mono HO149.out (fun _ hk => trivial)⟩, ⟨y0⟩⟩
     ·rw [if_neg c7] at H
      exact absurd H (by simp)
    ·rw [if_neg c5] at H
     exact absurd H (by simp)
   ·rw [if_neg c4] at H
    have c4b0 : decide (x4_1 < (l0.length : Int)) = false := decide_eq_false c4
    clear c4
    obtain rfl := Option.some.inj H
    have hcv11 := own_string (P := Tryd.prog) Tryd.underlying34 Tryd.underlying5 Tryd.underlying9 (Kd.own_of_R HO_3.out)
    go_wp2
    go_ret
    exact ⟨by first | rfl | (simp [zj, zi] <;> rfl) | (simp [*, zj, zi] <;> rfl), y0⟩
mutual
def spec_Class.j0 : Nat → Int → Bool → Option (Int)
 | 0, _, _ => none
 | k + 1, x0, x3 => if x3 = true then (some 1) else (if x0 ≥ 48 then (spec_Class.j1 k x0 (decide (x0 ≤ 57))) else (spec_Class.j1 k x0 false))
def spec_Class.j1 : Nat → Int → Bool → Option (Int)
 | 0, _, _ => none
 | k + 1, x0, x42 => if x42 = true then (some 2) else (if x0 = 39 then (spec_Class.j2 k x0 true) else (spec_Class.j2 k x0 (x0 == 95)))
def spec_Class.j2 : Nat → Int → Bool → Option (Int)
 | 0, _, _ => none
 | k + 1, x0, x49 => if x49 = true then (some 3) else (if x0 ≥ 12352 then (if x0 ≤ 12543 then (some 4) else (if x0 ≥ 19968 then (if x0 ≤ 40959 then (some 4) else (some 0)) else (some 0))) else (if x0 ≥ 19968 then (if x0 ≤ 40959 then (some 4) else (some 0)) else (some 0)))
end
def spec_Class.f (k : Nat) (a0 : Int) : Option (Int) := if a0 ≥ 65 then (if a0 ≤ 90 then (spec_Class.j0 k a0 true) else (if a0 ≥ 97 then (if a0 ≤ 122 then (spec_Class.j0 k a0 true) else (if a0 ≥ 192 then (if a0 ≤ 591 then (if a0 = 215 then (if a0 ≥ 880 then (spec_Class.j0 k a0 (decide (a0 ≤ 1279))) else (spec_Class.j0 k a0 false)) else (if a0 = 247 then (if a0 ≥ 880 then (spec_Class.j0 k a0 (decide (a0 ≤ 1279))) else (spec_Class.j0 k a0 false)) else (spec_Class.j0 k a0 true))) else (if a0 ≥ 880 then (spec_Class.j0 k a0 (decide (a0 ≤ 1279))) else (spec_Class.j0 k a0 false))) else (if a0 ≥ 880 then (spec_Class.j0 k a0 (decide (a0 ≤ 1279))) else (spec_Class.j0 k a0 false)))) else (if a0 ≥ 192 then (if a0 ≤ 591 then (if a0 = 215 then (if a0 ≥ 880 then (spec_Class.j0 k a0 (decide (a0 ≤ 1279))) else (spec_Class.j0 k a0 false)) else (if a0 = 247 then (if a0 ≥ 880 then (spec_Class.j0 k a0 (decide (a0 ≤ 1279))) else (spec_Class.j0 k a0 false)) else (spec_Class.j0 k a0 true))) else (if a0 ≥ 880 then (spec_Class.j0 k a0 (decide (a0 ≤ 1279))) else (spec_Class.j0 k a0 false))) else (if a0 ≥ 880 then (spec_Class.j0 k a0 (decide (a0 ≤ 1279))) else (spec_Class.j0 k a0 false))))) else (if a0 ≥ 97 then (if a0 ≤ 122 then (spec_Class.j0 k a0 true) else (if a0 ≥ 192 then (if a0 ≤ 591 then (if a0 = 215 then (if a0 ≥ 880 then (spec_Class.j0 k a0 (decide (a0 ≤ 1279))) else (spec_Class.j0 k a0 false)) else (if a0 = 247 then (if a0 ≥ 880 then (spec_Class.j0 k a0 (decide (a0 ≤ 1279))) else (spec_Class.j0 k a0 false)) else (spec_Class.j0 k a0 true))) else (if a0 ≥ 880 then (spec_Class.j0 k a0 (decide (a0 ≤ 1279))) else (spec_Class.j0 k a0 false))) else (if a0 ≥ 880 then (spec_Class.j0 k a0 (decide (a0 ≤ 1279))) else (spec_Class.j0 k a0 false)))) else (if a0 ≥ 192 then (if a0 ≤ 591 then (if a0 = 215 then (if a0 ≥ 880 then (spec_Class.j0 k a0 (decide (a0 ≤ 1279))) else (spec_Class.j0 k a0 false)) else (if a0 = 247 then (if a0 ≥ 880 then (spec_Class.j0 k a0 (decide (a0 ≤ 1279))) else (spec_Class.j0 k a0 false)) else (spec_Class.j0 k a0 true))) else (if a0 ≥ 880 then (spec_Class.j0 k a0 (decide (a0 ≤ 1279))) else (spec_Class.j0 k a0 false))) else (if a0 ≥ 880 then (spec_Class.j0 k a0 (decide (a0 ≤ 1279))) else (spec_Class.j0 k a0 false))))
set_option maxHeartbeats 8000000 in
set_option maxRecDepth 100000 in
theorem spec_Class.calls (k : Nat) (a0 : Int) (r : Int) (w : World) (h : spec_Class.f k a0 = some r) :
  Calls Tryd.prog 43 #[.int .i64 a0] w fun e w' => e = .returned (.int .i64 r) ∧ Drawn0 w w' := by
 have H : (if a0 ≥ 65 then (if a0 ≤ 90 then (spec_Class.j0 k a0 true) else (if a0 ≥ 97 then (if a0 ≤ 122 then (spec_Class.j0 k a0 true) else (if a0 ≥ 192 then (if a0 ≤ 591 then (if a0 = 215 then (if a0 ≥ 880 then (spec_Class.j0 k a0 (decide (a0 ≤ 1279))) else (spec_Class.j0 k a0 false)) else (if a0 = 247 then (if a0 ≥ 880 then (spec_Class.j0 k a0 (decide (a0 ≤ 1279))) else (spec_Class.j0 k a0 false)) else (spec_Class.j0 k a0 true))) else (if a0 ≥ 880 then (spec_Class.j0 k a0 (decide (a0 ≤ 1279))) else (spec_Class.j0 k a0 false))) else (if a0 ≥ 880 then (spec_Class.j0 k a0 (decide (a0 ≤ 1279))) else (spec_Class.j0 k a0 false)))) else (if a0 ≥ 192 then (if a0 ≤ 591 then (if a0 = 215 then (if a0 ≥ 880 then (spec_Class.j0 k a0 (decide (a0 ≤ 1279))) else (spec_Class.j0 k a0 false)) else (if a0 = 247 then (if a0 ≥ 880 then (spec_Class.j0 k a0 (decide (a0 ≤ 1279))) else (spec_Class.j0 k a0 false)) else (spec_Class.j0 k a0 true))) else (if a0 ≥ 880 then (spec_Class.j0 k a0 (decide (a0 ≤ 1279))) else (spec_Class.j0 k a0 false))) else (if a0 ≥ 880 then (spec_Class.j0 k a0 (decide (a0 ≤ 1279))) else (spec_Class.j0 k a0 false))))) else (if a0 ≥ 97 then (if a0 ≤ 122 then (spec_Class.j0 k a0 true) else (if a0 ≥ 192 then (if a0 ≤ 591 then (if a0 = 215 then (if a0 ≥ 880 then (spec_Class.j0 k a0 (decide (a0 ≤ 1279))) else (spec_Class.j0 k a0 false)) else (if a0 = 247 then (if a0 ≥ 880 then (spec_Class.j0 k a0 (decide (a0 ≤ 1279))) else (spec_Class.j0 k a0 false)) else (spec_Class.j0 k a0 true))) else (if a0 ≥ 880 then (spec_Class.j0 k a0 (decide (a0 ≤ 1279))) else (spec_Class.j0 k a0 false))) else (if a0 ≥ 880 then (spec_Class.j0 k a0 (decide (a0 ≤ 1279))) else (spec_Class.j0 k a0 false)))) else (if a0 ≥ 192 then (if a0 ≤ 591 then (if a0 = 215 then (if a0 ≥ 880 then (spec_Class.j0 k a0 (decide (a0 ≤ 1279))) else (spec_Class.j0 k a0 false)) else (if a0 = 247 then (if a0 ≥ 880 then (spec_Class.j0 k a0 (decide (a0 ≤ 1279))) else (spec_Class.j0 k a0 false)) else (spec_Class.j0 k a0 true))) else (if a0 ≥ 880 then (spec_Class.j0 k a0 (decide (a0 ≤ 1279))) else (spec_Class.j0 k a0 false))) else (if a0 ≥ 880 then (spec_Class.j0 k a0 (decide (a0 ≤ 1279))) else (spec_Class.j0 k a0 false))))) = some r := h
 clear h
 have HC2 := zu.mk H
 clear H
 go_enter Tryd.func43, Tryd.ntmps43
 go_upto_region 1 with (fail)
 go_cut [3] (fun v3 wc => ∃ (kq : Nat) (x3_1 : Bool), v3 = .bool x3_1 ∧ zu (spec_Class.j0 kq a0 x3_1 = some r) ∧ zu (kq ≤ k) ∧ Drawn0 w wc)
 case first =>
  have H := HC2.out
  clear HC2
  by_cases c3 : a0 ≥ 65
  ·rw [if_pos c3] at H
   have c3b0 : decide (65 ≤ a0) = true := decide_eq_true c3
   clear c3
   (first | rw [c3b0] | (simp only [zk, zl]; rw [c3b0]) | skip)
   by_cases c4 : a0 ≤ 90
   ·rw [if_pos c4] at H
    have c4b0 : decide (a0 ≤ 90) = true := decide_eq_true c4
    clear c4
    have H' := zu.mk H
    clear H
    go_wp2
    go_meet
    case rel => exact ⟨_, (true), (by first | rfl | (simp; done) | (simp [*]; done)), H', ⟨by first | omega | exact um _⟩, y1⟩
   ·rw [if_neg c4] at H
    have c4b0 : decide (a0 ≤ 90) = false := decide_eq_false c4
    clear c4
    by_cases c5 : a0 ≥ 97
    ·rw [if_pos c5] at H
     have c5b0 : decide (97 ≤ a0) = true := decide_eq_true c5
     clear c5
     by_cases c6 : a0 ≤ 122
     ·rw [if_pos c6] at H
      have c6b0 : decide (a0 ≤ 122) = true := decide_eq_true c6
      clear c6
      have H' := zu.mk H
      clear H
      go_wp2
      go_meet
      case rel => exact ⟨_, (true), (by first | rfl | (simp; done) | (simp [*]; done)), H', ⟨by first | omega | exact um _⟩, y1⟩
     ·rw [if_neg c6] at H
      have c6b0 : decide (a0 ≤ 122) = false := decide_eq_false c6
      clear c6
      by_cases c7 : a0 ≥ 192
      ·rw [if_pos c7] at H
       have c7b0 : decide (192 ≤ a0) = true := decide_eq_true c7
       clear c7
       by_cases c8 : a0 ≤ 591
       ·rw [if_pos c8] at H
        have c8b0 : decide (a0 ≤ 591) = true := decide_eq_true c8
        clear c8
        by_cases c9 : a0 = 215
        ·rw [if_pos c9] at H
         have c9b0 : (a0 == 215) = true := beq_iff_eq.mpr c9
         have c9b1 : (a0 != 215) = false := bne_eq_false_iff_eq.mpr c9
         clear c9
         by_cases c10 : a0 ≥ 880
         ·rw [if_pos c10] at H
          have c10b0 : decide (880 ≤ a0) = true := decide_eq_true c10
          clear c10
          have H' := zu.mk H
          clear H
          go_wp2
          go_meet
          case rel => exact ⟨_, (decide (a0 ≤ 1279)), (by first | rfl | (simp; done) | (simp [*]; done)), H', ⟨by first | omega | exact um _⟩, y1⟩
         ·rw [if_neg c10] at H
          have c10b0 : decide (880 ≤ a0) = false := decide_eq_false c10
          clear c10
          have H' := zu.mk H
          clear H
          go_wp2
          go_meet
          case rel => exact ⟨_, (false), (by first | rfl | (simp; done) | (simp [*]; done)), H', ⟨by first | omega | exact um _⟩, y1⟩
        ·rw [if_neg c9] at H
         have c9b0 : (a0 == 215) = false := beq_eq_false_iff_ne.mpr c9
         have c9b1 : (a0 != 215) = true := bne_iff_ne.mpr c9
         by_cases c11 : a0 = 247
         ·rw [if_pos c11] at H
          have c11b0 : (a0 == 247) = true := beq_iff_eq.mpr c11
          have c11b1 : (a0 != 247) = false := bne_eq_false_iff_eq.mpr c11
          clear c11
          by_cases c12 : a0 ≥ 880
          ·rw [if_pos c12] at H
           have c12b0 : decide (880 ≤ a0) = true := decide_eq_true c12
           clear c12
           have H' := zu.mk H
           clear H
           go_wp2
           go_meet
           case rel => exact ⟨_, (decide (a0 ≤ 1279)), (by first | rfl | (simp; done) | (simp [*]; done)), H', ⟨by first | omega | exact um _⟩, y1⟩
          ·rw [if_neg c12] at H
           have c12b0 : decide (880 ≤ a0) = false := decide_eq_false c12
           clear c12
           have H' := zu.mk H
           clear H
           go_wp2
           go_meet
           case rel => exact ⟨_, (false), (by first | rfl | (simp; done) | (simp [*]; done)), H', ⟨by first | omega | exact um _⟩, y1⟩
         ·rw [if_neg c11] at H
          have c11b0 : (a0 == 247) = false := beq_eq_false_iff_ne.mpr c11
          have c11b1 : (a0 != 247) = true := bne_iff_ne.mpr c11
          have H' := zu.mk H
          clear H
          go_wp2
          go_meet
          case rel => exact ⟨_, (true), (by first | rfl | (simp; done) | (simp [*]; done)), H', ⟨by first | omega | exact um _⟩, y1⟩
       ·rw [if_neg c8] at H
        have c8b0 : decide (a0 ≤ 591) = false := decide_eq_false c8
        clear c8
        by_cases c13 : a0 ≥ 880
        ·rw [if_pos c13] at H
         have c13b0 : decide (880 ≤ a0) = true := decide_eq_true c13
         clear c13
         have H' := zu.mk H
         clear H
         go_wp2
         go_meet
         case rel => exact ⟨_, (decide (a0 ≤ 1279)), (by first | rfl | (simp; done) | (simp [*]; done)), H', ⟨by first | omega | exact um _⟩, y1⟩
        ·rw [if_neg c13] at H
         have c13b0 : decide (880 ≤ a0) = false := decide_eq_false c13
         clear c13
         have H' := zu.mk H
         clear H
         go_wp2
         go_meet
         case rel => exact ⟨_, (false), (by first | rfl | (simp; done) | (simp [*]; done)), H', ⟨by first | omega | exact um _⟩, y1⟩
      ·rw [if_neg c7] at H
       have c7b0 : decide (192 ≤ a0) = false := decide_eq_false c7
       clear c7
       by_cases c14 : a0 ≥ 880
       ·rw [if_pos c14] at H
        have c14b0 : decide (880 ≤ a0) = true := decide_eq_true c14
        clear c14
        have H' := zu.mk H
        clear H
        go_wp2
        go_meet
        case rel => exact ⟨_, (decide (a0 ≤ 1279)), (by first | rfl | (simp; done) | (simp [*]; done)), H', ⟨by first | omega | exact um _⟩, y1⟩
       ·rw [if_neg c14] at H
        have c14b0 : decide (880 ≤ a0) = false := decide_eq_false c14
        clear c14
        have H' := zu.mk H
        clear H
        go_wp2
        go_meet
        case rel => exact ⟨_, (false), (by first | rfl | (simp; done) | (simp [*]; done)), H', ⟨by first | omega | exact um _⟩, y1⟩
    ·rw [if_neg c5] at H
     have c5b0 : decide (97 ≤ a0) = false := decide_eq_false c5
     clear c5
     by_cases c15 : a0 ≥ 192
     ·rw [if_pos c15] at H
      have c15b0 : decide (192 ≤ a0) = true := decide_eq_true c15
      clear c15
      by_cases c16 : a0 ≤ 591
      ·rw [if_pos c16] at H
       have c16b0 : decide (a0 ≤ 591) = true := decide_eq_true c16
       clear c16
       by_cases c17 : a0 = 215
       ·rw [if_pos c17] at H
        have c17b0 : (a0 == 215) = true := beq_iff_eq.mpr c17
        have c17b1 : (a0 != 215) = false := bne_eq_false_iff_eq.mpr c17
        clear c17
        by_cases c18 : a0 ≥ 880
        ·rw [if_pos c18] at H
         have c18b0 : decide (880 ≤ a0) = true := decide_eq_true c18
         clear c18
         have H' := zu.mk H
         clear H
         go_wp2
         go_meet
         case rel => exact ⟨_, (decide (a0 ≤ 1279)), (by first | rfl | (simp; done) | (simp [*]; done)), H', ⟨by first | omega | exact um _⟩, y1⟩
        ·rw [if_neg c18] at H
         have c18b0 : decide (880 ≤ a0) = false := decide_eq_false c18
         clear c18
         have H' := zu.mk H
         clear H
         go_wp2
         go_meet
         case rel => exact ⟨_, (false), (by first | rfl | (simp; done) | (simp [*]; done)), H', ⟨by first | omega | exact um _⟩, y1⟩
       ·rw [if_neg c17] at H
        have c17b0 : (a0 == 215) = false := beq_eq_false_iff_ne.mpr c17
        have c17b1 : (a0 != 215) = true := bne_iff_ne.mpr c17
        by_cases c19 : a0 = 247
        ·rw [if_pos c19] at H
         have c19b0 : (a0 == 247) = true := beq_iff_eq.mpr c19
         have c19b1 : (a0 != 247) = false := bne_eq_false_iff_eq.mpr c19
         clear c19
         by_cases c20 : a0 ≥ 880
         ·rw [if_pos c20] at H
          have c20b0 : decide (880 ≤ a0) = true := decide_eq_true c20
          clear c20
          have H' := zu.mk H
          clear H
          go_wp2
          go_meet
          case rel => exact ⟨_, (decide (a0 ≤ 1279)), (by first | rfl | (simp; done) | (simp [*]; done)), H', ⟨by first | omega | exact um _⟩, y1⟩
         ·rw [if_neg c20] at H
          have c20b0 : decide (880 ≤ a0) = false := decide_eq_false c20
          clear c20
          have H' := zu.mk H
          clear H
          go_wp2
          go_meet
          case rel => exact ⟨_, (false), (by first | rfl | (simp; done) | (simp [*]; done)), H', ⟨by first | omega | exact um _⟩, y1⟩
        ·rw [if_neg c19] at H
         have c19b0 : (a0 == 247) = false := beq_eq_false_iff_ne.mpr c19
         have c19b1 : (a0 != 247) = true := bne_iff_ne.mpr c19
         have H' := zu.mk H
         clear H
         go_wp2
         go_meet
         case rel => exact ⟨_, (true), (by first | rfl | (simp; done) | (simp [*]; done)), H', ⟨by first | omega | exact um _⟩, y1⟩
      ·rw [if_neg c16] at H
       have c16b0 : decide (a0 ≤ 591) = false := decide_eq_false c16
       clear c16
       by_cases c21 : a0 ≥ 880
       ·rw [if_pos c21] at H
        have c21b0 : decide (880 ≤ a0) = true := decide_eq_true c21
        clear c21
        have H' := zu.mk H
        clear H
        go_wp2
        go_meet
        case rel => exact ⟨_, (decide (a0 ≤ 1279)), (by first | rfl | (simp; done) | (simp [*]; done)), H', ⟨by first | omega | exact um _⟩, y1⟩
       ·rw [if_neg c21] at H
        have c21b0 : decide (880 ≤ a0) = false := decide_eq_false c21
        clear c21
        have H' := zu.mk H
        clear H
        go_wp2
        go_meet
        case rel => exact ⟨_, (false), (by first | rfl | (simp; done) | (simp [*]; done)), H', ⟨by first | omega | exact um _⟩, y1⟩
     ·rw [if_neg c15] at H
      have c15b0 : decide (192 ≤ a0) = false := decide_eq_false c15
      clear c15
      by_cases c22 : a0 ≥ 880
      ·rw [if_pos c22] at H
       have c22b0 : decide (880 ≤ a0) = true := decide_eq_true c22
       clear c22
       have H' := zu.mk H
       clear H
       go_wp2
       go_meet
       case rel => exact ⟨_, (decide (a0 ≤ 1279)), (by first | rfl | (simp; done) | (simp [*]; done)), H', ⟨by first | omega | exact um _⟩, y1⟩
      ·rw [if_neg c22] at H
       have c22b0 : decide (880 ≤ a0) = false := decide_eq_false c22
       clear c22
       have H' := zu.mk H
       clear H
       go_wp2
       go_meet
       case rel => exact ⟨_, (false), (by first | rfl | (simp; done) | (simp [*]; done)), H', ⟨by first | omega | exact um _⟩, y1⟩
  ·rw [if_neg c3] at H
   have c3b0 : decide (65 ≤ a0) = false := decide_eq_false c3
   clear c3
   (first | rw [c3b0] | (simp only [zk, zl]; rw [c3b0]) | skip)
   by_cases c23 : a0 ≥ 97
   ·rw [if_pos c23] at H
    have c23b0 : decide (97 ≤ a0) = true := decide_eq_true c23
    clear c23
    by_cases c24 : a0 ≤ 122
    ·rw [if_pos c24] at H
     have c24b0 : decide (a0 ≤ 122) = true := decide_eq_true c24
     clear c24
     have H' := zu.mk H
     clear H
     go_wp2
     go_meet
     case rel => exact ⟨_, (true), (by first | rfl | (simp; done) | (simp [*]; done)), H', ⟨by first | omega | exact um _⟩, y1⟩
    ·rw [if_neg c24] at H
     have c24b0 : decide (a0 ≤ 122) = false := decide_eq_false c24
     clear c24
     by_cases c25 : a0 ≥ 192
     ·rw [if_pos c25] at H
      have c25b0 : decide (192 ≤ a0) = true := decide_eq_true c25
      clear c25
      by_cases c26 : a0 ≤ 591
      ·rw [if_pos c26] at H
       have c26b0 : decide (a0 ≤ 591) = true := decide_eq_true c26
       clear c26
       by_cases c27 : a0 = 215
       ·rw [if_pos c27] at H
        have c27b0 : (a0 == 215) = true := beq_iff_eq.mpr c27
        have c27b1 : (a0 != 215) = false := bne_eq_false_iff_eq.mpr c27
        clear c27
        by_cases c28 : a0 ≥ 880
        ·rw [if_pos c28] at H
         have c28b0 : decide (880 ≤ a0) = true := decide_eq_true c28
         clear c28
         have H' := zu.mk H
         clear H
         go_wp2
         go_meet
         case rel => exact ⟨_, (decide (a0 ≤ 1279)), (by first | rfl | (simp; done) | (simp [*]; done)), H', ⟨by first | omega | exact um _⟩, y1⟩
        ·rw [if_neg c28] at H
         have c28b0 : decide (880 ≤ a0) = false := decide_eq_false c28
         clear c28
         have H' := zu.mk H
         clear H
         go_wp2
         go_meet
         case rel => exact ⟨_, (false), (by first | rfl | (simp; done) | (simp [*]; done)), H', ⟨by first | omega | exact um _⟩, y1⟩
       ·rw [if_neg c27] at H
        have c27b0 : (a0 == 215) = false := beq_eq_false_iff_ne.mpr c27
        have c27b1 : (a0 != 215) = true := bne_iff_ne.mpr c27
        by_cases c29 : a0 = 247
        ·rw [if_pos c29] at H
         have c29b0 : (a0 == 247) = true := beq_iff_eq.mpr c29
         have c29b1 : (a0 != 247) = false := bne_eq_false_iff_eq.mpr c29
         clear c29
         by_cases c30 : a0 ≥ 880
         ·rw [if_pos c30] at H
          have c30b0 : decide (880 ≤ a0) = true := decide_eq_true c30
          clear c30
          have H' := zu.mk H
          clear H
          go_wp2
          go_meet
          case rel => exact ⟨_, (decide (a0 ≤ 1279)), (by first | rfl | (simp; done) | (simp [*]; done)), H', ⟨by first | omega | exact um _⟩, y1⟩
         ·rw [if_neg c30] at H
          have c30b0 : decide (880 ≤ a0) = false := decide_eq_false c30
          clear c30
          have H' := zu.mk H
          clear H
          go_wp2
          go_meet
          case rel => exact ⟨_, (false), (by first | rfl | (simp; done) | (simp [*]; done)), H', ⟨by first | omega | exact um _⟩, y1⟩
        ·rw [if_neg c29] at H
         have c29b0 : (a0 == 247) = false := beq_eq_false_iff_ne.mpr c29
         have c29b1 : (a0 != 247) = true := bne_iff_ne.mpr c29
         have H' := zu.mk H
         clear H
         go_wp2
         go_meet
         case rel => exact ⟨_, (true), (by first | rfl | (simp; done) | (simp [*]; done)), H', ⟨by first | omega | exact um _⟩, y1⟩
      ·rw [if_neg c26] at H
       have c26b0 : decide (a0 ≤ 591) = false := decide_eq_false c26
       clear c26
       by_cases c31 : a0 ≥ 880
       ·rw [if_pos c31] at H
        have c31b0 : decide (880 ≤ a0) = true := decide_eq_true c31
        clear c31
        have H' := zu.mk H
        clear H
        go_wp2
        go_meet
        case rel => exact ⟨_, (decide (a0 ≤ 1279)), (by first | rfl | (simp; done) | (simp [*]; done)), H', ⟨by first | omega | exact um _⟩, y1⟩
       ·rw [if_neg c31] at H
        have c31b0 : decide (880 ≤ a0) = false := decide_eq_false c31
        clear c31
        have H' := zu.mk H
        clear H
        go_wp2
        go_meet
        case rel => exact ⟨_, (false), (by first | rfl | (simp; done) | (simp [*]; done)), H', ⟨by first | omega | exact um _⟩, y1⟩
     ·rw [if_neg c25] at H
      have c25b0 : decide (192 ≤ a0) = false := decide_eq_false c25
      clear c25
      by_cases c32 : a0 ≥ 880
      ·rw [if_pos c32] at H
       have c32b0 : decide (880 ≤ a0) = true := decide_eq_true c32
       clear c32
       have H' := zu.mk H
       clear H
       go_wp2
       go_meet
       case rel => exact ⟨_, (decide (a0 ≤ 1279)), (by first | rfl | (simp; done) | (simp [*]; done)), H', ⟨by first | omega | exact um _⟩, y1⟩
      ·rw [if_neg c32] at H
       have c32b0 : decide (880 ≤ a0) = false := decide_eq_false c32
       clear c32
       have H' := zu.mk H
       clear H
       go_wp2
       go_meet
       case rel => exact ⟨_, (false), (by first | rfl | (simp; done) | (simp [*]; done)), H', ⟨by first | omega | exact um _⟩, y1⟩
   ·rw [if_neg c23] at H
    have c23b0 : decide (97 ≤ a0) = false := decide_eq_false c23
    clear c23
    by_cases c33 : a0 ≥ 192
    ·rw [if_pos c33] at H
     have c33b0 : decide (192 ≤ a0) = true := decide_eq_true c33
     clear c33
     by_cases c34 : a0 ≤ 591
     ·rw [if_pos c34] at H
      have c34b0 : decide (a0 ≤ 591) = true := decide_eq_true c34
      clear c34
      by_cases c35 : a0 = 215
      ·rw [if_pos c35] at H
       have c35b0 : (a0 == 215) = true := beq_iff_eq.mpr c35
       have c35b1 : (a0 != 215) = false := bne_eq_false_iff_eq.mpr c35
       clear c35
       by_cases c36 : a0 ≥ 880
       ·rw [if_pos c36] at H
        have c36b0 : decide (880 ≤ a0) = true := decide_eq_true c36
        clear c36
        have H' := zu.mk H
        clear H
        go_wp2
        go_meet
        case rel => exact ⟨_, (decide (a0 ≤ 1279)), (by first | rfl | (simp; done) | (simp [*]; done)), H', ⟨by first | omega | exact um _⟩, y1⟩
       ·rw [if_neg c36] at H
        have c36b0 : decide (880 ≤ a0) = false := decide_eq_false c36
        clear c36
        have H' := zu.mk H
        clear H
        go_wp2
        go_meet
        case rel => exact ⟨_, (false), (by first | rfl | (simp; done) | (simp [*]; done)), H', ⟨by first | omega | exact um _⟩, y1⟩
      ·rw [if_neg c35] at H
       have c35b0 : (a0 == 215) = false := beq_eq_false_iff_ne.mpr c35
       have c35b1 : (a0 != 215) = true := bne_iff_ne.mpr c35
       by_cases c37 : a0 = 247
       ·rw [if_pos c37] at H
        have c37b0 : (a0 == 247) = true := beq_iff_eq.mpr c37
        have c37b1 : (a0 != 247) = false := bne_eq_false_iff_eq.mpr c37
        clear c37
        by_cases c38 : a0 ≥ 880
        ·rw [if_pos c38] at H
         have c38b0 : decide (880 ≤ a0) = true := decide_eq_true c38
         clear c38
         have H' := zu.mk H
         clear H
         go_wp2
         go_meet
         case rel => exact ⟨_, (decide (a0 ≤ 1279)), (by first | rfl | (simp; done) | (simp [*]; done)), H', ⟨by first | omega | exact um _⟩, y1⟩
        ·rw [if_neg c38] at H
         have c38b0 : decide (880 ≤ a0) = false := decide_eq_false c38
         clear c38
         have H' := zu.mk H
         clear H
         go_wp2
         go_meet
         case rel => exact ⟨_, (false), (by first | rfl | (simp; done) | (simp [*]; done)), H', ⟨by first | omega | exact um _⟩, y1⟩
       ·rw [if_neg c37] at H
        have c37b0 : (a0 == 247) = false := beq_eq_false_iff_ne.mpr c37
        have c37b1 : (a0 != 247) = true := bne_iff_ne.mpr c37
        have H' := zu.mk H
        clear H
        go_wp2
        go_meet
        case rel => exact ⟨_, (true), (by first | rfl | (simp; done) | (simp [*]; done)), H', ⟨by first | omega | exact um _⟩, y1⟩
     ·rw [if_neg c34] at H
      have c34b0 : decide (a0 ≤ 591) = false := decide_eq_false c34
      clear c34
      by_cases c39 : a0 ≥ 880
      ·rw [if_pos c39] at H
       have c39b0 : decide (880 ≤ a0) = true := decide_eq_true c39
       clear c39
       have H' := zu.mk H
       clear H
       go_wp2
       go_meet
       case rel => exact ⟨_, (decide (a0 ≤ 1279)), (by first | rfl | (simp; done) | (simp [*]; done)), H', ⟨by first | omega | exact um _⟩, y1⟩
      ·rw [if_neg c39] at H
       have c39b0 : decide (880 ≤ a0) = false := decide_eq_false c39
       clear c39
       have H' := zu.mk H
       clear H
       go_wp2
       go_meet
       case rel => exact ⟨_, (false), (by first | rfl | (simp; done) | (simp [*]; done)), H', ⟨by first | omega | exact um _⟩, y1⟩
    ·rw [if_neg c33] at H
     have c33b0 : decide (192 ≤ a0) = false := decide_eq_false c33
     clear c33
     by_cases c40 : a0 ≥ 880
     ·rw [if_pos c40] at H
      have c40b0 : decide (880 ≤ a0) = true := decide_eq_true c40
      clear c40
      have H' := zu.mk H
      clear H
      go_wp2
      go_meet
      case rel => exact ⟨_, (decide (a0 ≤ 1279)), (by first | rfl | (simp; done) | (simp [*]; done)), H', ⟨by first | omega | exact um _⟩, y1⟩
     ·rw [if_neg c40] at H
      have c40b0 : decide (880 ≤ a0) = false := decide_eq_false c40
      clear c40
      have H' := zu.mk H
      clear H
      go_wp2
      go_meet
      case rel => exact ⟨_, (false), (by first | rfl | (simp; done) | (simp [*]; done)), H', ⟨by first | omega | exact um _⟩, y1⟩
 case rest =>
  clear HC2
  try clear c1
  try clear c2
  try clear p2
  try clear c3
  try clear c3b0
  try clear c4
  try clear c4b0
  try clear c5
  try clear c5b0
  try clear c6
  try clear c6b0
  try clear c7
  try clear c7b0
  try clear c8
  try clear c8b0
  try clear c9
  try clear c9b0
  try clear c9b1
  try clear c10
  try clear c10b0
  try clear c11
  try clear c11b0
  try clear c11b1
  try clear c12
  try clear c12b0
  try clear c13
  try clear c13b0
  try clear c14
  try clear c14b0
  try clear c15
  try clear c15b0
  try clear c16
  try clear c16b0
  try clear c17
  try clear c17b0
  try clear c17b1
  try clear c18
  try clear c18b0
  try clear c19
  try clear c19b0
  try clear c19b1
  try clear c20
  try clear c20b0
  try clear c21
  try clear c21b0
  try clear c22
  try clear c22b0
  try clear c23
  try clear c23b0
  try clear c24
  try clear c24b0
  try clear c25
  try clear c25b0
  try clear c26
  try clear c26b0
  try clear c27
  try clear c27b0
  try clear c27b1
  try clear c28
  try clear c28b0
  try clear c29
  try clear c29b0
  try clear c29b1
  try clear c30
  try clear c30b0
  try clear c31
  try clear c31b0
  try clear c32
  try clear c32b0
  try clear c33
  try clear c33b0
  try clear c34
  try clear c34b0
  try clear c35
  try clear c35b0
  try clear c35b1
  try clear c36
  try clear c36b0
  try clear c37
  try clear c37b0
  try clear c37b1
  try clear c38
  try clear c38b0
  try clear c39
  try clear c39b0
  try clear c40
  try clear c40b0
  obtain ⟨kq, x3_1, rfl, HA, HJ1, ⟨mc1, rfl⟩⟩ := hcut
  cases kq with
  | zero => exact absurd HA.out (by simp [spec_Class.j0])
  | succ kj1 =>
   have H := HA.out
   clear HA
   simp only [spec_Class.j0] at H
   by_cases c41 : x3_1 = true
   ·subst c41
    have H1 : (some 1) = some r := by rw [if_pos rfl] at H; exact H
    clear H
    have H := H1
    clear H1
    obtain rfl := Option.some.inj H
    go_wp2
    go_ret
    exact ⟨by first | rfl | (simp; done) | (simp [*]; done), y1⟩
   ·replace c41 := Bool.eq_false_iff.mpr c41
    subst c41
    have H1 : (if a0 ≥ 48 then (spec_Class.j1 kj1 a0 (decide (a0 ≤ 57))) else (spec_Class.j1 kj1 a0 false)) = some r := by rw [if_neg (show ¬ (false = true) by decide)] at H; exact H
    clear H
    have H := H1
    clear H1
    have HC42 := zu.mk H
    clear H
    go_upto_region 3 with (fail)
    go_cut [42] (fun v42 wc => ∃ (kq : Nat) (x42_41 : Bool), v42 = .bool x42_41 ∧ zu (spec_Class.j1 kq a0 x42_41 = some r) ∧ zu (kq ≤ kj1) ∧ Drawn0 w wc)
    case first =>
     have H := HC42.out
     clear HC42
     by_cases c43 : a0 ≥ 48
     ·rw [if_pos c43] at H
      have c43b0 : decide (48 ≤ a0) = true := decide_eq_true c43
      clear c43
      (first | rw [c43b0] | (simp only [zk, zl]; rw [c43b0]) | skip)
      have H' := zu.mk H
      clear H
      go_wp2
      go_meet
      case rel => exact ⟨_, (decide (a0 ≤ 57)), (by first | rfl | (simp; done) | (simp [*]; done)), H', ⟨by have := HJ1.out; first | omega | exact um _⟩, y1⟩
     ·rw [if_neg c43] at H
      have c43b0 : decide (48 ≤ a0) = false := decide_eq_false c43
      clear c43
      (first | rw [c43b0] | (simp only [zk, zl]; rw [c43b0]) | skip)
      have H' := zu.mk H
      clear H
      go_wp2
      go_meet
      case rel => exact ⟨_, (false), (by first | rfl | (simp; done) | (simp [*]; done)), H', ⟨by have := HJ1.out; first | omega | exact um _⟩, y1⟩
    case rest =>
     clear HC42
     try clear c1
     try clear c2
     try clear p2
     try clear c3
     try clear c3b0
     try clear c4
     try clear c4b0
     try clear c5
     try clear c5b0
     try clear c6
     try clear c6b0
     try clear c7
     try clear c7b0
     try clear c8
     try clear c8b0
     try clear c9
     try clear c9b0
     try clear c9b1
     try clear c10
     try clear c10b0
     try clear c11
     try clear c11b0
     try clear c11b1
     try clear c12
     try clear c12b0
     try clear c13
     try clear c13b0
     try clear c14
     try clear c14b0
     try clear c15
     try clear c15b0
     try clear c16
     try clear c16b0
     try clear c17
     try clear c17b0
     try clear c17b1
     try clear c18
     try clear c18b0
     try clear c19
     try clear c19b0
     try clear c19b1
     try clear c20
     try clear c20b0
     try clear c21
     try clear c21b0
     try clear c22
     try clear c22b0
     try clear c23
     try clear c23b0
     try clear c24
     try clear c24b0
     try clear c25
     try clear c25b0
     try clear c26
     try clear c26b0
     try clear c27
     try clear c27b0
     try clear c27b1
     try clear c28
     try clear c28b0
     try clear c29
     try clear c29b0
     try clear c29b1
     try clear c30
     try clear c30b0
     try clear c31
     try clear c31b0
     try clear c32
     try clear c32b0
     try clear c33
     try clear c33b0
     try clear c34
     try clear c34b0
     try clear c35
     try clear c35b0
     try clear c35b1
     try clear c36
     try clear c36b0
     try clear c37
     try clear c37b0
     try clear c37b1
     try clear c38
     try clear c38b0
     try clear c39
     try clear c39b0
     try clear c40
     try clear c40b0
     try clear c41
     try clear c43
     try clear c43b0
     try clear p2
     obtain ⟨kq, x42_41, rfl, HA, HJ41, ⟨mc41, rfl⟩⟩ := hcut
     cases kq with
     | zero => exact absurd HA.out (by simp [spec_Class.j1])
     | succ kj41 =>
      have H := HA.out
      clear HA
      simp only [spec_Class.j1] at H
      by_cases c44 : x42_41 = true
      ·subst c44
       have H1 : (some 2) = some r := by rw [if_pos rfl] at H; exact H
       clear H
       have H := H1
       clear H1
       obtain rfl := Option.some.inj H
       go_wp2
       go_ret
       exact ⟨by first | rfl | (simp; done) | (simp [*]; done), y1⟩
      ·replace c44 := Bool.eq_false_iff.mpr c44
       subst c44
       have H1 : (if a0 = 39 then (spec_Class.j2 kj41 a0 true) else (spec_Class.j2 kj41 a0 (a0 == 95))) = some r := by rw [if_neg (show ¬ (false = true) by decide)] at H; exact H
       clear H
       have H := H1
       clear H1
       have HC45 := zu.mk H
       clear H
       go_upto_region 5 with (fail)
       go_cut [49] (fun v49 wc => ∃ (kq : Nat) (x49_44 : Bool), v49 = .bool x49_44 ∧ zu (spec_Class.j2 kq a0 x49_44 = some r) ∧ zu (kq ≤ kj41) ∧ Drawn0 w wc)
       case first =>
        have H := HC45.out
        clear HC45
        by_cases c46 : a0 = 39
        ·rw [if_pos c46] at H
         have c46b0 : (a0 == 39) = true := beq_iff_eq.mpr c46
         have c46b1 : (a0 != 39) = false := bne_eq_false_iff_eq.mpr c46
         clear c46
         (first | rw [c46b0] | (simp only [zk, zl]; rw [c46b0]) | skip)
         have H' := zu.mk H
         clear H
         go_wp2
         go_meet
         case rel => exact ⟨_, (true), (by first | rfl | (simp; done) | (simp [*]; done)), H', ⟨by have := HJ1.out; have := HJ41.out; first | omega | exact um _⟩, y1⟩
        ·rw [if_neg c46] at H
         have c46b0 : (a0 == 39) = false := beq_eq_false_iff_ne.mpr c46
         have c46b1 : (a0 != 39) = true := bne_iff_ne.mpr c46
         (first | rw [c46b0] | (simp only [zk, zl]; rw [c46b0]) | skip)
         have H' := zu.mk H
         clear H
         go_wp2
         go_meet
         case rel => exact ⟨_, ((a0 == 95)), (by first | rfl | (simp; done) | (simp [*]; done)), H', ⟨by have := HJ1.out; have := HJ41.out; first | omega | exact um _⟩, y1⟩
       case rest =>
        clear HC45
        try clear c1
        try clear c2
        try clear p2
        try clear c3
        try clear c3b0
        try clear c4
        try clear c4b0
        try clear c5
        try clear c5b0
        try clear c6
        try clear c6b0
        try clear c7
        try clear c7b0
        try clear c8
        try clear c8b0
        try clear c9
        try clear c9b0
        try clear c9b1
        try clear c10
        try clear c10b0
        try clear c11
        try clear c11b0
        try clear c11b1
        try clear c12
        try clear c12b0
        try clear c13
        try clear c13b0
        try clear c14
        try clear c14b0
        try clear c15
        try clear c15b0
        try clear c16
        try clear c16b0
        try clear c17
        try clear c17b0
        try clear c17b1
        try clear c18
        try clear c18b0
        try clear c19
        try clear c19b0
        try clear c19b1
        try clear c20
        try clear c20b0
        try clear c21
        try clear c21b0
        try clear c22
        try clear c22b0
        try clear c23
        try clear c23b0
        try clear c24
        try clear c24b0
        try clear c25
        try clear c25b0
        try clear c26
        try clear c26b0
        try clear c27
        try clear c27b0
        try clear c27b1
        try clear c28
        try clear c28b0
        try clear c29
        try clear c29b0
        try clear c29b1
        try clear c30
        try clear c30b0
        try clear c31
        try clear c31b0
        try clear c32
        try clear c32b0
        try clear c33
        try clear c33b0
        try clear c34
        try clear c34b0
        try clear c35
        try clear c35b0
        try clear c35b1
        try clear c36
        try clear c36b0
        try clear c37
        try clear c37b0
        try clear c37b1
        try clear c38
        try clear c38b0
        try clear c39
        try clear c39b0
        try clear c40
        try clear c40b0
        try clear c41
        try clear c43
        try clear c43b0
        try clear c44
        try clear c46
        try clear c46b0
        try clear c46b1
        try clear p2
        obtain ⟨kq, x49_44, rfl, HA, HJ44, ⟨mc44, rfl⟩⟩ := hcut
        cases kq with
        | zero => exact absurd HA.out (by simp [spec_Class.j2])
        | succ kj44 =>
         have H := HA.out
         clear HA
         simp only [spec_Class.j2] at H
         by_cases c47 : x49_44 = true
         ·subst c47
          have H1 : (some 3) = some r := by rw [if_pos rfl] at H; exact H
          clear H
          have H := H1
          clear H1
          obtain rfl := Option.some.inj H
          go_wp2
          go_ret
          exact ⟨by first | rfl | (simp; done) | (simp [*]; done), y1⟩
         ·replace c47 := Bool.eq_false_iff.mpr c47
          subst c47
          have H1 : (if a0 ≥ 12352 then (if a0 ≤ 12543 then (some 4) else (if a0 ≥ 19968 then (if a0 ≤ 40959 then (some 4) else (some 0)) else (some 0))) else (if a0 ≥ 19968 then (if a0 ≤ 40959 then (some 4) else (some 0)) else (some 0))) = some r := by rw [if_neg (show ¬ (false = true) by decide)] at H; exact H
          clear H
          have H := H1
          clear H1
          by_cases c48 : a0 ≥ 12352
          ·rw [if_pos c48] at H
           have c48b0 : decide (12352 ≤ a0) = true := decide_eq_true c48
           clear c48
           by_cases c49 : a0 ≤ 12543
           ·rw [if_pos c49] at H
            have c49b0 : decide (a0 ≤ 12543) = true := decide_eq_true c49
            clear c49
            obtain rfl := Option.some.inj H
            go_wp2
            go_ret
            exact ⟨by first | rfl | (simp; done) | (simp [*]; done), y1⟩
           ·rw [if_neg c49] at H
            have c49b0 : decide (a0 ≤ 12543) = false := decide_eq_false c49
            clear c49
            by_cases c50 : a0 ≥ 19968
            ·rw [if_pos c50] at H
             have c50b0 : decide (19968 ≤ a0) = true := decide_eq_true c50
             clear c50
             by_cases c51 : a0 ≤ 40959
             ·rw [if_pos c51] at H
              have c51b0 : decide (a0 ≤ 40959) = true := decide_eq_true c51
              clear c51
              obtain rfl := Option.some.inj H
              go_wp2
              go_ret
              exact ⟨by first | rfl | (simp; done) | (simp [*]; done), y1⟩
             ·rw [if_neg c51] at H
              have c51b0 : decide (a0 ≤ 40959) = false := decide_eq_false c51
              clear c51
              obtain rfl := Option.some.inj H
              go_wp2
              go_ret
              exact ⟨by first | rfl | (simp; done) | (simp [*]; done), y1⟩
            ·rw [if_neg c50] at H
             have c50b0 : decide (19968 ≤ a0) = false := decide_eq_false c50
             clear c50
             obtain rfl := Option.some.inj H
             go_wp2
             go_ret
             exact ⟨by first | rfl | (simp; done) | (simp [*]; done), y1⟩
          ·rw [if_neg c48] at H
           have c48b0 : decide (12352 ≤ a0) = false := decide_eq_false c48
           clear c48
           by_cases c52 : a0 ≥ 19968
           ·rw [if_pos c52] at H
            have c52b0 : decide (19968 ≤ a0) = true := decide_eq_true c52
            clear c52
            by_cases c53 : a0 ≤ 40959
            ·rw [if_pos c53] at H
             have c53b0 : decide (a0 ≤ 40959) = true := decide_eq_true c53
             clear c53
             obtain rfl := Option.some.inj H
             go_wp2
             go_ret
             exact ⟨by first | rfl | (simp; done) | (simp [*]; done), y1⟩
            ·rw [if_neg c53] at H
             have c53b0 : decide (a0 ≤ 40959) = false := decide_eq_false c53
             clear c53
             obtain rfl := Option.some.inj H
             go_wp2
             go_ret
             exact ⟨by first | rfl | (simp; done) | (simp [*]; done), y1⟩
           ·rw [if_neg c52] at H
            have c52b0 : decide (19968 ≤ a0) = false := decide_eq_false c52
            clear c52
            obtain rfl := Option.some.inj H
            go_wp2
            go_ret
            exact ⟨by first | rfl | (simp; done) | (simp [*]; done), y1⟩
def spec_l01Inner.f (k : Nat) (a0 : Int) : Option (Bool) := (spec_Class.f k a0).bind fun t230 => (if t230 = 1 then (some true) else (some (t230 == 2)))
set_option maxHeartbeats 8000000 in
set_option maxRecDepth 100000 in
theorem spec_l01Inner.calls (k : Nat) (a0 : Int) (r : Bool) (w : World) (h : spec_l01Inner.f k a0 = some r) :
  Calls Tryd.prog 44 #[.int .i64 a0] w fun e w' => e = .returned (.bool r) ∧ Drawn0 w w' := by
 have H : ((spec_Class.f k a0).bind fun t230 => (if t230 = 1 then (some true) else (some (t230 == 2)))) = some r := h
 clear h
 replace H := ue.mp H
 obtain ⟨t230, A20, H⟩ := H
 replace H : (if t230 = 1 then (some true) else (some (t230 == 2))) = some r := H
 have A2 := zu.mk A20
 clear A20
 by_cases c3 : t230 = 1
 ·rw [if_pos c3] at H
  have c3b0 : (t230 == 1) = true := beq_iff_eq.mpr c3
  have c3b1 : (t230 != 1) = false := bne_eq_false_iff_eq.mpr c3
  clear c3
  obtain rfl := Option.some.inj H
  go_enter Tryd.func44, Tryd.ntmps44
  go_wp2_with (first | ((with_reducible refine zm (f := 43) rfl ?_); refine goesL_ (some 5) rfl rfl Tryd.func43 (by kernel_rfl) rfl #[.int .i64 a0] rfl (by (try simp only [uh, ui, uj]); first | done | rfl | (simp only [uf, ug]; rfl)) ?_; (with_reducible refine (spec_Class.calls k a0 t230 _ A2.out).mono ?_); rintro e w' ⟨rfl, ⟨nd, rfl⟩⟩; refine ⟨_, rfl, ?_⟩))
  go_ret
  exact ⟨by first | rfl | (simp; done) | (simp [*]; done), y1⟩
 ·rw [if_neg c3] at H
  have c3b0 : (t230 == 1) = false := beq_eq_false_iff_ne.mpr c3
  have c3b1 : (t230 != 1) = true := bne_iff_ne.mpr c3
  obtain rfl := Option.some.inj H
  go_enter Tryd.func44, Tryd.ntmps44
  go_wp2_with (first | ((with_reducible refine zm (f := 43) rfl ?_); refine goesL_ (some 5) rfl rfl Tryd.func43 (by kernel_rfl) rfl #[.int .i64 a0] rfl (by (try simp only [uh, ui, uj]); first | done | rfl | (simp only [uf, ug]; rfl)) ?_; (with_reducible refine (spec_Class.calls k a0 t230 _ A2.out).mono ?_); rintro e w' ⟨rfl, ⟨nd, rfl⟩⟩; refine ⟨_, rfl, ?_⟩))
  go_ret
  exact ⟨by first | rfl | (simp; done) | (simp [*]; done), y1⟩
mutual
def spec_Break.l0 : Nat → List Int → List (S43) → Int → Int → Option ((List (S43)) × Int)
 | 0, _, _, _, _ => none
 | k + 1, x4, x6, x7, x8 => if x8 < (x4.length : Int) then (if 0 ≤ x8 then ((spec_Class.f k (rd x4 x8)).bind fun t242 => (if t242 = 4 then (spec_Break.j1 k x4 x6 x7 x8 (wrap64 (x8 + 1))) else (spec_Break.j1 k x4 x6 x7 x8 x8))) else (none)) else (some (x6, 0))
def spec_Break.j1 : Nat → List Int → List (S43) → Int → Int → Int → Option ((List (S43)) × Int)
 | 0, _, _, _, _, _ => none
 | k + 1, x4, x6, x7, x8, x9 => spec_Break.l1 k x4 x6 x7 x8 x9
def spec_Break.j3 : Nat → List Int → List (S43) → Int → Int → Int → Option ((List (S43)) × Int)
 | 0, _, _, _, _, _ => none
 | k + 1, x4, x6, x7, x8, x9 => if x9 = x8 then (if 0 ≤ x8 then (if x8 < (x4.length : Int) then ((spec_l01Bytes.f (rd x4 x8)).bind fun t254 => (spec_Break.l0 k x4 x6 (wrap64 (x7 + (t254.length : Int))) (wrap64 (x8 + 1)))) else (none)) else (none)) else (if 0 ≤ x8 then (if x8 ≤ x9 then (if x9 ≤ (x4.length : Int) then ((spec_l01Encode.f k ((x4.take (x9 : Int).toNat).drop (x8 : Int).toNat)).bind fun t261 => (if x6.length < 3518437208883 then ((some (x6 ++ [(⟨t261, (x6.length : Int), x7, wrap64 (x7 + (t261.size : Int))⟩ : S43)] : List (S43))).bind fun y262 => (if (y262.length : Int) > 8192 then (some ((([] : List (S43))), 11)) else (spec_Break.l0 k x4 y262 (wrap64 (x7 + (t261.size : Int))) x9))) else (none))) else (none)) else (none)) else (none))
def spec_Break.l1 : Nat → List Int → List (S43) → Int → Int → Int → Option ((List (S43)) × Int)
 | 0, _, _, _, _, _ => none
 | k + 1, x4, x6, x7, x8, x9 => if x9 < (x4.length : Int) then (if x9 ≥ x8 then (if 0 ≤ x8 then (if x8 < (x4.length : Int) then ((spec_Class.f k (rd x4 x8)).bind fun t244 => (if t244 = 4 then (spec_Break.j3 k x4 x6 x7 x8 x9) else (if 0 ≤ x9 then ((spec_l01Inner.f k (rd x4 x9)).bind fun t246 => (if t246 = true then (spec_Break.l1 k x4 x6 x7 x8 (wrap64 (x9 + 1))) else (if x9 > x8 then ((spec_Class.f k (rd x4 x9)).bind fun t248 => (if t248 = 3 then (if 0 ≤ (wrap64 (x9 - 1)) then (if (wrap64 (x9 - 1)) < (x4.length : Int) then ((spec_l01Inner.f k (rd x4 (wrap64 (x9 - 1)))).bind fun t250 => (if t250 = true then (if (wrap64 (x9 + 1)) < (x4.length : Int) then (if 0 ≤ (wrap64 (x9 + 1)) then ((spec_l01Inner.f k (rd x4 (wrap64 (x9 + 1)))).bind fun t252 => (if t252 = true then (spec_Break.l1 k x4 x6 x7 x8 (wrap64 (x9 + 1))) else (spec_Break.j3 k x4 x6 x7 x8 x9))) else (none)) else (spec_Break.j3 k x4 x6 x7 x8 x9)) else (spec_Break.j3 k x4 x6 x7 x8 x9))) else (none)) else (none)) else (spec_Break.j3 k x4 x6 x7 x8 x9))) else (spec_Break.j3 k x4 x6 x7 x8 x9)))) else (none)))) else (none)) else (none)) else (spec_Break.j3 k x4 x6 x7 x8 x9)) else (spec_Break.j3 k x4 x6 x7 x8 x9)
end
def spec_Break.f (k : Nat) (a0 : ByteArray) : Option ((List (S43)) × Int) := (spec_Decode.f k a0).bind fun bt231 => (if bt231.2 = 0 then (spec_Break.l0 k bt231.1 (([] : List (S43))) 0 0) else (some ((([] : List (S43))), bt231.2)))
set_option maxHeartbeats 8000000 in
set_option maxRecDepth 100000 in
theorem spec_Break.calls (k : Nat) (a0 : ByteArray) (r1 : List (S43)) (r2 : Int) (w : World) (h : spec_Break.f k a0 = some (r1, r2)) :
  Calls Tryd.prog 14 #[.string a0] w fun e w' => ∃ v0_ : Value, e = .returned (.tuple #[v0_, .int .i64 r2]) ∧ Kd.R k43 43 w' w.heap.size (fun _ => True) v0_ r1 ∧ Below w.heap.size w w' := by
 have hu43 := Tryd.underlying43
 have HB := zu.mk (Below.refl w.heap.size w)
 have H : ((spec_Decode.f k a0).bind fun bt231 => (if bt231.2 = 0 then (spec_Break.l0 k bt231.1 (([] : List (S43))) 0 0) else (some ((([] : List (S43))), bt231.2)))) = some (r1, r2) := h
 clear h
 replace H := ue.mp H
 obtain ⟨⟨t231, t232⟩, A20, H⟩ := H
 replace H : (if t232 = 0 then (spec_Break.l0 k t231 (([] : List (S43))) 0 0) else (some ((([] : List (S43))), t232))) = some (r1, r2) := H
 have A2 := zu.mk A20
 clear A20
 by_cases c3 : t232 = 0
 ·rw [if_pos c3] at H
  have c3b0 : (t232 == 0) = true := beq_iff_eq.mpr c3
  have c3b1 : (t232 != 0) = false := bne_eq_false_iff_eq.mpr c3
  clear c3
  obtain ⟨y238, hy238⟩ : ∃ y_ : List (S43), y_ = (([] : List (S43))) := ⟨_, rfl⟩
  replace H : (spec_Break.l0 k t231 y238 0 0) = some (r1, r2) := by first | (rw [hy238]; with_reducible exact H) | (have H2_ := (uk _ _).symm.trans H; rw [hy238]; with_reducible exact H2_) | (have H2_ := (uk _ _).symm.trans H; with_reducible exact H2_) | with_reducible exact H | (rw [hy238]; exact H) | exact H
  have Ny238 := zu.mk hy238
  clear hy238
  have H' := zu.mk H
  clear H
  go_enter Tryd.func14, Tryd.ntmps14
  go_wp2_with (first | ((with_reducible refine zm (f := 21) rfl ?_); refine goesL_ (some 13) rfl rfl Tryd.func21 (by kernel_rfl) rfl #[.string a0] rfl (by (try simp only [uh, ui, uj]); first | done | rfl | (simp only [uf, ug]; rfl)) ?_; (with_reducible refine (spec_Decode.calls k a0 t231 t232 _ A2.out).mono ?_); rintro e w4 ⟨v233, rfl, ho0, hb⟩; refine ⟨_, rfl, ?_⟩; have n0_ := zu.mk (Kd.R_lower ho0 (zg y0)); have n1_ := zu.mk (ze y0 hb); clear HB; have HO234 := n0_; have HB := n1_; clear n0_ n1_; (try clear hb); (try clear hb2); (try clear hk); (try clear hi); (try clear ho0)) | ((with_reducible refine zn (N := 20) rfl ?_); (try (refine zq (by rfl) ?_; dsimp only)); refine Kd.R_lit k43 _ 43 ?hg (N := 20) ?hd (xs := ([] : List (S43))) (inner := []) (ok := fun _ => True) (okp := fun _ => True) ?hr ?hp (fun _ hk => hk) trivial (Below.refl _ _) (um _) (by simp) ?_; (case hd => rfl); (case hg => rfl); (case hr => first | (go_simp; done) | (go_simp; rfl)); (case hp => exact (Reps.none _ _)); intro v239 w5 ho6 hb hg_ hnew_; clear hg_ hnew_; (first | rw [← Ny238.out] at ho6 | (simp only [Int.reduceToNat] at ho6; rw [← Ny238.out] at ho6)); have n0_ := zu.mk (Kd.R_below yc hb); have n1_ := zu.mk (Kd.R_lower ho6 (zg y0)); have n2_ := zu.mk (ze y0 hb); clear HO234; clear HB; have HO234 := n0_; have HO240 := n1_; have HB := n2_; clear n0_ n1_ n2_; clear hb ho6))
  go_loopg [6, 7, 8] k (fun kq v6 v7 v8 w' => ∃ (x6_1 : List (S43)) (x7_1 : Int) (x8_1 : Int), v7 = .int .i64 x7_1 ∧ v8 = .int .i64 x8_1 ∧ zu (spec_Break.l0 kq t231 x6_1 x7_1 x8_1 = some (r1, r2)) ∧ zu (kq ≤ k) ∧ zu (Kd.R (Kd.int .i64) 3 w' w.heap.size (fun _ => True) v233 t231) ∧ zu (Kd.R k43 43 w' w.heap.size (fun _ => True) v6 x6_1) ∧ zu (Below w.heap.size w w'))
  case atStart => exact ⟨(y238), (0), (0), (by first | rfl | (simp; done) | (simp [*]; done)), (by first | rfl | (simp; done) | (simp [*]; done)), H', ⟨um _⟩, ⟨yc⟩, ⟨by (with_reducible repeat (first | apply Kd.R_alloc | apply Kd.R_drewN | apply Kd.R_drew)); exact HO240.out⟩, ⟨y0⟩⟩
  case round =>
   clear H'
   try clear c1
   try clear c2
   try clear p2
   try clear c3
   try clear c3b0
   try clear c3b1
   obtain ⟨x6_1, x7_1, x8_1, rfl, rfl, HA, HK1, HO_4, HO_6, HB⟩ := hrel
   cases gk with
   | zero => exact absurd HA.out (by simp [spec_Break.l0])
   | succ k1 =>
    have H := HA.out
    clear HA
    simp only [spec_Break.l0] at H
    by_cases c7 : x8_1 < (t231.length : Int)
    ·rw [if_pos c7] at H
     have c7b0 : decide (x8_1 < (t231.length : Int)) = true := decide_eq_true c7
     clear c7
     by_cases c8 : 0 ≤ x8_1
     ·rw [if_pos c8] at H
      have c8b0 : decide (0 ≤ x8_1) = true := decide_eq_true c8
      clear c8
      replace H := ue.mp H
      obtain ⟨t242, A90, H⟩ := H
      replace H : (if t242 = 4 then (spec_Break.j1 k1 t231 x6_1 x7_1 x8_1 (wrap64 (x8_1 + 1))) else (spec_Break.j1 k1 t231 x6_1 x7_1 x8_1 x8_1)) = some (r1, r2) := H
      have A9 := zu.mk A90
      clear A90
      have HC10 := zu.mk H
      clear H
      obtain ⟨Ao11, co11, eo11⟩ := Kd.R_slice HO_4.out
      subst eo11
      have p241 : 0 ≤ (x8_1 : Int) := of_decide_eq_true (by first | (with_reducible assumption) | assumption)
      have q241 : x8_1 < (t231.length : Int) := of_decide_eq_true (by first | (with_reducible assumption) | assumption)
      obtain ⟨ad241, e241, hx241_0⟩ := Kd.at_int (Kd.R_reads' HO_4.out).2.2 x8_1 p241 q241
      cases e241
      replace p241 := eq_true p241
      replace q241 := eq_true q241
      go_upto_if 31 with (first | ((with_reducible refine zm (f := 43) rfl ?_); refine goesL_ (some 30) rfl rfl Tryd.func43 (by kernel_rfl) rfl #[.int .i64 (rd t231 x8_1)] rfl (by (try simp only [uh, ui, uj]); first | done | rfl | (simp only [uf, ug]; rfl)) ?_; (with_reducible refine (spec_Class.calls k1 (rd t231 x8_1) t242 _ A9.out).mono ?_); rintro e w' ⟨rfl, ⟨nd, rfl⟩⟩; refine ⟨_, rfl, ?_⟩))
      (try simp only [Act.put, ub, uc, ud])
      go_cut [9] (fun v9 wc => ∃ (kq : Nat) (x9_9 : Int), v9 = .int .i64 x9_9 ∧ zu (spec_Break.j1 kq t231 x6_1 x7_1 x8_1 x9_9 = some (r1, r2)) ∧ zu (kq ≤ k1) ∧ zu (Kd.R (Kd.int .i64) 3 wc w.heap.size (fun _ => True) (.slice (some ad241) t231.length co11) t231) ∧ zu (Kd.R k43 43 wc w.heap.size (fun _ => True) u6 x6_1) ∧ zu (Below w.heap.size w wc))
      case first =>
       have H := HC10.out
       clear HC10
       by_cases c12 : t242 = 4
       ·rw [if_pos c12] at H
        have c12b0 : (t242 == 4) = true := beq_iff_eq.mpr c12
        have c12b1 : (t242 != 4) = false := bne_eq_false_iff_eq.mpr c12
        clear c12
        (first | rw [c12b0] | (simp only [zk, zl]; rw [c12b0]) | skip)
        have H' := zu.mk H
        clear H
        go_wp2
        go_meet
        case rel => exact ⟨_, (wrap64 (x8_1 + 1)), (by first | rfl | (simp; done) | (simp [*]; done)), H', ⟨by have := HK1.out; first | omega | exact um _⟩, ⟨y2⟩, ⟨y3⟩, ⟨y0⟩⟩
       ·rw [if_neg c12] at H
        have c12b0 : (t242 == 4) = false := beq_eq_false_iff_ne.mpr c12
        have c12b1 : (t242 != 4) = true := bne_iff_ne.mpr c12
        (first | rw [c12b0] | (simp only [zk, zl]; rw [c12b0]) | skip)
        have H' := zu.mk H
        clear H
        go_wp2
        go_meet
        case rel => exact ⟨_, (x8_1), (by first | rfl | (simp; done) | (simp [*]; done)), H', ⟨by have := HK1.out; first | omega | exact um _⟩, ⟨y2⟩, ⟨y3⟩, ⟨y0⟩⟩
      case rest =>
       clear HC10
       try clear c1
       try clear c2
       try clear p2
       try clear q2
       try clear hx2
       try clear c3
       try clear c3b0
       try clear c3b1
       try clear c4
       try clear p6
       try clear c7
       try clear c7b0
       try clear c8
       try clear c8b0
       try clear c12
       try clear c12b0
       try clear c12b1
       try clear hx241_0
       try clear p2
       try clear p241
       try clear q241
       obtain ⟨kq, x9_9, rfl, HA, HJ9, HO_4, HO_6, HB⟩ := hcut
       cases kq with
       | zero => exact absurd HA.out (by simp [spec_Break.j1])
       | succ kj9 =>
        have H := HA.out
        clear HA
        simp only [spec_Break.j1] at H
        have HC13 := zu.mk H
        clear H
        go_upto_block 2 with (fail)
        go_cut [9] (fun v9 wc => ∃ (kq : Nat) (x9_12 : Int), v9 = .int .i64 x9_12 ∧ zu (spec_Break.j3 kq t231 x6_1 x7_1 x8_1 x9_12 = some (r1, r2)) ∧ zu (kq ≤ kj9) ∧ zu (Kd.R (Kd.int .i64) 3 wc w.heap.size (fun _ => True) (.slice (some ad241) t231.length co11) t231) ∧ zu (Kd.R k43 43 wc w.heap.size (fun _ => True) u6 x6_1) ∧ zu (Below w.heap.size w wc))
        case first =>
         have H := HC13.out
         clear HC13
         have H' := zu.mk H
         clear H
         go_wp2
         go_loopg [9] kj9 (fun kq v9 w' => ∃ (x9_3 : Int), v9 = .int .i64 x9_3 ∧ zu (spec_Break.l1 kq t231 x6_1 x7_1 x8_1 x9_3 = some (r1, r2)) ∧ zu (kq ≤ kj9) ∧ zu (Kd.R (Kd.int .i64) 3 w' w.heap.size (fun _ => True) (.slice (some ad241) t231.length co11) t231) ∧ zu (Kd.R k43 43 w' w.heap.size (fun _ => True) u6 x6_1) ∧ zu (Below w.heap.size w w'))
         case atStart => exact ⟨(x9_9), (by first | rfl | (simp; done) | (simp [*]; done)), H', ⟨um _⟩, ⟨y2⟩, ⟨y3⟩, ⟨y0⟩⟩
         case round =>
          clear H'
          try clear c1
          try clear c2
          try clear p2
          try clear q2
          try clear hx2
          try clear c3
          try clear c3b0
          try clear c3b1
          try clear c4
          try clear p6
          try clear c7
          try clear c7b0
          try clear c8
          try clear c8b0
          try clear c12
          try clear c12b0
          try clear c12b1
          try clear hx241_0
          try clear p2
          try clear p241
          try clear p6
          try clear q2
          try clear q241
          obtain ⟨x9_3, rfl, HA, HK3, HO_4, HO_6, HB⟩ := hrel
          cases gk with
          | zero => exact absurd HA.out (by simp [spec_Break.l1])
          | succ k3 =>
           have H := HA.out
           clear HA
           simp only [spec_Break.l1] at H
           by_cases c14 : x9_3 < (t231.length : Int)
           ·rw [if_pos c14] at H
            have c14b0 : decide (x9_3 < (t231.length : Int)) = true := decide_eq_true c14
            clear c14
            (first | rw [c14b0] | (simp only [zk, zl]; rw [c14b0]) | skip)
            by_cases c15 : x9_3 ≥ x8_1
            ·rw [if_pos c15] at H
             have c15b0 : decide (x8_1 ≤ x9_3) = true := decide_eq_true c15
             clear c15
             by_cases c16 : 0 ≤ x8_1
             ·rw [if_pos c16] at H
              have c16b0 : decide (0 ≤ x8_1) = true := decide_eq_true c16
              clear c16
              by_cases c17 : x8_1 < (t231.length : Int)
              ·rw [if_pos c17] at H
               have c17b0 : decide (x8_1 < (t231.length : Int)) = true := decide_eq_true c17
               clear c17
               replace H := ue.mp H
               obtain ⟨t244, A180, H⟩ := H
               replace H : (if t244 = 4 then (spec_Break.j3 k3 t231 x6_1 x7_1 x8_1 x9_3) else (if 0 ≤ x9_3 then ((spec_l01Inner.f k3 (rd t231 x9_3)).bind fun t246 => (if t246 = true then (spec_Break.l1 k3 t231 x6_1 x7_1 x8_1 (wrap64 (x9_3 + 1))) else (if x9_3 > x8_1 then ((spec_Class.f k3 (rd t231 x9_3)).bind fun t248 => (if t248 = 3 then (if 0 ≤ (wrap64 (x9_3 - 1)) then (if (wrap64 (x9_3 - 1)) < (t231.length : Int) then ((spec_l01Inner.f k3 (rd t231 (wrap64 (x9_3 - 1)))).bind fun t250 => (if t250 = true then (if (wrap64 (x9_3 + 1)) < (t231.length : Int) then (if 0 ≤ (wrap64 (x9_3 + 1)) then ((spec_l01Inner.f k3 (rd t231 (wrap64 (x9_3 + 1)))).bind fun t252 => (if t252 = true then (spec_Break.l1 k3 t231 x6_1 x7_1 x8_1 (wrap64 (x9_3 + 1))) else (spec_Break.j3 k3 t231 x6_1 x7_1 x8_1 x9_3))) else (none)) else (spec_Break.j3 k3 t231 x6_1 x7_1 x8_1 x9_3)) else (spec_Break.j3 k3 t231 x6_1 x7_1 x8_1 x9_3))) else (none)) else (none)) else (spec_Break.j3 k3 t231 x6_1 x7_1 x8_1 x9_3))) else (spec_Break.j3 k3 t231 x6_1 x7_1 x8_1 x9_3)))) else (none))) = some (r1, r2) := H
               have A18 := zu.mk A180
               clear A180
               by_cases c19 : t244 = 4
               ·rw [if_pos c19] at H
                have c19b0 : (t244 == 4) = true := beq_iff_eq.mpr c19
                have c19b1 : (t244 != 4) = false := bne_eq_false_iff_eq.mpr c19
                clear c19
                have H' := zu.mk H
                clear H
                have p243 : 0 ≤ (x8_1 : Int) := of_decide_eq_true (by first | (with_reducible assumption) | assumption)
                have q243 : x8_1 < (t231.length : Int) := of_decide_eq_true (by first | (with_reducible assumption) | assumption)
                obtain ⟨ad243, e243, hx243_0⟩ := Kd.at_int (Kd.R_reads' HO_4.out).2.2 x8_1 p243 q243
                obtain rfl : ad241 = ad243 := (by injection e243)
                replace p243 := eq_true p243
                replace q243 := eq_true q243
                go_wp2_with (first | (go_at_call 43; (with_reducible refine (spec_Class.calls k3 (rd t231 x8_1) t244 _ A18.out).mono ?_); rintro e w' ⟨rfl, ⟨nd, rfl⟩⟩))
                go_meet
                case rel => exact ⟨_, (x9_3), (by first | rfl | (simp; done) | (simp [*]; done)), H', ⟨by have := HK1.out; have := HJ9.out; have := HK3.out; first | omega | exact um _⟩, ⟨y2⟩, ⟨y3⟩, ⟨y0⟩⟩
               ·rw [if_neg c19] at H
                have c19b0 : (t244 == 4) = false := beq_eq_false_iff_ne.mpr c19
                have c19b1 : (t244 != 4) = true := bne_iff_ne.mpr c19
                by_cases c20 : 0 ≤ x9_3
                ·rw [if_pos c20] at H
                 have c20b0 : decide (0 ≤ x9_3) = true := decide_eq_true c20
                 clear c20
                 replace H := ue.mp H
                 obtain ⟨t246, A210, H⟩ := H
                 replace H : (if t246 = true then (spec_Break.l1 k3 t231 x6_1 x7_1 x8_1 (wrap64 (x9_3 + 1))) else (if x9_3 > x8_1 then ((spec_Class.f k3 (rd t231 x9_3)).bind fun t248 => (if t248 = 3 then (if 0 ≤ (wrap64 (x9_3 - 1)) then (if (wrap64 (x9_3 - 1)) < (t231.length : Int) then ((spec_l01Inner.f k3 (rd t231 (wrap64 (x9_3 - 1)))).bind fun t250 => (if t250 = true then (if (wrap64 (x9_3 + 1)) < (t231.length : Int) then (if 0 ≤ (wrap64 (x9_3 + 1)) then ((spec_l01Inner.f k3 (rd t231 (wrap64 (x9_3 + 1)))).bind fun t252 => (if t252 = true then (spec_Break.l1 k3 t231 x6_1 x7_1 x8_1 (wrap64 (x9_3 + 1))) else (spec_Break.j3 k3 t231 x6_1 x7_1 x8_1 x9_3))) else (none)) else (spec_Break.j3 k3 t231 x6_1 x7_1 x8_1 x9_3)) else (spec_Break.j3 k3 t231 x6_1 x7_1 x8_1 x9_3))) else (none)) else (none)) else (spec_Break.j3 k3 t231 x6_1 x7_1 x8_1 x9_3))) else (spec_Break.j3 k3 t231 x6_1 x7_1 x8_1 x9_3))) = some (r1, r2) := H
                 have A21 := zu.mk A210
                 clear A210
                 by_cases c22 : t246 = true
                 ·subst c22
                  have H1 : (spec_Break.l1 k3 t231 x6_1 x7_1 x8_1 (wrap64 (x9_3 + 1))) = some (r1, r2) := by rw [if_pos rfl] at H; exact H
                  clear H
                  have H := H1
                  clear H1
                  have H' := zu.mk H
                  clear H
                  have p243 : 0 ≤ (x8_1 : Int) := of_decide_eq_true (by first | (with_reducible assumption) | assumption)
                  have q243 : x8_1 < (t231.length : Int) := of_decide_eq_true (by first | (with_reducible assumption) | assumption)
                  obtain ⟨ad243, e243, hx243_0⟩ := Kd.at_int (Kd.R_reads' HO_4.out).2.2 x8_1 p243 q243
                  obtain rfl : ad241 = ad243 := (by injection e243)
                  replace p243 := eq_true p243
                  replace q243 := eq_true q243
                  go_wp2_with (first | (go_at_call 43; (with_reducible refine (spec_Class.calls k3 (rd t231 x8_1) t244 _ A18.out).mono ?_); rintro e w' ⟨rfl, ⟨nd, rfl⟩⟩; have p245 : 0 ≤ (x9_3 : Int) := of_decide_eq_true (by first | (with_reducible assumption) | assumption); have q245 : x9_3 < (t231.length : Int) := of_decide_eq_true (by first | (with_reducible assumption) | assumption); obtain ⟨ad245, e245, hx245_0⟩ := Kd.at_int (Kd.R_reads' HO_4.out).2.2 x9_3 p245 q245; obtain rfl : ad241 = ad245 := (by injection e245); replace p245 := eq_true p245; replace q245 := eq_true q245) | (go_at_call 44; (with_reducible refine (spec_l01Inner.calls k3 (rd t231 x9_3) true _ A21.out).mono ?_); rintro e w' ⟨rfl, ⟨nd, rfl⟩⟩))
                  go_roundg k3
                  case measure => have := HK1.out; have := HJ9.out; have := HK3.out; omega
                  case rel => exact ⟨(wrap64 (x9_3 + 1)), (by first | rfl | (simp; done) | (simp [*]; done)), H', ⟨by have := HK1.out; have := HJ9.out; have := HK3.out; omega⟩, ⟨y2⟩, ⟨y3⟩, ⟨y0⟩⟩
                 ·replace c22 := Bool.eq_false_iff.mpr c22
                  subst c22
                  have H1 : (if x9_3 > x8_1 then ((spec_Class.f k3 (rd t231 x9_3)).bind fun t248 => (if t248 = 3 then (if 0 ≤ (wrap64 (x9_3 - 1)) then (if (wrap64 (x9_3 - 1)) < (t231.length : Int) then ((spec_l01Inner.f k3 (rd t231 (wrap64 (x9_3 - 1)))).bind fun t250 => (if t250 = true then (if (wrap64 (x9_3 + 1)) < (t231.length : Int) then (if 0 ≤ (wrap64 (x9_3 + 1)) then ((spec_l01Inner.f k3 (rd t231 (wrap64 (x9_3 + 1)))).bind fun t252 => (if t252 = true then (spec_Break.l1 k3 t231 x6_1 x7_1 x8_1 (wrap64 (x9_3 + 1))) else (spec_Break.j3 k3 t231 x6_1 x7_1 x8_1 x9_3))) else (none)) else (spec_Break.j3 k3 t231 x6_1 x7_1 x8_1 x9_3)) else (spec_Break.j3 k3 t231 x6_1 x7_1 x8_1 x9_3))) else (none)) else (none)) else (spec_Break.j3 k3 t231 x6_1 x7_1 x8_1 x9_3))) else (spec_Break.j3 k3 t231 x6_1 x7_1 x8_1 x9_3)) = some (r1, r2) := by rw [if_neg (show ¬ (false = true) by decide)] at H; exact H
                  clear H
                  have H := H1
                  clear H1
                  by_cases c23 : x9_3 > x8_1
                  ·rw [if_pos c23] at H
                   have c23b0 : decide (x8_1 < x9_3) = true := decide_eq_true c23
                   clear c23
                   replace H := ue.mp H
                   obtain ⟨t248, A240, H⟩ := H
                   replace H : (if t248 = 3 then (if 0 ≤ (wrap64 (x9_3 - 1)) then (if (wrap64 (x9_3 - 1)) < (t231.length : Int) then ((spec_l01Inner.f k3 (rd t231 (wrap64 (x9_3 - 1)))).bind fun t250 => (if t250 = true then (if (wrap64 (x9_3 + 1)) < (t231.length : Int) then (if 0 ≤ (wrap64 (x9_3 + 1)) then ((spec_l01Inner.f k3 (rd t231 (wrap64 (x9_3 + 1)))).bind fun t252 => (if t252 = true then (spec_Break.l1 k3 t231 x6_1 x7_1 x8_1 (wrap64 (x9_3 + 1))) else (spec_Break.j3 k3 t231 x6_1 x7_1 x8_1 x9_3))) else (none)) else (spec_Break.j3 k3 t231 x6_1 x7_1 x8_1 x9_3)) else (spec_Break.j3 k3 t231 x6_1 x7_1 x8_1 x9_3))) else (none)) else (none)) else (spec_Break.j3 k3 t231 x6_1 x7_1 x8_1 x9_3)) = some (r1, r2) := H
                   have A24 := zu.mk A240
                   clear A240
                   by_cases c25 : t248 = 3
                   ·rw [if_pos c25] at H
                    have c25b0 : (t248 == 3) = true := beq_iff_eq.mpr c25
                    have c25b1 : (t248 != 3) = false := bne_eq_false_iff_eq.mpr c25
                    clear c25
                    obtain ⟨ji26, hji26⟩ : ∃ j_ : Int, (wrap64 (x9_3 - 1)) = j_ := ⟨_, rfl⟩
                    replace H : (if 0 ≤ (ji26) then (if (ji26) < (t231.length : Int) then ((spec_l01Inner.f k3 (rd t231 (ji26))).bind fun t250 => (if t250 = true then (if (wrap64 (x9_3 + 1)) < (t231.length : Int) then (if 0 ≤ (wrap64 (x9_3 + 1)) then ((spec_l01Inner.f k3 (rd t231 (wrap64 (x9_3 + 1)))).bind fun t252 => (if t252 = true then (spec_Break.l1 k3 t231 x6_1 x7_1 x8_1 (wrap64 (x9_3 + 1))) else (spec_Break.j3 k3 t231 x6_1 x7_1 x8_1 x9_3))) else (none)) else (spec_Break.j3 k3 t231 x6_1 x7_1 x8_1 x9_3)) else (spec_Break.j3 k3 t231 x6_1 x7_1 x8_1 x9_3))) else (none)) else (none)) = some (r1, r2) := by first | (rw [hji26] at H; exact H) | (simp only [hji26] at H ⊢; exact H)
                    (try rw [hji26] at A18)
                    (try rw [hji26] at A21)
                    (try rw [hji26] at A24)
                    have hji26w : (IntKind.i64.wrap (x9_3 - 1)) = ji26 := (zk _).trans hji26
                    by_cases c27 : 0 ≤ (ji26)
                    ·rw [if_pos c27] at H
                     have c27b0 : decide (0 ≤ (ji26)) = true := decide_eq_true c27
                     clear c27
                     by_cases c28 : (ji26) < (t231.length : Int)
                     ·rw [if_pos c28] at H
                      have c28b0 : decide ((ji26) < (t231.length : Int)) = true := decide_eq_true c28
                      clear c28
                      replace H := ue.mp H
                      obtain ⟨t250, A290, H⟩ := H
                      replace H : (if t250 = true then (if (wrap64 (x9_3 + 1)) < (t231.length : Int) then (if 0 ≤ (wrap64 (x9_3 + 1)) then ((spec_l01Inner.f k3 (rd t231 (wrap64 (x9_3 + 1)))).bind fun t252 => (if t252 = true then (spec_Break.l1 k3 t231 x6_1 x7_1 x8_1 (wrap64 (x9_3 + 1))) else (spec_Break.j3 k3 t231 x6_1 x7_1 x8_1 x9_3))) else (none)) else (spec_Break.j3 k3 t231 x6_1 x7_1 x8_1 x9_3)) else (spec_Break.j3 k3 t231 x6_1 x7_1 x8_1 x9_3)) = some (r1, r2) := H
                      have A29 := zu.mk A290
                      clear A290
                      by_cases c30 : t250 = true
                      ·subst c30
                       have H1 : (if (wrap64 (x9_3 + 1)) < (t231.length : Int) then (if 0 ≤ (wrap64 (x9_3 + 1)) then ((spec_l01Inner.f k3 (rd t231 (wrap64 (x9_3 + 1)))).bind fun t252 => (if t252 = true then (spec_Break.l1 k3 t231 x6_1 x7_1 x8_1 (wrap64 (x9_3 + 1))) else (spec_Break.j3 k3 t231 x6_1 x7_1 x8_1 x9_3))) else (none)) else (spec_Break.j3 k3 t231 x6_1 x7_1 x8_1 x9_3)) = some (r1, r2) := by rw [if_pos rfl] at H; exact H
                       clear H
                       have H := H1
                       clear H1
                       by_cases c31 : (wrap64 (x9_3 + 1)) < (t231.length : Int)
                       ·rw [if_pos c31] at H
                        have c31b0 : decide ((wrap64 (x9_3 + 1)) < (t231.length : Int)) = true := decide_eq_true c31
                        clear c31
                        obtain ⟨ji32, hji32⟩ : ∃ j_ : Int, (wrap64 (x9_3 + 1)) = j_ := ⟨_, rfl⟩
                        replace H : (if 0 ≤ (ji32) then ((spec_l01Inner.f k3 (rd t231 (ji32))).bind fun t252 => (if t252 = true then (spec_Break.l1 k3 t231 x6_1 x7_1 x8_1 ji32) else (spec_Break.j3 k3 t231 x6_1 x7_1 x8_1 x9_3))) else (none)) = some (r1, r2) := by first | (rw [hji32] at H; exact H) | (simp only [hji32] at H ⊢; exact H)
                        (try rw [hji32] at c31b0)
                        (try rw [hji32] at A18)
                        (try rw [hji32] at A21)
                        (try rw [hji32] at A24)
                        (try rw [hji32] at A29)
                        have hji32w : (IntKind.i64.wrap (x9_3 + 1)) = ji32 := (zk _).trans hji32
                        by_cases c33 : 0 ≤ (ji32)
                        ·rw [if_pos c33] at H
                         have c33b0 : decide (0 ≤ (ji32)) = true := decide_eq_true c33
                         clear c33
                         replace H := ue.mp H
                         obtain ⟨t252, A340, H⟩ := H
                         replace H : (if t252 = true then (spec_Break.l1 k3 t231 x6_1 x7_1 x8_1 ji32) else (spec_Break.j3 k3 t231 x6_1 x7_1 x8_1 x9_3)) = some (r1, r2) := H
                         have A34 := zu.mk A340
                         clear A340
                         by_cases c35 : t252 = true
                         ·subst c35
                          have H1 : (spec_Break.l1 k3 t231 x6_1 x7_1 x8_1 ji32) = some (r1, r2) := by rw [if_pos rfl] at H; exact H
                          clear H
                          have H := H1
                          clear H1
                          have H' := zu.mk H
                          clear H
                          have p243 : 0 ≤ (x8_1 : Int) := of_decide_eq_true (by first | (with_reducible assumption) | assumption)
                          have q243 : x8_1 < (t231.length : Int) := of_decide_eq_true (by first | (with_reducible assumption) | assumption)
                          obtain ⟨ad243, e243, hx243_0⟩ := Kd.at_int (Kd.R_reads' HO_4.out).2.2 x8_1 p243 q243
                          obtain rfl : ad241 = ad243 := (by injection e243)
                          replace p243 := eq_true p243
                          replace q243 := eq_true q243
                          go_wp2_with (first | (go_at_call 43; (with_reducible refine (spec_Class.calls k3 (rd t231 x8_1) t244 _ A18.out).mono ?_); rintro e w' ⟨rfl, ⟨nd, rfl⟩⟩; have p245 : 0 ≤ (x9_3 : Int) := of_decide_eq_true (by first | (with_reducible assumption) | assumption); have q245 : x9_3 < (t231.length : Int) := of_decide_eq_true (by first | (with_reducible assumption) | assumption); obtain ⟨ad245, e245, hx245_0⟩ := Kd.at_int (Kd.R_reads' HO_4.out).2.2 x9_3 p245 q245; obtain rfl : ad241 = ad245 := (by injection e245); replace p245 := eq_true p245; replace q245 := eq_true q245) | (go_at_call 44; (with_reducible refine (spec_l01Inner.calls k3 (rd t231 x9_3) false _ A21.out).mono ?_); rintro e w' ⟨rfl, ⟨nd, rfl⟩⟩; have p247 : 0 ≤ (x9_3 : Int) := of_decide_eq_true (by first | (with_reducible assumption) | assumption); have q247 : x9_3 < (t231.length : Int) := of_decide_eq_true (by first | (with_reducible assumption) | assumption); obtain ⟨ad247, e247, hx247_0⟩ := Kd.at_int (Kd.R_reads' HO_4.out).2.2 x9_3 p247 q247; obtain rfl : ad241 = ad247 := (by injection e247); replace p247 := eq_true p247; replace q247 := eq_true q247) | (go_at_call 43; (with_reducible refine (spec_Class.calls k3 (rd t231 x9_3) t248 _ A24.out).mono ?_); rintro e w' ⟨rfl, ⟨nd, rfl⟩⟩; have p249 : 0 ≤ ((ji26) : Int) := of_decide_eq_true (by first | (with_reducible assumption) | assumption); have q249 : (ji26) < (t231.length : Int) := of_decide_eq_true (by first | (with_reducible assumption) | assumption); obtain ⟨ad249, e249, hx249_0⟩ := Kd.at_int (Kd.R_reads' HO_4.out).2.2 (ji26) p249 q249; obtain rfl : ad241 = ad249 := (by injection e249); replace p249 := eq_true p249; replace q249 := eq_true q249) | (go_at_call 44; (with_reducible refine (spec_l01Inner.calls k3 (rd t231 (ji26)) true _ A29.out).mono ?_); rintro e w' ⟨rfl, ⟨nd, rfl⟩⟩; have p251 : 0 ≤ ((ji32) : Int) := of_decide_eq_true (by first | (with_reducible assumption) | assumption); have q251 : (ji32) < (t231.length : Int) := of_decide_eq_true (by first | (with_reducible assumption) | assumption); obtain ⟨ad251, e251, hx251_0⟩ := Kd.at_int (Kd.R_reads' HO_4.out).2.2 (ji32) p251 q251; obtain rfl : ad241 = ad251 := (by injection e251); replace p251 := eq_true p251; replace q251 := eq_true q251) | (go_at_call 44; (with_reducible refine (spec_l01Inner.calls k3 (rd t231 (ji32)) true _ A34.out).mono ?_); rintro e w' ⟨rfl, ⟨nd, rfl⟩⟩))
                          go_roundg k3
                          case measure => have := HK1.out; have := HJ9.out; have := HK3.out; omega
                          case rel => exact ⟨(ji32), (by first | rfl | (simp; done) | (simp only [← hji32] <;> (first | rfl | simp)) | (simp [*]; done)), H', ⟨by have := HK1.out; have := HJ9.out; have := HK3.out; omega⟩, ⟨y2⟩, ⟨y3⟩, ⟨y0⟩⟩
                         ·replace c35 := Bool.eq_false_iff.mpr c35
                          subst c35
                          have H1 : (spec_Break.j3 k3 t231 x6_1 x7_1 x8_1 x9_3) = some (r1, r2) := by rw [if_neg (show ¬ (false = true) by decide)] at H; exact H
                          clear H
                          have H := H1
                          clear H1
                          have H' := zu.mk H
                          clear H
                          have p243 : 0 ≤ (x8_1 : Int) := of_decide_eq_true (by first | (with_reducible assumption) | assumption)
                          have q243 : x8_1 < (t231.length : Int) := of_decide_eq_true (by first | (with_reducible assumption) | assumption)
                          obtain ⟨ad243, e243, hx243_0⟩ := Kd.at_int (Kd.R_reads' HO_4.out).2.2 x8_1 p243 q243
                          obtain rfl : ad241 = ad243 := (by injection e243)
                          replace p243 := eq_true p243
                          replace q243 := eq_true q243
                          go_wp2_with (first | (go_at_call 43; (with_reducible refine (spec_Class.calls k3 (rd t231 x8_1) t244 _ A18.out).mono ?_); rintro e w' ⟨rfl, ⟨nd, rfl⟩⟩; have p245 : 0 ≤ (x9_3 : Int) := of_decide_eq_true (by first | (with_reducible assumption) | assumption); have q245 : x9_3 < (t231.length : Int) := of_decide_eq_true (by first | (with_reducible assumption) | assumption); obtain ⟨ad245, e245, hx245_0⟩ := Kd.at_int (Kd.R_reads' HO_4.out).2.2 x9_3 p245 q245; obtain rfl : ad241 = ad245 := (by injection e245); replace p245 := eq_true p245; replace q245 := eq_true q245) | (go_at_call 44; (with_reducible refine (spec_l01Inner.calls k3 (rd t231 x9_3) false _ A21.out).mono ?_); rintro e w' ⟨rfl, ⟨nd, rfl⟩⟩; have p247 : 0 ≤ (x9_3 : Int) := of_decide_eq_true (by first | (with_reducible assumption) | assumption); have q247 : x9_3 < (t231.length : Int) := of_decide_eq_true (by first | (with_reducible assumption) | assumption); obtain ⟨ad247, e247, hx247_0⟩ := Kd.at_int (Kd.R_reads' HO_4.out).2.2 x9_3 p247 q247; obtain rfl : ad241 = ad247 := (by injection e247); replace p247 := eq_true p247; replace q247 := eq_true q247) | (go_at_call 43; (with_reducible refine (spec_Class.calls k3 (rd t231 x9_3) t248 _ A24.out).mono ?_); rintro e w' ⟨rfl, ⟨nd, rfl⟩⟩; have p249 : 0 ≤ ((ji26) : Int) := of_decide_eq_true (by first | (with_reducible assumption) | assumption); have q249 : (ji26) < (t231.length : Int) := of_decide_eq_true (by first | (with_reducible assumption) | assumption); obtain ⟨ad249, e249, hx249_0⟩ := Kd.at_int (Kd.R_reads' HO_4.out).2.2 (ji26) p249 q249; obtain rfl : ad241 = ad249 := (by injection e249); replace p249 := eq_true p249; replace q249 := eq_true q249) | (go_at_call 44; (with_reducible refine (spec_l01Inner.calls k3 (rd t231 (ji26)) true _ A29.out).mono ?_); rintro e w' ⟨rfl, ⟨nd, rfl⟩⟩; have p251 : 0 ≤ ((ji32) : Int) := of_decide_eq_true (by first | (with_reducible assumption) | assumption); have q251 : (ji32) < (t231.length : Int) := of_decide_eq_true (by first | (with_reducible assumption) | assumption); obtain ⟨ad251, e251, hx251_0⟩ := Kd.at_int (Kd.R_reads' HO_4.out).2.2 (ji32) p251 q251; obtain rfl : ad241 = ad251 := (by injection e251); replace p251 := eq_true p251; replace q251 := eq_true q251) | (go_at_call 44; (with_reducible refine (spec_l01Inner.calls k3 (rd t231 (ji32)) false _ A34.out).mono ?_); rintro e w' ⟨rfl, ⟨nd, rfl⟩⟩))
                          go_meet
                          case rel => exact ⟨_, (x9_3), (by first | rfl | (simp; done) | (simp [*]; done)), H', ⟨by have := HK1.out; have := HJ9.out; have := HK3.out; first | omega | exact um _⟩, ⟨y2⟩, ⟨y3⟩, ⟨y0⟩⟩
                        ·rw [if_neg c33] at H
                         exact absurd H (by simp)
                       ·rw [if_neg c31] at H
                        have c31b0 : decide ((wrap64 (x9_3 + 1)) < (t231.length : Int)) = false := decide_eq_false c31
                        clear c31
                        have H' := zu.mk H
                        clear H
                        have p243 : 0 ≤ (x8_1 : Int) := of_decide_eq_true (by first | (with_reducible assumption) | assumption)
                        have q243 : x8_1 < (t231.length : Int) := of_decide_eq_true (by first | (with_reducible assumption) | assumption)
                        obtain ⟨ad243, e243, hx243_0⟩ := Kd.at_int (Kd.R_reads' HO_4.out).2.2 x8_1 p243 q243
                        obtain rfl : ad241 = ad243 := (by injection e243)
                        replace p243 := eq_true p243
                        replace q243 := eq_true q243
                        go_wp2_with (first | (go_at_call 43; (with_reducible refine (spec_Class.calls k3 (rd t231 x8_1) t244 _ A18.out).mono ?_); rintro e w' ⟨rfl, ⟨nd, rfl⟩⟩; have p245 : 0 ≤ (x9_3 : Int) := of_decide_eq_true (by first | (with_reducible assumption) | assumption); have q245 : x9_3 < (t231.length : Int) := of_decide_eq_true (by first | (with_reducible assumption) | assumption); obtain ⟨ad245, e245, hx245_0⟩ := Kd.at_int (Kd.R_reads' HO_4.out).2.2 x9_3 p245 q245; obtain rfl : ad241 = ad245 := (by injection e245); replace p245 := eq_true p245; replace q245 := eq_true q245) | (go_at_call 44; (with_reducible refine (spec_l01Inner.calls k3 (rd t231 x9_3) false _ A21.out).mono ?_); rintro e w' ⟨rfl, ⟨nd, rfl⟩⟩; have p247 : 0 ≤ (x9_3 : Int) := of_decide_eq_true (by first | (with_reducible assumption) | assumption); have q247 : x9_3 < (t231.length : Int) := of_decide_eq_true (by first | (with_reducible assumption) | assumption); obtain ⟨ad247, e247, hx247_0⟩ := Kd.at_int (Kd.R_reads' HO_4.out).2.2 x9_3 p247 q247; obtain rfl : ad241 = ad247 := (by injection e247); replace p247 := eq_true p247; replace q247 := eq_true q247) | (go_at_call 43; (with_reducible refine (spec_Class.calls k3 (rd t231 x9_3) t248 _ A24.out).mono ?_); rintro e w' ⟨rfl, ⟨nd, rfl⟩⟩; have p249 : 0 ≤ ((ji26) : Int) := of_decide_eq_true (by first | (with_reducible assumption) | assumption); have q249 : (ji26) < (t231.length : Int) := of_decide_eq_true (by first | (with_reducible assumption) | assumption); obtain ⟨ad249, e249, hx249_0⟩ := Kd.at_int (Kd.R_reads' HO_4.out).2.2 (ji26) p249 q249; obtain rfl : ad241 = ad249 := (by injection e249); replace p249 := eq_true p249; replace q249 := eq_true q249) | (go_at_call 44; (with_reducible refine (spec_l01Inner.calls k3 (rd t231 (ji26)) true _ A29.out).mono ?_); rintro e w' ⟨rfl, ⟨nd, rfl⟩⟩))
                        go_meet
                        case rel => exact ⟨_, (x9_3), (by first | rfl | (simp; done) | (simp [*]; done)), H', ⟨by have := HK1.out; have := HJ9.out; have := HK3.out; first | omega | exact um _⟩, ⟨y2⟩, ⟨y3⟩, ⟨y0⟩⟩
                      ·replace c30 := Bool.eq_false_iff.mpr c30
                       subst c30
                       have H1 : (spec_Break.j3 k3 t231 x6_1 x7_1 x8_1 x9_3) = some (r1, r2) := by rw [if_neg (show ¬ (false = true) by decide)] at H; exact H
                       clear H
                       have H := H1
                       clear H1
                       have H' := zu.mk H
                       clear H
                       have p243 : 0 ≤ (x8_1 : Int) := of_decide_eq_true (by first | (with_reducible assumption) | assumption)
                       have q243 : x8_1 < (t231.length : Int) := of_decide_eq_true (by first | (with_reducible assumption) | assumption)
                       obtain ⟨ad243, e243, hx243_0⟩ := Kd.at_int (Kd.R_reads' HO_4.out).2.2 x8_1 p243 q243
                       obtain rfl : ad241 = ad243 := (by injection e243)
                       replace p243 := eq_true p243
                       replace q243 := eq_true q243
                       go_wp2_with (first | (go_at_call 43; (with_reducible refine (spec_Class.calls k3 (rd t231 x8_1) t244 _ A18.out).mono ?_); rintro e w' ⟨rfl, ⟨nd, rfl⟩⟩; have p245 : 0 ≤ (x9_3 : Int) := of_decide_eq_true (by first | (with_reducible assumption) | assumption); have q245 : x9_3 < (t231.length : Int) := of_decide_eq_true (by first | (with_reducible assumption) | assumption); obtain ⟨ad245, e245, hx245_0⟩ := Kd.at_int (Kd.R_reads' HO_4.out).2.2 x9_3 p245 q245; obtain rfl : ad241 = ad245 := (by injection e245); replace p245 := eq_true p245; replace q245 := eq_true q245) | (go_at_call 44; (with_reducible refine (spec_l01Inner.calls k3 (rd t231 x9_3) false _ A21.out).mono ?_); rintro e w' ⟨rfl, ⟨nd, rfl⟩⟩; have p247 : 0 ≤ (x9_3 : Int) := of_decide_eq_true (by first | (with_reducible assumption) | assumption); have q247 : x9_3 < (t231.length : Int) := of_decide_eq_true (by first | (with_reducible assumption) | assumption); obtain ⟨ad247, e247, hx247_0⟩ := Kd.at_int (Kd.R_reads' HO_4.out).2.2 x9_3 p247 q247; obtain rfl : ad241 = ad247 := (by injection e247); replace p247 := eq_true p247; replace q247 := eq_true q247) | (go_at_call 43; (with_reducible refine (spec_Class.calls k3 (rd t231 x9_3) t248 _ A24.out).mono ?_); rintro e w' ⟨rfl, ⟨nd, rfl⟩⟩; have p249 : 0 ≤ ((ji26) : Int) := of_decide_eq_true (by first | (with_reducible assumption) | assumption); have q249 : (ji26) < (t231.length : Int) := of_decide_eq_true (by first | (with_reducible assumption) | assumption); obtain ⟨ad249, e249, hx249_0⟩ := Kd.at_int (Kd.R_reads' HO_4.out).2.2 (ji26) p249 q249; obtain rfl : ad241 = ad249 := (by injection e249); replace p249 := eq_true p249; replace q249 := eq_true q249) | (go_at_call 44; (with_reducible refine (spec_l01Inner.calls k3 (rd t231 (ji26)) false _ A29.out).mono ?_); rintro e w' ⟨rfl, ⟨nd, rfl⟩⟩))
                       go_meet
                       case rel => exact ⟨_, (x9_3), (by first | rfl | (simp; done) | (simp [*]; done)), H', ⟨by have := HK1.out; have := HJ9.out; have := HK3.out; first | omega | exact um _⟩, ⟨y2⟩, ⟨y3⟩, ⟨y0⟩⟩
                     ·rw [if_neg c28] at H
                      exact absurd H (by simp)
                    ·rw [if_neg c27] at H
                     exact absurd H (by simp)
                   ·rw [if_neg c25] at H
                    have c25b0 : (t248 == 3) = false := beq_eq_false_iff_ne.mpr c25
                    have c25b1 : (t248 != 3) = true := bne_iff_ne.mpr c25
                    have H' := zu.mk H
                    clear H
                    have p243 : 0 ≤ (x8_1 : Int) := of_decide_eq_true (by first | (with_reducible assumption) | assumption)
                    have q243 : x8_1 < (t231.length : Int) := of_decide_eq_true (by first | (with_reducible assumption) | assumption)
                    obtain ⟨ad243, e243, hx243_0⟩ := Kd.at_int (Kd.R_reads' HO_4.out).2.2 x8_1 p243 q243
                    obtain rfl : ad241 = ad243 := (by injection e243)
                    replace p243 := eq_true p243
                    replace q243 := eq_true q243
                    go_wp2_with (first | (go_at_call 43; (with_reducible refine (spec_Class.calls k3 (rd t231 x8_1) t244 _ A18.out).mono ?_); rintro e w' ⟨rfl, ⟨nd, rfl⟩⟩; have p245 : 0 ≤ (x9_3 : Int) := of_decide_eq_true (by first | (with_reducible assumption) | assumption); have q245 : x9_3 < (t231.length : Int) := of_decide_eq_true (by first | (with_reducible assumption) | assumption); obtain ⟨ad245, e245, hx245_0⟩ := Kd.at_int (Kd.R_reads' HO_4.out).2.2 x9_3 p245 q245; obtain rfl : ad241 = ad245 := (by injection e245); replace p245 := eq_true p245; replace q245 := eq_true q245) | (go_at_call 44; (with_reducible refine (spec_l01Inner.calls k3 (rd t231 x9_3) false _ A21.out).mono ?_); rintro e w' ⟨rfl, ⟨nd, rfl⟩⟩; have p247 : 0 ≤ (x9_3 : Int) := of_decide_eq_true (by first | (with_reducible assumption) | assumption); have q247 : x9_3 < (t231.length : Int) := of_decide_eq_true (by first | (with_reducible assumption) | assumption); obtain ⟨ad247, e247, hx247_0⟩ := Kd.at_int (Kd.R_reads' HO_4.out).2.2 x9_3 p247 q247; obtain rfl : ad241 = ad247 := (by injection e247); replace p247 := eq_true p247; replace q247 := eq_true q247) | (go_at_call 43; (with_reducible refine (spec_Class.calls k3 (rd t231 x9_3) t248 _ A24.out).mono ?_); rintro e w' ⟨rfl, ⟨nd, rfl⟩⟩))
                    go_meet
                    case rel => exact ⟨_, (x9_3), (by first | rfl | (simp; done) | (simp [*]; done)), H', ⟨by have := HK1.out; have := HJ9.out; have := HK3.out; first | omega | exact um _⟩, ⟨y2⟩, ⟨y3⟩, ⟨y0⟩⟩
                  ·rw [if_neg c23] at H
                   have c23b0 : decide (x8_1 < x9_3) = false := decide_eq_false c23
                   clear c23
                   have H' := zu.mk H
                   clear H
                   have p243 : 0 ≤ (x8_1 : Int) := of_decide_eq_true (by first | (with_reducible assumption) | assumption)
                   have q243 : x8_1 < (t231.length : Int) := of_decide_eq_true (by first | (with_reducible assumption) | assumption)
                   obtain ⟨ad243, e243, hx243_0⟩ := Kd.at_int (Kd.R_reads' HO_4.out).2.2 x8_1 p243 q243
                   obtain rfl : ad241 = ad243 := (by injection e243)
                   replace p243 := eq_true p243
                   replace q243 := eq_true q243
                   go_wp2_with (first | (go_at_call 43; (with_reducible refine (spec_Class.calls k3 (rd t231 x8_1) t244 _ A18.out).mono ?_); rintro e w' ⟨rfl, ⟨nd, rfl⟩⟩; have p245 : 0 ≤ (x9_3 : Int) := of_decide_eq_true (by first | (with_reducible assumption) | assumption); have q245 : x9_3 < (t231.length : Int) := of_decide_eq_true (by first | (with_reducible assumption) | assumption); obtain ⟨ad245, e245, hx245_0⟩ := Kd.at_int (Kd.R_reads' HO_4.out).2.2 x9_3 p245 q245; obtain rfl : ad241 = ad245 := (by injection e245); replace p245 := eq_true p245; replace q245 := eq_true q245) | (go_at_call 44; (with_reducible refine (spec_l01Inner.calls k3 (rd t231 x9_3) false _ A21.out).mono ?_); rintro e w' ⟨rfl, ⟨nd, rfl⟩⟩))
                   go_meet
                   case rel => exact ⟨_, (x9_3), (by first | rfl | (simp; done) | (simp [*]; done)), H', ⟨by have := HK1.out; have := HJ9.out; have := HK3.out; first | omega | exact um _⟩, ⟨y2⟩, ⟨y3⟩, ⟨y0⟩⟩
                ·rw [if_neg c20] at H
                 exact absurd H (by simp)
              ·rw [if_neg c17] at H
               exact absurd H (by simp)
             ·rw [if_neg c16] at H
              exact absurd H (by simp)
            ·rw [if_neg c15] at H
             have c15b0 : decide (x8_1 ≤ x9_3) = false := decide_eq_false c15
             clear c15
             have H' := zu.mk H
             clear H
             go_wp2
             go_meet
             case rel => exact ⟨_, (x9_3), (by first | rfl | (simp; done) | (simp [*]; done)), H', ⟨by have := HK1.out; have := HJ9.out; have := HK3.out; first | omega | exact um _⟩, ⟨y2⟩, ⟨y3⟩, ⟨y0⟩⟩
           ·rw [if_neg c14] at H
            have c14b0 : decide (x9_3 < (t231.length : Int)) = false := decide_eq_false c14
            clear c14
            (first | rw [c14b0] | (simp only [zk, zl]; rw [c14b0]) | skip)
            have H' := zu.mk H
            clear H
            go_wp2
            go_meet
            case rel => exact ⟨_, (x9_3), (by first | rfl | (simp; done) | (simp [*]; done)), H', ⟨by have := HK1.out; have := HJ9.out; have := HK3.out; first | omega | exact um _⟩, ⟨y2⟩, ⟨y3⟩, ⟨y0⟩⟩
        case rest =>
         clear HC13
         try clear c1
         try clear c2
         try clear p2
         try clear q2
         try clear hx2
         try clear c3
         try clear c3b0
         try clear c3b1
         try clear c4
         try clear p6
         try clear c7
         try clear c7b0
         try clear c8
         try clear c8b0
         try clear c12
         try clear c12b0
         try clear c12b1
         try clear c14
         try clear c14b0
         try clear c15
         try clear c15b0
         try clear c16
         try clear c16b0
         try clear c17
         try clear c17b0
         try clear c19
         try clear c19b0
         try clear c19b1
         try clear c20
         try clear c20b0
         try clear c21
         try clear c22
         try clear c23
         try clear c23b0
         try clear p24
         try clear q24
         try clear hx24
         try clear c25
         try clear c25b0
         try clear c25b1
         try clear p25
         try clear q25
         try clear hx25
         try clear c27
         try clear c27b0
         try clear c28
         try clear c28b0
         try clear c30
         try clear c31
         try clear c31b0
         try clear c33
         try clear c33b0
         try clear c35
         try clear hx241_0
         try clear hx243_0
         try clear hx245_0
         try clear hx247_0
         try clear hx249_0
         try clear hx251_0
         try clear p2
         try clear p241
         try clear p243
         try clear p245
         try clear p247
         try clear p249
         try clear p251
         try clear p6
         try clear q2
         try clear q241
         try clear q243
         try clear q245
         try clear q247
         try clear q249
         try clear q251
         obtain ⟨kq, x9_12, rfl, HA, HJ12, HO_4, HO_6, HB⟩ := hcut
         cases kq with
         | zero => exact absurd HA.out (by simp [spec_Break.j3])
         | succ kj12 =>
          have H := HA.out
          clear HA
          simp only [spec_Break.j3] at H
          by_cases c36 : x9_12 = x8_1
          ·rw [if_pos c36] at H
           have c36b0 : (x9_12 == x8_1) = true := beq_iff_eq.mpr c36
           have c36b1 : (x9_12 != x8_1) = false := bne_eq_false_iff_eq.mpr c36
           clear c36
           by_cases c37 : 0 ≤ x8_1
           ·rw [if_pos c37] at H
            have c37b0 : decide (0 ≤ x8_1) = true := decide_eq_true c37
            clear c37
            by_cases c38 : x8_1 < (t231.length : Int)
            ·rw [if_pos c38] at H
             have c38b0 : decide (x8_1 < (t231.length : Int)) = true := decide_eq_true c38
             clear c38
             replace H := ue.mp H
             obtain ⟨t254, A390, H⟩ := H
             replace H : (spec_Break.l0 kj12 t231 x6_1 (wrap64 (x7_1 + (t254.length : Int))) (wrap64 (x8_1 + 1))) = some (r1, r2) := H
             have A39 := zu.mk A390
             clear A390
             have H' := zu.mk H
             clear H
             have p253 : 0 ≤ (x8_1 : Int) := of_decide_eq_true (by first | (with_reducible assumption) | assumption)
             have q253 : x8_1 < (t231.length : Int) := of_decide_eq_true (by first | (with_reducible assumption) | assumption)
             obtain ⟨ad253, e253, hx253_0⟩ := Kd.at_int (Kd.R_reads' HO_4.out).2.2 x8_1 p253 q253
             obtain rfl : ad241 = ad253 := (by injection e253)
             replace p253 := eq_true p253
             replace q253 := eq_true q253
             go_wp2_with (first | ((with_reducible refine zm (f := 45) rfl ?_); refine goesL_ (some 104) rfl rfl Tryd.func45 (by kernel_rfl) rfl #[.int .i64 (rd t231 x8_1)] rfl (by (try simp only [uh, ui, uj]); first | done | rfl | (simp only [uf, ug]; rfl)) ?_; (with_reducible refine (spec_l01Bytes.calls (rd t231 x8_1) t254 _ A39.out).mono ?_); rintro e w40 ⟨v255, rfl, ho0, hb⟩; refine ⟨_, rfl, ?_⟩; have n0_ := zu.mk (Kd.R_below y2 hb); have n1_ := zu.mk (Kd.R_below y3 hb); have n2_ := zu.mk (Kd.R_lower ho0 (zg y0)); have n3_ := zu.mk (ze y0 hb); clear HO_4; clear HO_6; clear HB; have HO_4 := n0_; have HO_6 := n1_; have HO256 := n2_; have HB := n3_; clear n0_ n1_ n2_ n3_; (try clear hb); (try clear hb2); (try clear hk); (try clear hi); (try clear ho0); obtain ⟨Ao41, co41, eo41⟩ := Kd.R_slice HO256.out; subst eo41))
             go_roundg kj12
             case measure => have := HK1.out; have := HJ9.out; have := HJ12.out; omega
             case rel => exact ⟨(x6_1), (wrap64 (x7_1 + (t254.length : Int))), (wrap64 (x8_1 + 1)), (by first | rfl | (simp; done) | (simp [*]; done)), (by first | rfl | (simp; done) | (simp [*]; done)), H', ⟨by have := HK1.out; have := HJ9.out; have := HJ12.out; omega⟩, ⟨y2⟩, ⟨y3⟩, ⟨y0⟩⟩
            ·rw [if_neg c38] at H
             exact absurd H (by simp)
           ·rw [if_neg c37] at H
            exact absurd H (by simp)
          ·rw [if_neg c36] at H
           have c36b0 : (x9_12 == x8_1) = false := beq_eq_false_iff_ne.mpr c36
           have c36b1 : (x9_12 != x8_1) = true := bne_iff_ne.mpr c36
           by_cases c42 : 0 ≤ x8_1
           ·rw [if_pos c42] at H
            have c42b0 := eq_true c42
            have c42b1 : decide (0 ≤ x8_1) = true := decide_eq_true c42
            clear c42
            by_cases c43 : x8_1 ≤ x9_12
            ·rw [if_pos c43] at H
             have c43b0 := eq_true c43
             have c43b1 : decide (x8_1 ≤ x9_12) = true := decide_eq_true c43
             clear c43
             by_cases c44 : x9_12 ≤ (t231.length : Int)
             ·rw [if_pos c44] at H
              have c44b0 := eq_true c44
              have c44b1 : decide (x9_12 ≤ (t231.length : Int)) = true := decide_eq_true c44
              clear c44
              obtain ⟨y257, hy257⟩ : ∃ y_ : List Int, y_ = ((t231.take (x9_12 : Int).toNat).drop (x8_1 : Int).toNat) := ⟨_, rfl⟩
              replace H : ((spec_l01Encode.f kj12 y257).bind fun t261 => (if x6_1.length < 3518437208883 then ((some (x6_1 ++ [(⟨t261, (x6_1.length : Int), x7_1, wrap64 (x7_1 + (t261.size : Int))⟩ : S43)] : List (S43))).bind fun y262 => (if (y262.length : Int) > 8192 then (some ((([] : List (S43))), 11)) else (spec_Break.l0 kj12 t231 y262 (wrap64 (x7_1 + (t261.size : Int))) x9_12))) else (none))) = some (r1, r2) := by first | (rw [hy257]; with_reducible exact H) | (have H2_ := (uk _ _).symm.trans H; rw [hy257]; with_reducible exact H2_) | (have H2_ := (uk _ _).symm.trans H; with_reducible exact H2_) | with_reducible exact H | (rw [hy257]; exact H) | exact H
              have Ny257 := zu.mk hy257
              clear hy257
              replace H := ue.mp H
              obtain ⟨t261, A450, H⟩ := H
              replace H : (if x6_1.length < 3518437208883 then ((some (x6_1 ++ [(⟨t261, (x6_1.length : Int), x7_1, wrap64 (x7_1 + (t261.size : Int))⟩ : S43)] : List (S43))).bind fun y262 => (if (y262.length : Int) > 8192 then (some ((([] : List (S43))), 11)) else (spec_Break.l0 kj12 t231 y262 (wrap64 (x7_1 + (t261.size : Int))) x9_12))) else (none)) = some (r1, r2) := H
              have A45 := zu.mk A450
              clear A450
              by_cases c46 : x6_1.length < 3518437208883
              ·rw [if_pos c46] at H
               have LMc46 := zu.mk c46
               clear c46
               obtain ⟨y262, hy262⟩ : ∃ y_ : List (S43), y_ = (x6_1 ++ [(⟨t261, (x6_1.length : Int), x7_1, wrap64 (x7_1 + (t261.size : Int))⟩ : S43)]) := ⟨_, rfl⟩
               replace H : (if (y262.length : Int) > 8192 then (some ((([] : List (S43))), 11)) else (spec_Break.l0 kj12 t231 y262 (wrap64 (x7_1 + (t261.size : Int))) x9_12)) = some (r1, r2) := by first | (rw [hy262]; with_reducible exact H) | (have H2_ := (uk _ _).symm.trans H; rw [hy262]; with_reducible exact H2_) | (have H2_ := (uk _ _).symm.trans H; with_reducible exact H2_) | with_reducible exact H | (rw [hy262]; exact H) | exact H
               have Ny262 := zu.mk hy262
               clear hy262
               by_cases c47 : (y262.length : Int) > 8192
               ·rw [if_pos c47] at H
                have c47b0 : decide (8192 < (y262.length : Int)) = true := decide_eq_true c47
                have c47b1 : decide (8192 < y262.length) = true := decide_eq_true (by omega)
                clear c47
                obtain ⟨y265, hy265⟩ : ∃ y_ : List (S43), y_ = (([] : List (S43))) := ⟨_, rfl⟩
                replace H : (some (y265, 11)) = some (r1, r2) := by first | (rw [hy265]; with_reducible exact H) | (have H2_ := (uk _ _).symm.trans H; rw [hy265]; with_reducible exact H2_) | (have H2_ := (uk _ _).symm.trans H; with_reducible exact H2_) | with_reducible exact H | (rw [hy265]; exact H) | exact H
                have Ny265 := zu.mk hy265
                clear hy265
                simp only [Option.some.injEq, Prod.mk.injEq] at H
                obtain ⟨rfl, rfl⟩ := H
                have q48 : (x9_12 : Int) ≤ ((t231.length : Int) : Int) := of_decide_eq_true (by first | (with_reducible assumption) | assumption)
                obtain ⟨i048, hi048, _, hsz48, _⟩ := info_parts info3
                have hroom48 : t231.length ≤ co11 := (Kd.R_reads' HO_4.out).2.1
                have hC48 : Kd.C (Kd.int .i64) _ (some ad241) t231.length t231 := (Kd.R_reads' HO_4.out).2.2
                have ql48 : (x8_1 : Int) ≤ (x9_12 : Int) := of_decide_eq_true (by first | (with_reducible assumption) | assumption)
                have q048 : (0 : Int) ≤ (x8_1 : Int) := of_decide_eq_true (by first | (with_reducible assumption) | assumption)
                have hcut48 := cut_mid (P := Tryd.prog) 36 3 .i64 .i64 Tryd.underlying36 hi048 1 hsz48 (some ad241) t231.length co11 x8_1 x9_12 q048 ql48 q48 hroom48
                have hr48 := Kd.C_mid (lo := (x8_1 : Int).toNat) (hi := (x9_12 : Int).toNat) (c := co11) hC48 (by omega) (by omega) hroom48
                obtain ⟨A48, hA48⟩ : ∃ A1, A1 = (if co11 = (x8_1 : Int).toNat then (some ad241) else ((some ad241) : Option Addr).map (·.add ((x8_1 : Int).toNat * 1))) := ⟨_, rfl⟩
                obtain ⟨c48, hc48⟩ : ∃ c1, c1 = co11 - (x8_1 : Int).toNat := ⟨_, rfl⟩
                have hy48 : y257.length = (x9_12 : Int).toNat - (x8_1 : Int).toNat := (by rw [Ny257.out, uf, ug] <;> omega)
                rw [show ((t231).take (x9_12 : Int).toNat).drop (x8_1 : Int).toNat = y257 from Ny257.out.symm] at hr48
                replace hr48 : Kd.C (Kd.int .i64) _ A48 y257.length y257 := (by rw [hA48]; exact hr48)
                rw [← hy48, ← hA48, ← hc48] at hcut48
                have HR260 := zu.mk hr48
                have HC260 := zu.mk (show y257.length ≤ c48 from by rw [hy48, hc48]; exact Nat.sub_le_sub_right (Nat.le_trans (by omega) hroom48) _)
                clear hr48 hC48 hroom48 hi048 hsz48 hc48
                have KY48 := zu.mk hy48
                have KA48 := zu.mk hA48
                clear hy48 hA48
                have KL48 := zu.mk (show (x9_12 : Int).toNat ≤ t231.length from by omega)
                have KM48 := zu.mk (show (x8_1 : Int).toNat ≤ (x9_12 : Int).toNat from by omega)
                replace q48 := eq_true q48
                go_wp2_with (first | ((with_reducible refine zm (f := 37) rfl ?_); refine goesL_ (some 113) rfl rfl Tryd.func37 (by kernel_rfl) rfl #[.slice A48 y257.length c48] rfl (by (try simp only [uh, ui, uj]); first | done | rfl | (simp only [uf, ug]; rfl)) ?_; (with_reducible refine (spec_l01Encode.calls kj12 _ _ y257 t261 _ ?side1 ?side2 A45.out).mono ?_); (case side1 => repeat (first | exact y8 | (with_reducible refine Kd.C_alloc ?_ _) | (with_reducible refine Kd.C_drewN ?_ _) | (with_reducible refine Kd.C_drew ?_))); (case side2 => exact HC260.out); rintro e w49 ⟨rfl, hb⟩; refine ⟨_, rfl, ?_⟩; have n0_ := zu.mk (Kd.R_below y2 hb); have n1_ := zu.mk (Kd.R_below y3 hb); have n2_ := zu.mk (Kd.C_below y8 hb); have n3_ := zu.mk (ze y0 hb); clear HO_4; clear HO_6; clear HR260; clear HB; have HO_4 := n0_; have HO_6 := n1_; have HR260 := n2_; have HB := n3_; clear n0_ n1_ n2_ n3_; (try clear hb); (try clear hb2); (try clear hk); (try clear hi); obtain ⟨Ao50, co50, eo50⟩ := Kd.R_slice HO_6.out; subst eo50) | ((with_reducible refine zo (b := .append) (xs := #[.tmp 114, .tmp 124]) rfl ?_); (try (refine zq (by rfl) ?_; dsimp only)); at_builtin; refine Kd.R_append k43 (w0 := w) w.heap.size rfl (.tmp 114) (.tmp 124) 28 43 (.agg #[(.string ⟨#[]⟩), (.int .i64 0), (.int .i64 0), (.int .i64 0)]) 40 rfl Tryd.underlying28 info43 rfl (by decide) (by omega) (.slice Ao50 x6_1.length co50) x6_1 (⟨t261, (x6_1.length : Int), x7_1, wrap64 (x7_1 + (t261.size : Int))⟩ : S43) [.string t261, .int .i64 (x6_1.length : Int), .int .i64 x7_1, .int .i64 (wrap64 (x7_1 + (t261.size : Int)))] (fun _ => True) (fun _ => False) rfl rfl ?aP (fun _ hk => hk.elim) ?aF ?aO ?aB ?aS ?aL ?_; (case aP => exact k43_mkM _ _ _ (⟨t261, (x6_1.length : Int), x7_1, wrap64 (x7_1 + (t261.size : Int))⟩ : S43)); (case aB => exact y0); (case aF => exact (fun _ _ => trivial)); (case aO => exact y3); (case aS => exact (zg y0)); (case aL => have := LMc46.out; omega); intro v263 w51 ho hb hg hat; rw [← Ny262.out] at ho; have n0_ := zu.mk (Kd.R_over' y2 (Kd.R_typed y3) (by decide) hg); have n1_ := zu.mk (hb); have n2_ := zu.mk ((show Kd.C (Kd.int .i64) w51 A48 y257.length y257 from by rw [Ny257.out, KA48.out]; exact Kd.C_mid (lo := (x8_1 : Int).toNat) (hi := (x9_12 : Int).toNat) (c := co11) ((Kd.R_reads' (Kd.R_over' y2 (Kd.R_typed y3) (by decide) hg)).2.2) KM48.out KL48.out ((Kd.R_reads' (Kd.R_over' y2 (Kd.R_typed y3) (by decide) hg)).2.1))); have n3_ := zu.mk (ho); clear HO_4; clear HB; clear HR260; clear HO_6; have HO_4 := n0_; have HB := n1_; have HR260 := n2_; have HO264 := n3_; clear n0_ n1_ n2_ n3_; clear ho hb hg hat; obtain ⟨Ao52, co52, eo52⟩ := Kd.R_slice HO264.out; subst eo52) | ((with_reducible refine zn (N := 129) rfl ?_); (try (refine zq (by rfl) ?_; dsimp only)); refine Kd.R_lit k43 _ 43 ?hg (N := 129) ?hd (xs := ([] : List (S43))) (inner := []) (ok := fun _ => True) (okp := fun _ => True) ?hr ?hp (fun _ hk => hk) trivial (Below.refl _ _) (um _) (by simp) ?_; (case hd => rfl); (case hg => rfl); (case hr => first | (go_simp; done) | (go_simp; rfl)); (case hp => exact (Reps.none _ _)); intro v266 w53 ho54 hb hg_ hnew_; clear hg_ hnew_; (first | rw [← Ny265.out] at ho54 | (simp only [Int.reduceToNat] at ho54; rw [← Ny265.out] at ho54)); have n0_ := zu.mk (Kd.R_below y2 hb); have n1_ := zu.mk (Kd.R_elder' yd (Kd.R_base ho54) hb); have n2_ := zu.mk (Kd.R_lower (Kd.R_new' ho54 (Kd.R_lt yd)) (zg y0)); have n3_ := zu.mk (Kd.C_below y8 hb); have n4_ := zu.mk (ze y0 hb); clear HO_4; clear HO264; clear HR260; clear HB; have HO_4 := n0_; have HO264 := n1_; have HO267 := n2_; have HR260 := n3_; have HB := n4_; clear n0_ n1_ n2_ n3_ n4_; clear hb ho54))
                go_ret2
                exact ⟨_, by first | rfl | (simp [zj, zi] <;> rfl) | (simp [*, zj, zi] <;> rfl), by (with_reducible repeat (first | apply Kd.R_alloc | apply Kd.R_drewN | apply Kd.R_drew)); exact Kd.R_mono HO267.out (fun _ hk => trivial), y0⟩
               ·rw [if_neg c47] at H
                have c47b0 : decide (8192 < (y262.length : Int)) = false := decide_eq_false c47
                have c47b1 : decide (8192 < y262.length) = false := decide_eq_false (by omega)
                clear c47
                have H' := zu.mk H
                clear H
                have q55 : (x9_12 : Int) ≤ ((t231.length : Int) : Int) := of_decide_eq_true (by first | (with_reducible assumption) | assumption)
                obtain ⟨i055, hi055, _, hsz55, _⟩ := info_parts info3
                have hroom55 : t231.length ≤ co11 := (Kd.R_reads' HO_4.out).2.1
                have hC55 : Kd.C (Kd.int .i64) _ (some ad241) t231.length t231 := (Kd.R_reads' HO_4.out).2.2
                have ql55 : (x8_1 : Int) ≤ (x9_12 : Int) := of_decide_eq_true (by first | (with_reducible assumption) | assumption)
                have q055 : (0 : Int) ≤ (x8_1 : Int) := of_decide_eq_true (by first | (with_reducible assumption) | assumption)
                have hcut55 := cut_mid (P := Tryd.prog) 36 3 .i64 .i64 Tryd.underlying36 hi055 1 hsz55 (some ad241) t231.length co11 x8_1 x9_12 q055 ql55 q55 hroom55
                have hr55 := Kd.C_mid (lo := (x8_1 : Int).toNat) (hi := (x9_12 : Int).toNat) (c := co11) hC55 (by omega) (by omega) hroom55
                obtain ⟨A55, hA55⟩ : ∃ A1, A1 = (if co11 = (x8_1 : Int).toNat then (some ad241) else ((some ad241) : Option Addr).map (·.add ((x8_1 : Int).toNat * 1))) := ⟨_, rfl⟩
                obtain ⟨c55, hc55⟩ : ∃ c1, c1 = co11 - (x8_1 : Int).toNat := ⟨_, rfl⟩
                have hy55 : y257.length = (x9_12 : Int).toNat - (x8_1 : Int).toNat := (by rw [Ny257.out, uf, ug] <;> omega)
                rw [show ((t231).take (x9_12 : Int).toNat).drop (x8_1 : Int).toNat = y257 from Ny257.out.symm] at hr55
                replace hr55 : Kd.C (Kd.int .i64) _ A55 y257.length y257 := (by rw [hA55]; exact hr55)
                rw [← hy55, ← hA55, ← hc55] at hcut55
                have HR260 := zu.mk hr55
                have HC260 := zu.mk (show y257.length ≤ c55 from by rw [hy55, hc55]; exact Nat.sub_le_sub_right (Nat.le_trans (by omega) hroom55) _)
                clear hr55 hC55 hroom55 hi055 hsz55 hc55
                have KY55 := zu.mk hy55
                have KA55 := zu.mk hA55
                clear hy55 hA55
                have KL55 := zu.mk (show (x9_12 : Int).toNat ≤ t231.length from by omega)
                have KM55 := zu.mk (show (x8_1 : Int).toNat ≤ (x9_12 : Int).toNat from by omega)
                replace q55 := eq_true q55
                go_wp2_with (first | ((with_reducible refine zm (f := 37) rfl ?_); refine goesL_ (some 113) rfl rfl Tryd.func37 (by kernel_rfl) rfl #[.slice A55 y257.length c55] rfl (by (try simp only [uh, ui, uj]); first | done | rfl | (simp only [uf, ug]; rfl)) ?_; (with_reducible refine (spec_l01Encode.calls kj12 _ _ y257 t261 _ ?side1 ?side2 A45.out).mono ?_); (case side1 => repeat (first | exact y8 | (with_reducible refine Kd.C_alloc ?_ _) | (with_reducible refine Kd.C_drewN ?_ _) | (with_reducible refine Kd.C_drew ?_))); (case side2 => exact HC260.out); rintro e w56 ⟨rfl, hb⟩; refine ⟨_, rfl, ?_⟩; have n0_ := zu.mk (Kd.R_below y2 hb); have n1_ := zu.mk (Kd.R_below y3 hb); have n2_ := zu.mk (Kd.C_below y8 hb); have n3_ := zu.mk (ze y0 hb); clear HO_4; clear HO_6; clear HR260; clear HB; have HO_4 := n0_; have HO_6 := n1_; have HR260 := n2_; have HB := n3_; clear n0_ n1_ n2_ n3_; (try clear hb); (try clear hb2); (try clear hk); (try clear hi); obtain ⟨Ao57, co57, eo57⟩ := Kd.R_slice HO_6.out; subst eo57) | ((with_reducible refine zo (b := .append) (xs := #[.tmp 114, .tmp 124]) rfl ?_); (try (refine zq (by rfl) ?_; dsimp only)); at_builtin; refine Kd.R_append k43 (w0 := w) w.heap.size rfl (.tmp 114) (.tmp 124) 28 43 (.agg #[(.string ⟨#[]⟩), (.int .i64 0), (.int .i64 0), (.int .i64 0)]) 40 rfl Tryd.underlying28 info43 rfl (by decide) (by omega) (.slice Ao57 x6_1.length co57) x6_1 (⟨t261, (x6_1.length : Int), x7_1, wrap64 (x7_1 + (t261.size : Int))⟩ : S43) [.string t261, .int .i64 (x6_1.length : Int), .int .i64 x7_1, .int .i64 (wrap64 (x7_1 + (t261.size : Int)))] (fun _ => True) (fun _ => False) rfl rfl ?aP (fun _ hk => hk.elim) ?aF ?aO ?aB ?aS ?aL ?_; (case aP => exact k43_mkM _ _ _ (⟨t261, (x6_1.length : Int), x7_1, wrap64 (x7_1 + (t261.size : Int))⟩ : S43)); (case aB => exact y0); (case aF => exact (fun _ _ => trivial)); (case aO => exact y3); (case aS => exact (zg y0)); (case aL => have := LMc46.out; omega); intro v263 w58 ho hb hg hat; rw [← Ny262.out] at ho; have n0_ := zu.mk (Kd.R_over' y2 (Kd.R_typed y3) (by decide) hg); have n1_ := zu.mk (hb); have n2_ := zu.mk ((show Kd.C (Kd.int .i64) w58 A55 y257.length y257 from by rw [Ny257.out, KA55.out]; exact Kd.C_mid (lo := (x8_1 : Int).toNat) (hi := (x9_12 : Int).toNat) (c := co11) ((Kd.R_reads' (Kd.R_over' y2 (Kd.R_typed y3) (by decide) hg)).2.2) KM55.out KL55.out ((Kd.R_reads' (Kd.R_over' y2 (Kd.R_typed y3) (by decide) hg)).2.1))); have n3_ := zu.mk (ho); clear HO_4; clear HB; clear HR260; clear HO_6; have HO_4 := n0_; have HB := n1_; have HR260 := n2_; have HO264 := n3_; clear n0_ n1_ n2_ n3_; clear ho hb hg hat; obtain ⟨Ao59, co59, eo59⟩ := Kd.R_slice HO264.out; subst eo59))
                go_roundg kj12
                case measure => have := HK1.out; have := HJ9.out; have := HJ12.out; omega
                case rel => exact ⟨(y262), (wrap64 (x7_1 + (t261.size : Int))), (x9_12), (by first | rfl | (simp; done) | (simp [*]; done)), (by first | rfl | (simp; done) | (simp [*]; done)), H', ⟨by have := HK1.out; have := HJ9.out; have := HJ12.out; omega⟩, ⟨y2⟩, ⟨yd⟩, ⟨y0⟩⟩
              ·rw [if_neg c46] at H
               exact absurd H (by simp)
             ·rw [if_neg c44] at H
              exact absurd H (by simp)
            ·rw [if_neg c43] at H
             exact absurd H (by simp)
           ·rw [if_neg c42] at H
            exact absurd H (by simp)
     ·rw [if_neg c8] at H
      exact absurd H (by simp)
    ·rw [if_neg c7] at H
     have c7b0 : decide (x8_1 < (t231.length : Int)) = false := decide_eq_false c7
     clear c7
     simp only [Option.some.injEq, Prod.mk.injEq] at H
     obtain ⟨rfl, rfl⟩ := H
     obtain ⟨Ao60, co60, eo60⟩ := Kd.R_slice HO_4.out
     subst eo60
     go_wp2
     go_ret2
     exact ⟨_, by first | rfl | (simp [zj, zi] <;> rfl) | (simp [*, zj, zi] <;> rfl), y3, y0⟩
 ·rw [if_neg c3] at H
  have c3b0 : (t232 == 0) = false := beq_eq_false_iff_ne.mpr c3
  have c3b1 : (t232 != 0) = true := bne_iff_ne.mpr c3
  obtain ⟨y235, hy235⟩ : ∃ y_ : List (S43), y_ = (([] : List (S43))) := ⟨_, rfl⟩
  replace H : (some (y235, t232)) = some (r1, r2) := by first | (rw [hy235]; with_reducible exact H) | (have H2_ := (uk _ _).symm.trans H; rw [hy235]; with_reducible exact H2_) | (have H2_ := (uk _ _).symm.trans H; with_reducible exact H2_) | with_reducible exact H | (rw [hy235]; exact H) | exact H
  have Ny235 := zu.mk hy235
  clear hy235
  simp only [Option.some.injEq, Prod.mk.injEq] at H
  obtain ⟨rfl, rfl⟩ := H
  go_enter Tryd.func14, Tryd.ntmps14
  go_wp2_with (first | ((with_reducible refine zm (f := 21) rfl ?_); refine goesL_ (some 13) rfl rfl Tryd.func21 (by kernel_rfl) rfl #[.string a0] rfl (by (try simp only [uh, ui, uj]); first | done | rfl | (simp only [uf, ug]; rfl)) ?_; (with_reducible refine (spec_Decode.calls k a0 t231 t232 _ A2.out).mono ?_); rintro e w61 ⟨v233, rfl, ho0, hb⟩; refine ⟨_, rfl, ?_⟩; have n0_ := zu.mk (Kd.R_lower ho0 (zg y0)); have n1_ := zu.mk (ze y0 hb); clear HB; have HO234 := n0_; have HB := n1_; clear n0_ n1_; (try clear hb); (try clear hb2); (try clear hk); (try clear hi); (try clear ho0)) | ((with_reducible refine zn (N := 18) rfl ?_); (try (refine zq (by rfl) ?_; dsimp only)); refine Kd.R_lit k43 _ 43 ?hg (N := 18) ?hd (xs := ([] : List (S43))) (inner := []) (ok := fun _ => True) (okp := fun _ => True) ?hr ?hp (fun _ hk => hk) trivial (Below.refl _ _) (um _) (by simp) ?_; (case hd => rfl); (case hg => rfl); (case hr => first | (go_simp; done) | (go_simp; rfl)); (case hp => exact (Reps.none _ _)); intro v236 w62 ho63 hb hg_ hnew_; clear hg_ hnew_; (first | rw [← Ny235.out] at ho63 | (simp only [Int.reduceToNat] at ho63; rw [← Ny235.out] at ho63)); have n0_ := zu.mk (Kd.R_below yc hb); have n1_ := zu.mk (Kd.R_lower ho63 (zg y0)); have n2_ := zu.mk (ze y0 hb); clear HO234; clear HB; have HO234 := n0_; have HO237 := n1_; have HB := n2_; clear n0_ n1_ n2_; clear hb ho63))
  go_ret2
  exact ⟨_, by first | rfl | (simp [zj, zi] <;> rfl) | (simp [*, zj, zi] <;> rfl), by (with_reducible repeat (first | apply Kd.R_alloc | apply Kd.R_drewN | apply Kd.R_drew)); exact HO237.out, y0⟩
def impl_within.f (a0 : Int) (a1 : Int) (a2 : Int) : Option (Bool) := if a0 ≥ a1 then (some (decide (a0 ≤ a2))) else (some false)
set_option maxHeartbeats 8000000 in
set_option maxRecDepth 100000 in
theorem impl_within.calls (a0 : Int) (a1 : Int) (a2 : Int) (r : Bool) (w : World) (h : impl_within.f a0 a1 a2 = some r) :
  Calls Tryd.prog 66 #[.int .i64 a0, .int .i64 a1, .int .i64 a2] w fun e w' => e = .returned (.bool r) ∧ Drawn0 w w' := by
 have H : (if a0 ≥ a1 then (some (decide (a0 ≤ a2))) else (some false)) = some r := h
 clear h
 by_cases c4 : a0 ≥ a1
 ·rw [if_pos c4] at H
  have c4b0 : decide (a1 ≤ a0) = true := decide_eq_true c4
  clear c4
  obtain rfl := Option.some.inj H
  go_enter Tryd.func66, Tryd.ntmps66
  go_wp2
  go_ret
  exact ⟨by first | rfl | (simp; done) | (simp [*]; done), y1⟩
 ·rw [if_neg c4] at H
  have c4b0 : decide (a1 ≤ a0) = false := decide_eq_false c4
  clear c4
  obtain rfl := Option.some.inj H
  go_enter Tryd.func66, Tryd.ntmps66
  go_wp2
  go_ret
  exact ⟨by first | rfl | (simp; done) | (simp [*]; done), y1⟩
mutual
def impl_Class.j0 : Nat → Int → Bool → Option (Int)
 | 0, _, _ => none
 | k + 1, x0, x3 => if x3 = true then (some 1) else ((impl_within.f x0 48 57).bind fun t274 => (if t274 = true then (some 2) else (if x0 = 39 then (impl_Class.j1 k x0 true) else (impl_Class.j1 k x0 (x0 == 95)))))
def impl_Class.j1 : Nat → Int → Bool → Option (Int)
 | 0, _, _ => none
 | k + 1, x0, x23 => if x23 = true then (some 3) else ((impl_within.f x0 12352 12543).bind fun t275 => (if t275 = true then (some 4) else ((impl_within.f x0 19968 40959).bind fun t276 => (if t276 = true then (some 4) else (some 0)))))
end
def impl_Class.f (k : Nat) (a0 : Int) : Option (Int) := (impl_within.f a0 65 90).bind fun t268 => (if t268 = true then (impl_Class.j0 k a0 t268) else ((impl_within.f a0 97 122).bind fun t269 => (if t269 = true then (impl_Class.j0 k a0 t269) else ((impl_within.f a0 192 591).bind fun t270 => (if t270 = true then (if a0 = 215 then ((impl_within.f a0 880 1279).bind fun t271 => (impl_Class.j0 k a0 t271)) else (if a0 = 247 then ((impl_within.f a0 880 1279).bind fun t272 => (impl_Class.j0 k a0 t272)) else (impl_Class.j0 k a0 (a0 != 247)))) else ((impl_within.f a0 880 1279).bind fun t273 => (impl_Class.j0 k a0 t273)))))))
set_option maxHeartbeats 8000000 in
set_option maxRecDepth 100000 in
theorem impl_Class.calls (k : Nat) (a0 : Int) (r : Int) (w : World) (h : impl_Class.f k a0 = some r) :
  Calls Tryd.prog 47 #[.int .i64 a0] w fun e w' => e = .returned (.int .i64 r) ∧ Drawn0 w w' := by
 have H : ((impl_within.f a0 65 90).bind fun t268 => (if t268 = true then (impl_Class.j0 k a0 t268) else ((impl_within.f a0 97 122).bind fun t269 => (if t269 = true then (impl_Class.j0 k a0 t269) else ((impl_within.f a0 192 591).bind fun t270 => (if t270 = true then (if a0 = 215 then ((impl_within.f a0 880 1279).bind fun t271 => (impl_Class.j0 k a0 t271)) else (if a0 = 247 then ((impl_within.f a0 880 1279).bind fun t272 => (impl_Class.j0 k a0 t272)) else (impl_Class.j0 k a0 (a0 != 247)))) else ((impl_within.f a0 880 1279).bind fun t273 => (impl_Class.j0 k a0 t273)))))))) = some r := h
 clear h
 replace H := ue.mp H
 obtain ⟨t268, A20, H⟩ := H
 replace H : (if t268 = true then (impl_Class.j0 k a0 t268) else ((impl_within.f a0 97 122).bind fun t269 => (if t269 = true then (impl_Class.j0 k a0 t269) else ((impl_within.f a0 192 591).bind fun t270 => (if t270 = true then (if a0 = 215 then ((impl_within.f a0 880 1279).bind fun t271 => (impl_Class.j0 k a0 t271)) else (if a0 = 247 then ((impl_within.f a0 880 1279).bind fun t272 => (impl_Class.j0 k a0 t272)) else (impl_Class.j0 k a0 (a0 != 247)))) else ((impl_within.f a0 880 1279).bind fun t273 => (impl_Class.j0 k a0 t273))))))) = some r := H
 have A2 := zu.mk A20
 clear A20
 have HC3 := zu.mk H
 clear H
 go_enter Tryd.func47, Tryd.ntmps47
 go_upto_if 3 with (first | ((with_reducible refine zm (f := 66) rfl ?_); refine goesL_ (some 5) rfl rfl Tryd.func66 (by kernel_rfl) rfl #[.int .i64 a0, .int .i64 65, .int .i64 90] rfl (by (try simp only [uh, ui, uj]); first | done | rfl | (simp only [uf, ug]; rfl)) ?_; (with_reducible refine (impl_within.calls a0 65 90 t268 _ A2.out).mono ?_); rintro e w' ⟨rfl, ⟨nd, rfl⟩⟩; refine ⟨_, rfl, ?_⟩))
 (try simp only [Act.put, ub, uc, ud])
 go_cut [3] (fun v3 wc => ∃ (kq : Nat) (x3_2 : Bool), v3 = .bool x3_2 ∧ zu (impl_Class.j0 kq a0 x3_2 = some r) ∧ zu (kq ≤ k) ∧ Drawn0 w wc)
 case first =>
  have H := HC3.out
  clear HC3
  by_cases c4 : t268 = true
  ·subst c4
   have H1 : (impl_Class.j0 k a0 true) = some r := by rw [if_pos rfl] at H; exact H
   clear H
   have H := H1
   clear H1
   have H' := zu.mk H
   clear H
   go_wp2
   go_meet
   case rel => exact ⟨_, (true), (by first | rfl | (simp; done) | (simp [*]; done)), H', ⟨by first | omega | exact um _⟩, y1⟩
  ·replace c4 := Bool.eq_false_iff.mpr c4
   subst c4
   have H1 : ((impl_within.f a0 97 122).bind fun t269 => (if t269 = true then (impl_Class.j0 k a0 t269) else ((impl_within.f a0 192 591).bind fun t270 => (if t270 = true then (if a0 = 215 then ((impl_within.f a0 880 1279).bind fun t271 => (impl_Class.j0 k a0 t271)) else (if a0 = 247 then ((impl_within.f a0 880 1279).bind fun t272 => (impl_Class.j0 k a0 t272)) else (impl_Class.j0 k a0 (a0 != 247)))) else ((impl_within.f a0 880 1279).bind fun t273 => (impl_Class.j0 k a0 t273)))))) = some r := by rw [if_neg (show ¬ (false = true) by decide)] at H; exact H
   clear H
   have H := H1
   clear H1
   replace H := ue.mp H
   obtain ⟨t269, A50, H⟩ := H
   replace H : (if t269 = true then (impl_Class.j0 k a0 t269) else ((impl_within.f a0 192 591).bind fun t270 => (if t270 = true then (if a0 = 215 then ((impl_within.f a0 880 1279).bind fun t271 => (impl_Class.j0 k a0 t271)) else (if a0 = 247 then ((impl_within.f a0 880 1279).bind fun t272 => (impl_Class.j0 k a0 t272)) else (impl_Class.j0 k a0 (a0 != 247)))) else ((impl_within.f a0 880 1279).bind fun t273 => (impl_Class.j0 k a0 t273))))) = some r := H
   have A5 := zu.mk A50
   clear A50
   by_cases c6 : t269 = true
   ·subst c6
    have H1 : (impl_Class.j0 k a0 true) = some r := by rw [if_pos rfl] at H; exact H
    clear H
    have H := H1
    clear H1
    have H' := zu.mk H
    clear H
    go_wp2_with (first | ((with_reducible refine zm (f := 66) rfl ?_); refine goesL_ (some 7) rfl rfl Tryd.func66 (by kernel_rfl) rfl #[.int .i64 a0, .int .i64 97, .int .i64 122] rfl (by (try simp only [uh, ui, uj]); first | done | rfl | (simp only [uf, ug]; rfl)) ?_; (with_reducible refine (impl_within.calls a0 97 122 true _ A5.out).mono ?_); rintro e w' ⟨rfl, ⟨nd, rfl⟩⟩; refine ⟨_, rfl, ?_⟩))
    go_meet
    case rel => exact ⟨_, (true), (by first | rfl | (simp; done) | (simp [*]; done)), H', ⟨by first | omega | exact um _⟩, y1⟩
   ·replace c6 := Bool.eq_false_iff.mpr c6
    subst c6
    have H1 : ((impl_within.f a0 192 591).bind fun t270 => (if t270 = true then (if a0 = 215 then ((impl_within.f a0 880 1279).bind fun t271 => (impl_Class.j0 k a0 t271)) else (if a0 = 247 then ((impl_within.f a0 880 1279).bind fun t272 => (impl_Class.j0 k a0 t272)) else (impl_Class.j0 k a0 (a0 != 247)))) else ((impl_within.f a0 880 1279).bind fun t273 => (impl_Class.j0 k a0 t273)))) = some r := by rw [if_neg (show ¬ (false = true) by decide)] at H; exact H
    clear H
    have H := H1
    clear H1
    replace H := ue.mp H
    obtain ⟨t270, A70, H⟩ := H
    replace H : (if t270 = true then (if a0 = 215 then ((impl_within.f a0 880 1279).bind fun t271 => (impl_Class.j0 k a0 t271)) else (if a0 = 247 then ((impl_within.f a0 880 1279).bind fun t272 => (impl_Class.j0 k a0 t272)) else (impl_Class.j0 k a0 (a0 != 247)))) else ((impl_within.f a0 880 1279).bind fun t273 => (impl_Class.j0 k a0 t273))) = some r := H
    have A7 := zu.mk A70
    clear A70
    by_cases c8 : t270 = true
    ·subst c8
     have H1 : (if a0 = 215 then ((impl_within.f a0 880 1279).bind fun t271 => (impl_Class.j0 k a0 t271)) else (if a0 = 247 then ((impl_within.f a0 880 1279).bind fun t272 => (impl_Class.j0 k a0 t272)) else (impl_Class.j0 k a0 (a0 != 247)))) = some r := by rw [if_pos rfl] at H; exact H
     clear H
     have H := H1
     clear H1
     by_cases c9 : a0 = 215
     ·rw [if_pos c9] at H
      have c9b0 : (a0 == 215) = true := beq_iff_eq.mpr c9
      have c9b1 : (a0 != 215) = false := bne_eq_false_iff_eq.mpr c9
      clear c9
      (first | rw [c9b0] | (simp only [zk, zl]; rw [c9b0]) | skip)
      replace H := ue.mp H
      obtain ⟨t271, A100, H⟩ := H
      replace H : (impl_Class.j0 k a0 t271) = some r := H
      have A10 := zu.mk A100
      clear A100
      have H' := zu.mk H
      clear H
      go_wp2_with (first | ((with_reducible refine zm (f := 66) rfl ?_); refine goesL_ (some 7) rfl rfl Tryd.func66 (by kernel_rfl) rfl #[.int .i64 a0, .int .i64 97, .int .i64 122] rfl (by (try simp only [uh, ui, uj]); first | done | rfl | (simp only [uf, ug]; rfl)) ?_; (with_reducible refine (impl_within.calls a0 97 122 false _ A5.out).mono ?_); rintro e w' ⟨rfl, ⟨nd, rfl⟩⟩; refine ⟨_, rfl, ?_⟩) | ((with_reducible refine zm (f := 66) rfl ?_); refine goesL_ (some 9) rfl rfl Tryd.func66 (by kernel_rfl) rfl #[.int .i64 a0, .int .i64 192, .int .i64 591] rfl (by (try simp only [uh, ui, uj]); first | done | rfl | (simp only [uf, ug]; rfl)) ?_; (with_reducible refine (impl_within.calls a0 192 591 true _ A7.out).mono ?_); rintro e w' ⟨rfl, ⟨nd, rfl⟩⟩; refine ⟨_, rfl, ?_⟩) | ((with_reducible refine zm (f := 66) rfl ?_); refine goesL_ (some 19) rfl rfl Tryd.func66 (by kernel_rfl) rfl #[.int .i64 a0, .int .i64 880, .int .i64 1279] rfl (by (try simp only [uh, ui, uj]); first | done | rfl | (simp only [uf, ug]; rfl)) ?_; (with_reducible refine (impl_within.calls a0 880 1279 t271 _ A10.out).mono ?_); rintro e w' ⟨rfl, ⟨nd, rfl⟩⟩; refine ⟨_, rfl, ?_⟩))
      go_meet
      case rel => exact ⟨_, (t271), (by first | rfl | (simp; done) | (simp [*]; done)), H', ⟨by first | omega | exact um _⟩, y1⟩
     ·rw [if_neg c9] at H
      have c9b0 : (a0 == 215) = false := beq_eq_false_iff_ne.mpr c9
      have c9b1 : (a0 != 215) = true := bne_iff_ne.mpr c9
      (first | rw [c9b0] | (simp only [zk, zl]; rw [c9b0]) | skip)
      by_cases c11 : a0 = 247
      ·rw [if_pos c11] at H
       have c11b0 : (a0 == 247) = true := beq_iff_eq.mpr c11
       have c11b1 : (a0 != 247) = false := bne_eq_false_iff_eq.mpr c11
       clear c11
       replace H := ue.mp H
       obtain ⟨t272, A120, H⟩ := H
       replace H : (impl_Class.j0 k a0 t272) = some r := H
       have A12 := zu.mk A120
       clear A120
       have H' := zu.mk H
       clear H
       go_wp2_with (first | ((with_reducible refine zm (f := 66) rfl ?_); refine goesL_ (some 7) rfl rfl Tryd.func66 (by kernel_rfl) rfl #[.int .i64 a0, .int .i64 97, .int .i64 122] rfl (by (try simp only [uh, ui, uj]); first | done | rfl | (simp only [uf, ug]; rfl)) ?_; (with_reducible refine (impl_within.calls a0 97 122 false _ A5.out).mono ?_); rintro e w' ⟨rfl, ⟨nd, rfl⟩⟩; refine ⟨_, rfl, ?_⟩) | ((with_reducible refine zm (f := 66) rfl ?_); refine goesL_ (some 9) rfl rfl Tryd.func66 (by kernel_rfl) rfl #[.int .i64 a0, .int .i64 192, .int .i64 591] rfl (by (try simp only [uh, ui, uj]); first | done | rfl | (simp only [uf, ug]; rfl)) ?_; (with_reducible refine (impl_within.calls a0 192 591 true _ A7.out).mono ?_); rintro e w' ⟨rfl, ⟨nd, rfl⟩⟩; refine ⟨_, rfl, ?_⟩) | ((with_reducible refine zm (f := 66) rfl ?_); refine goesL_ (some 19) rfl rfl Tryd.func66 (by kernel_rfl) rfl #[.int .i64 a0, .int .i64 880, .int .i64 1279] rfl (by (try simp only [uh, ui, uj]); first | done | rfl | (simp only [uf, ug]; rfl)) ?_; (with_reducible refine (impl_within.calls a0 880 1279 t272 _ A12.out).mono ?_); rintro e w' ⟨rfl, ⟨nd, rfl⟩⟩; refine ⟨_, rfl, ?_⟩))
       go_meet
       case rel => exact ⟨_, (t272), (by first | rfl | (simp; done) | (simp [*]; done)), H', ⟨by first | omega | exact um _⟩, y1⟩
      ·rw [if_neg c11] at H
       have c11b0 : (a0 == 247) = false := beq_eq_false_iff_ne.mpr c11
       have c11b1 : (a0 != 247) = true := bne_iff_ne.mpr c11
       have H' := zu.mk H
       clear H
       go_wp2_with (first | ((with_reducible refine zm (f := 66) rfl ?_); refine goesL_ (some 7) rfl rfl Tryd.func66 (by kernel_rfl) rfl #[.int .i64 a0, .int .i64 97, .int .i64 122] rfl (by (try simp only [uh, ui, uj]); first | done | rfl | (simp only [uf, ug]; rfl)) ?_; (with_reducible refine (impl_within.calls a0 97 122 false _ A5.out).mono ?_); rintro e w' ⟨rfl, ⟨nd, rfl⟩⟩; refine ⟨_, rfl, ?_⟩) | ((with_reducible refine zm (f := 66) rfl ?_); refine goesL_ (some 9) rfl rfl Tryd.func66 (by kernel_rfl) rfl #[.int .i64 a0, .int .i64 192, .int .i64 591] rfl (by (try simp only [uh, ui, uj]); first | done | rfl | (simp only [uf, ug]; rfl)) ?_; (with_reducible refine (impl_within.calls a0 192 591 true _ A7.out).mono ?_); rintro e w' ⟨rfl, ⟨nd, rfl⟩⟩; refine ⟨_, rfl, ?_⟩))
       go_meet
       case rel => exact ⟨_, ((a0 != 247)), (by first | rfl | (simp; done) | (simp [*]; done)), H', ⟨by first | omega | exact um _⟩, y1⟩
    ·replace c8 := Bool.eq_false_iff.mpr c8
     subst c8
     have H1 : ((impl_within.f a0 880 1279).bind fun t273 => (impl_Class.j0 k a0 t273)) = some r := by rw [if_neg (show ¬ (false = true) by decide)] at H; exact H
     clear H
     have H := H1
     clear H1
     replace H := ue.mp H
     obtain ⟨t273, A130, H⟩ := H
     replace H : (impl_Class.j0 k a0 t273) = some r := H
     have A13 := zu.mk A130
     clear A130
     have H' := zu.mk H
     clear H
     go_wp2_with (first | ((with_reducible refine zm (f := 66) rfl ?_); refine goesL_ (some 7) rfl rfl Tryd.func66 (by kernel_rfl) rfl #[.int .i64 a0, .int .i64 97, .int .i64 122] rfl (by (try simp only [uh, ui, uj]); first | done | rfl | (simp only [uf, ug]; rfl)) ?_; (with_reducible refine (impl_within.calls a0 97 122 false _ A5.out).mono ?_); rintro e w' ⟨rfl, ⟨nd, rfl⟩⟩; refine ⟨_, rfl, ?_⟩) | ((with_reducible refine zm (f := 66) rfl ?_); refine goesL_ (some 9) rfl rfl Tryd.func66 (by kernel_rfl) rfl #[.int .i64 a0, .int .i64 192, .int .i64 591] rfl (by (try simp only [uh, ui, uj]); first | done | rfl | (simp only [uf, ug]; rfl)) ?_; (with_reducible refine (impl_within.calls a0 192 591 false _ A7.out).mono ?_); rintro e w' ⟨rfl, ⟨nd, rfl⟩⟩; refine ⟨_, rfl, ?_⟩) | ((with_reducible refine zm (f := 66) rfl ?_); refine goesL_ (some 19) rfl rfl Tryd.func66 (by kernel_rfl) rfl #[.int .i64 a0, .int .i64 880, .int .i64 1279] rfl (by (try simp only [uh, ui, uj]); first | done | rfl | (simp only [uf, ug]; rfl)) ?_; (with_reducible refine (impl_within.calls a0 880 1279 t273 _ A13.out).mono ?_); rintro e w' ⟨rfl, ⟨nd, rfl⟩⟩; refine ⟨_, rfl, ?_⟩))
     go_meet
     case rel => exact ⟨_, (t273), (by first | rfl | (simp; done) | (simp [*]; done)), H', ⟨by first | omega | exact um _⟩, y1⟩
 case rest =>
  clear HC3
  try clear c1
  try clear p2
  try clear c4
  try clear c6
  try clear c8
  try clear c9
  try clear c9b0
  try clear c9b1
  try clear c11
  try clear c11b0
  try clear c11b1
  obtain ⟨kq, x3_2, rfl, HA, HJ2, ⟨mc2, rfl⟩⟩ := hcut
  cases kq with
  | zero => exact absurd HA.out (by simp [impl_Class.j0])
  | succ kj2 =>
   have H := HA.out
   clear HA
   simp only [impl_Class.j0] at H
   by_cases c14 : x3_2 = true
   ·subst c14
    have H1 : (some 1) = some r := by rw [if_pos rfl] at H; exact H
    clear H
    have H := H1
    clear H1
    obtain rfl := Option.some.inj H
    go_wp2
    go_ret
    exact ⟨by first | rfl | (simp; done) | (simp [*]; done), y1⟩
   ·replace c14 := Bool.eq_false_iff.mpr c14
    subst c14
    have H1 : ((impl_within.f a0 48 57).bind fun t274 => (if t274 = true then (some 2) else (if a0 = 39 then (impl_Class.j1 kj2 a0 true) else (impl_Class.j1 kj2 a0 (a0 == 95))))) = some r := by rw [if_neg (show ¬ (false = true) by decide)] at H; exact H
    clear H
    have H := H1
    clear H1
    replace H := ue.mp H
    obtain ⟨t274, A150, H⟩ := H
    replace H : (if t274 = true then (some 2) else (if a0 = 39 then (impl_Class.j1 kj2 a0 true) else (impl_Class.j1 kj2 a0 (a0 == 95)))) = some r := H
    have A15 := zu.mk A150
    clear A150
    by_cases c16 : t274 = true
    ·subst c16
     have H1 : (some 2) = some r := by rw [if_pos rfl] at H; exact H
     clear H
     have H := H1
     clear H1
     obtain rfl := Option.some.inj H
     go_wp2_with (first | ((with_reducible refine zm (f := 66) rfl ?_); refine goesL_ (some 22) rfl rfl Tryd.func66 (by kernel_rfl) rfl #[.int .i64 a0, .int .i64 48, .int .i64 57] rfl (by (try simp only [uh, ui, uj]); first | done | rfl | (simp only [uf, ug]; rfl)) ?_; (with_reducible refine (impl_within.calls a0 48 57 true _ A15.out).mono ?_); rintro e w' ⟨rfl, ⟨nd, rfl⟩⟩; refine ⟨_, rfl, ?_⟩))
     go_ret
     exact ⟨by first | rfl | (simp; done) | (simp [*]; done), y1⟩
    ·replace c16 := Bool.eq_false_iff.mpr c16
     subst c16
     have H1 : (if a0 = 39 then (impl_Class.j1 kj2 a0 true) else (impl_Class.j1 kj2 a0 (a0 == 95))) = some r := by rw [if_neg (show ¬ (false = true) by decide)] at H; exact H
     clear H
     have H := H1
     clear H1
     have HC17 := zu.mk H
     clear H
     go_upto_region 8 with (first | ((with_reducible refine zm (f := 66) rfl ?_); refine goesL_ (some 22) rfl rfl Tryd.func66 (by kernel_rfl) rfl #[.int .i64 a0, .int .i64 48, .int .i64 57] rfl (by (try simp only [uh, ui, uj]); first | done | rfl | (simp only [uf, ug]; rfl)) ?_; (with_reducible refine (impl_within.calls a0 48 57 false _ A15.out).mono ?_); rintro e w' ⟨rfl, ⟨nd, rfl⟩⟩; refine ⟨_, rfl, ?_⟩))
     (try simp only [Act.put, ub, uc, ud])
     go_cut [23] (fun v23 wc => ∃ (kq : Nat) (x23_16 : Bool), v23 = .bool x23_16 ∧ zu (impl_Class.j1 kq a0 x23_16 = some r) ∧ zu (kq ≤ kj2) ∧ Drawn0 w wc)
     case first =>
      have H := HC17.out
      clear HC17
      by_cases c18 : a0 = 39
      ·rw [if_pos c18] at H
       have c18b0 : (a0 == 39) = true := beq_iff_eq.mpr c18
       have c18b1 : (a0 != 39) = false := bne_eq_false_iff_eq.mpr c18
       clear c18
       (first | rw [c18b0] | (simp only [zk, zl]; rw [c18b0]) | skip)
       have H' := zu.mk H
       clear H
       go_wp2
       go_meet
       case rel => exact ⟨_, (true), (by first | rfl | (simp; done) | (simp [*]; done)), H', ⟨by have := HJ2.out; first | omega | exact um _⟩, y1⟩
      ·rw [if_neg c18] at H
       have c18b0 : (a0 == 39) = false := beq_eq_false_iff_ne.mpr c18
       have c18b1 : (a0 != 39) = true := bne_iff_ne.mpr c18
       (first | rw [c18b0] | (simp only [zk, zl]; rw [c18b0]) | skip)
       have H' := zu.mk H
       clear H
       go_wp2
       go_meet
       case rel => exact ⟨_, ((a0 == 95)), (by first | rfl | (simp; done) | (simp [*]; done)), H', ⟨by have := HJ2.out; first | omega | exact um _⟩, y1⟩
     case rest =>
      clear HC17
      try clear c1
      try clear c2
      try clear p2
      try clear c4
      try clear c6
      try clear c8
      try clear c9
      try clear c9b0
      try clear c9b1
      try clear c11
      try clear c11b0
      try clear c11b1
      try clear c14
      try clear c16
      try clear c18
      try clear c18b0
      try clear c18b1
      try clear p2
      obtain ⟨kq, x23_16, rfl, HA, HJ16, ⟨mc16, rfl⟩⟩ := hcut
      cases kq with
      | zero => exact absurd HA.out (by simp [impl_Class.j1])
      | succ kj16 =>
       have H := HA.out
       clear HA
       simp only [impl_Class.j1] at H
       by_cases c19 : x23_16 = true
       ·subst c19
        have H1 : (some 3) = some r := by rw [if_pos rfl] at H; exact H
        clear H
        have H := H1
        clear H1
        obtain rfl := Option.some.inj H
        go_wp2
        go_ret
        exact ⟨by first | rfl | (simp; done) | (simp [*]; done), y1⟩
       ·replace c19 := Bool.eq_false_iff.mpr c19
        subst c19
        have H1 : ((impl_within.f a0 12352 12543).bind fun t275 => (if t275 = true then (some 4) else ((impl_within.f a0 19968 40959).bind fun t276 => (if t276 = true then (some 4) else (some 0))))) = some r := by rw [if_neg (show ¬ (false = true) by decide)] at H; exact H
        clear H
        have H := H1
        clear H1
        replace H := ue.mp H
        obtain ⟨t275, A200, H⟩ := H
        replace H : (if t275 = true then (some 4) else ((impl_within.f a0 19968 40959).bind fun t276 => (if t276 = true then (some 4) else (some 0)))) = some r := H
        have A20 := zu.mk A200
        clear A200
        by_cases c21 : t275 = true
        ·subst c21
         have H1 : (some 4) = some r := by rw [if_pos rfl] at H; exact H
         clear H
         have H := H1
         clear H1
         obtain rfl := Option.some.inj H
         go_wp2_with (first | ((with_reducible refine zm (f := 66) rfl ?_); refine goesL_ (some 32) rfl rfl Tryd.func66 (by kernel_rfl) rfl #[.int .i64 a0, .int .i64 12352, .int .i64 12543] rfl (by (try simp only [uh, ui, uj]); first | done | rfl | (simp only [uf, ug]; rfl)) ?_; (with_reducible refine (impl_within.calls a0 12352 12543 true _ A20.out).mono ?_); rintro e w' ⟨rfl, ⟨nd, rfl⟩⟩; refine ⟨_, rfl, ?_⟩))
         go_ret
         exact ⟨by first | rfl | (simp; done) | (simp [*]; done), y1⟩
        ·replace c21 := Bool.eq_false_iff.mpr c21
         subst c21
         have H1 : ((impl_within.f a0 19968 40959).bind fun t276 => (if t276 = true then (some 4) else (some 0))) = some r := by rw [if_neg (show ¬ (false = true) by decide)] at H; exact H
         clear H
         have H := H1
         clear H1
         replace H := ue.mp H
         obtain ⟨t276, A220, H⟩ := H
         replace H : (if t276 = true then (some 4) else (some 0)) = some r := H
         have A22 := zu.mk A220
         clear A220
         by_cases c23 : t276 = true
         ·subst c23
          have H1 : (some 4) = some r := by rw [if_pos rfl] at H; exact H
          clear H
          have H := H1
          clear H1
          obtain rfl := Option.some.inj H
          go_wp2_with (first | ((with_reducible refine zm (f := 66) rfl ?_); refine goesL_ (some 32) rfl rfl Tryd.func66 (by kernel_rfl) rfl #[.int .i64 a0, .int .i64 12352, .int .i64 12543] rfl (by (try simp only [uh, ui, uj]); first | done | rfl | (simp only [uf, ug]; rfl)) ?_; (with_reducible refine (impl_within.calls a0 12352 12543 false _ A20.out).mono ?_); rintro e w' ⟨rfl, ⟨nd, rfl⟩⟩; refine ⟨_, rfl, ?_⟩) | ((with_reducible refine zm (f := 66) rfl ?_); refine goesL_ (some 34) rfl rfl Tryd.func66 (by kernel_rfl) rfl #[.int .i64 a0, .int .i64 19968, .int .i64 40959] rfl (by (try simp only [uh, ui, uj]); first | done | rfl | (simp only [uf, ug]; rfl)) ?_; (with_reducible refine (impl_within.calls a0 19968 40959 true _ A22.out).mono ?_); rintro e w' ⟨rfl, ⟨nd, rfl⟩⟩; refine ⟨_, rfl, ?_⟩))
          go_ret
          exact ⟨by first | rfl | (simp; done) | (simp [*]; done), y1⟩
         ·replace c23 := Bool.eq_false_iff.mpr c23
          subst c23
          have H1 : (some 0) = some r := by rw [if_neg (show ¬ (false = true) by decide)] at H; exact H
          clear H
          have H := H1
          clear H1
          obtain rfl := Option.some.inj H
          go_wp2_with (first | ((with_reducible refine zm (f := 66) rfl ?_); refine goesL_ (some 32) rfl rfl Tryd.func66 (by kernel_rfl) rfl #[.int .i64 a0, .int .i64 12352, .int .i64 12543] rfl (by (try simp only [uh, ui, uj]); first | done | rfl | (simp only [uf, ug]; rfl)) ?_; (with_reducible refine (impl_within.calls a0 12352 12543 false _ A20.out).mono ?_); rintro e w' ⟨rfl, ⟨nd, rfl⟩⟩; refine ⟨_, rfl, ?_⟩) | ((with_reducible refine zm (f := 66) rfl ?_); refine goesL_ (some 34) rfl rfl Tryd.func66 (by kernel_rfl) rfl #[.int .i64 a0, .int .i64 19968, .int .i64 40959] rfl (by (try simp only [uh, ui, uj]); first | done | rfl | (simp only [uf, ug]; rfl)) ?_; (with_reducible refine (impl_within.calls a0 19968 40959 false _ A22.out).mono ?_); rintro e w' ⟨rfl, ⟨nd, rfl⟩⟩; refine ⟨_, rfl, ?_⟩))
          go_ret
          exact ⟨by first | rfl | (simp; done) | (simp [*]; done), y1⟩
end Go.Proofs.YtndjodgcemgpfaaDoor.Q
end
section
namespace Go.Proofs.YtndjodgcemgpfaaDoor.Q
open Go.RowKit Go.Proofs.YtndjodgcemgpfaaDoorW.PrintWords Go.Proofs.YtndjodgcemgpfaaDoorW.PrintLast Go.Proofs.YtndjodgcemgpfaaDoorW.PrintMore
open Go.Lib (decodeN decode_at)
def isL (r : Int) : Prop := (65 ≤ r ∧ r ≤ 90) ∨ (97 ≤ r ∧ r ≤ 122) ∨ (192 ≤ r ∧ r ≤ 591 ∧ r ≠ 215 ∧ r ≠ 247) ∨ (880 ≤ r ∧ r ≤ 1279)
instance (r : Int) : Decidable (isL r) := by unfold isL; infer_instance
def cls (r : Int) : Int := if isL r then 1 else if 48 ≤ r ∧ r ≤ 57 then 2 else if r = 39 ∨ r = 95 then 3 else if (12352 ≤ r ∧ r ≤ 12543) ∨ (19968 ≤ r ∧ r ≤ 40959) then 4 else 0
theorem within_ev (x a b : Int) : impl_within.f x a b = some (decide (a ≤ x ∧ x ≤ b)) := by
 unfold impl_within.f
 by_cases h : x ≥ a
 ·rw [if_pos h]; congr 1; exact decide_eq_decide.2 (by omega)
 ·rw [if_neg h]; congr 1; exact (decide_eq_false (by omega)).symm
theorem specClass_0 (k : Nat) (r : Int) : spec_Class.f k r = spec_Class.j0 k r (decide (isL r)) := by
 unfold spec_Class.f isL
 repeat' split
 all_goals (congr 1; symm; first | (apply decide_eq_true; omega) | (apply decide_eq_false; omega) | (apply decide_eq_decide.2; omega))
theorem specClass_ev (k : Nat) (r : Int) : spec_Class.f (k + 3) r = some (cls r) := by
 rw [specClass_0, spec_Class.j0]
 unfold cls
 by_cases c1 : isL r
 ·rw [if_pos (decide_eq_true c1), if_pos c1]
 rw [if_neg (by simp [c1]), if_neg c1]
 have e : (if r ≥ 48 then spec_Class.j1 (k + 2) r (decide (r ≤ 57)) else spec_Class.j1 (k + 2) r false) = spec_Class.j1 (k + 2) r (decide (48 ≤ r ∧ r ≤ 57)) := by
  split <;> (congr 1; first | (apply decide_eq_decide.2; omega) | (symm; apply decide_eq_false; omega))
 rw [e, spec_Class.j1]
 by_cases c2 : 48 ≤ r ∧ r ≤ 57
 ·rw [if_pos (decide_eq_true c2), if_pos c2]
 rw [if_neg (by simp only [decide_eq_true_eq]; exact c2), if_neg c2]
 by_cases c3 : r = 39 ∨ r = 95
 ·rw [if_pos c3]
  by_cases c : r = 39
  ·rw [if_pos c, spec_Class.j2, if_pos rfl]
  ·rw [if_neg c, spec_Class.j2, if_pos (by simp; omega)]
 rw [if_neg (show ¬ r = 39 by omega), spec_Class.j2, if_neg (by simp; omega), if_neg c3]
 repeat' split
 all_goals first | rfl | (exfalso; omega)
theorem implClass_ev (k : Nat) (r : Int) : impl_Class.f (k + 3) r = some (cls r) := by
 have e : impl_Class.f (k + 3) r = impl_Class.j0 (k + 3) r (decide (isL r)) := by
  unfold impl_Class.f isL
  simp only [within_ev, uk, decide_eq_true_eq]
  repeat' split
  all_goals (congr 1; symm; first | (apply decide_eq_true; omega) | (apply decide_eq_false; omega) | (apply decide_eq_decide.2; omega) | (rename_i a b; exact (decide_eq_true (by omega)).trans (bne_iff_ne.2 b).symm))
 rw [e, impl_Class.j0]
 unfold cls
 by_cases c1 : isL r
 ·rw [if_pos (decide_eq_true c1), if_pos c1]
 rw [if_neg (by simp [c1]), if_neg c1, within_ev]
 simp only [uk, decide_eq_true_eq]
 by_cases c2 : 48 ≤ r ∧ r ≤ 57
 ·rw [if_pos c2, if_pos c2]
 rw [if_neg c2, if_neg c2]
 have j1 : ∀ b, impl_Class.j1 (k + 2) r b = if b = true then some 3 else some (if (12352 ≤ r ∧ r ≤ 12543) ∨ (19968 ≤ r ∧ r ≤ 40959) then 4 else 0) := fun b => by
  rw [impl_Class.j1, within_ev, within_ev]
  simp only [uk, decide_eq_true_eq]
  repeat' split
  all_goals first | rfl | (exfalso; omega)
 rw [j1, j1]
 by_cases c : r = 39
 ·rw [if_pos c, if_pos rfl, if_pos (.inl c)]
 ·rw [if_neg c]
  by_cases c' : r = 95
  ·rw [if_pos (show (r == 95) = true by simp [c']), if_pos (show r = 39 ∨ r = 95 from .inr c')]
  ·rw [if_neg (show ¬ (r == 95) = true by simp [c']), if_neg (show ¬ (r = 39 ∨ r = 95) by omega)]
def inner (r : Int) : Bool := cls r == 1 || cls r == 2
theorem inner_ev (k : Nat) (r : Int) : spec_l01Inner.f (k + 3) r = some (inner r) := by
 unfold spec_l01Inner.f inner
 rw [specClass_ev]
 simp only [uk]
 by_cases c : cls r = 1
 ·rw [if_pos c, c]; rfl
 ·rw [if_neg c]
  have : (cls r == 1) = false := beq_eq_false_iff_ne.2 c
  rw [this]
  rfl
def solidP (l : List Int) (i : Int) : Bool := decide (0 ≤ i) && (decide (i < (l.length : Int)) && inner (rd l i))
def goesOn (l : List Int) (j : Nat) : Bool := inner (rd l (j : Int)) || (cls (rd l (j : Int)) == 3 && (solidP l ((j : Int) - 1) && solidP l ((j : Int) + 1)))
def wend (l : List Int) (j : Nat) : Nat := if h : j < l.length then (if goesOn l j = true then wend l (j + 1) else j) else j
termination_by l.length - j
theorem wend_end {l : List Int} {j : Nat} (h : ¬ j < l.length) : wend l j = j := by rw [wend, dif_neg h]
theorem wend_step {l : List Int} {j : Nat} (h : j < l.length) : wend l j = if goesOn l j = true then wend l (j + 1) else j := by rw [wend, dif_pos h]
theorem wend_bounds (l : List Int) : ∀ (d j : Nat), l.length - j ≤ d → j ≤ l.length → j ≤ wend l j ∧ wend l j ≤ l.length := by
 intro d
 induction d with
 | zero => intro j h hj; rw [wend_end (by omega)]; exact ⟨um _, hj⟩
 | succ d ih =>
  intro j h hj
  by_cases hl : j < l.length
  ·rw [wend_step hl]
   by_cases g : goesOn l j = true
   ·rw [if_pos g]
    have := ih (j + 1) (by omega) (by omega)
    omega
   ·rw [if_neg g]; omega
  ·rw [wend_end hl]; omega
theorem wend_le {l : List Int} {j : Nat} (h : j ≤ l.length) : j ≤ wend l j ∧ wend l j ≤ l.length := wend_bounds l (l.length - j) j (um _) h
def stop (l : List Int) (i : Nat) : Nat := if cls (rd l (i : Int)) = 4 then i + 1 else if inner (rd l (i : Int)) = true then wend l (i + 1) else i
theorem stop_le {l : List Int} {i : Nat} (h : i < l.length) : i ≤ stop l i ∧ stop l i ≤ l.length := by
 unfold stop
 split
 ·omega
 ·split
  ·have := wend_le (l := l) (j := i + 1) (by omega); omega
  ·omega
def tok (s : ByteArray) (at' : List Int) (i j n : Nat) : S43 := ⟨s.extract (rd at' (i : Int)).toNat (rd at' (j : Int)).toNat, (n : Int), rd at' (i : Int), rd at' (j : Int)⟩
def toks (s : ByteArray) (at' l : List Int) (i n : Nat) : List S43 :=
 if h : i < l.length then (if g : i < stop l i then tok s at' i (stop l i) n :: toks s at' l (stop l i) (n + 1) else toks s at' l (i + 1) n) else []
termination_by l.length - i
def posn (s : ByteArray) : Nat → Nat
 | 0 => 0
 | i + 1 => posn s i + (Utf8.decode s (posn s i)).2
def offs (s : ByteArray) (p : Nat) : List Int := if h : p < s.size then (p : Int) :: offs s (p + (Utf8.decode s p).2) else []
termination_by s.size - p
decreasing_by have := Go.Lib.width_pos s p; omega
theorem offs_end {s : ByteArray} {p : Nat} (h : ¬ p < s.size) : offs s p = [] := by rw [offs, dif_neg h]
theorem offs_cons {s : ByteArray} {p : Nat} (h : p < s.size) : offs s p = (p : Int) :: offs s (p + (Utf8.decode s p).2) := by rw [offs, dif_pos h]
def ats (s : ByteArray) : List Int := offs s 0 ++ [(s.size : Int)]
def brkP (s : ByteArray) : List S43 × Int := if (decP s).2 = 0 then (if 8192 < (toks s (ats s) (chars s 0) 0 0).length then ([], 11) else (toks s (ats s) (chars s 0) 0 0, 0)) else ([], (decP s).2)
end Go.Proofs.YtndjodgcemgpfaaDoor.Q
end
