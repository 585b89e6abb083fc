/- A part of the proof: the texts Pbrk3, Pbrk4, Qxf49, Qxf16, Qxf42, Qxf17, Qxf18, Pmk, Wbrk, Lbrk, packed. -/
import Derived.Lib.ValidAsc
import Derived.Test.YtndjodgcemgpfaaDoorKa6

open Go.World renaming block_lt_of_cell? → ua
open List renaming setIfInBounds_toArray → ub, set_cons_zero → uc, set_cons_succ → ud, length_drop → uf, length_take → ug, map_toArray → uh, map_cons → ui, map_nil → uj, length_append → ul
open Option renaming bind_eq_some_iff → ue, bind_some → uk
open Nat renaming le_refl → um
set_option linter.unusedVariables false
set_option linter.unusedSimpArgs false
section
namespace Go.Proofs.YtndjodgcemgpfaaDoor.Q
open Go.RowKit Go.Proofs.YtndjodgcemgpfaaDoorW.PrintWords Go.Proofs.YtndjodgcemgpfaaDoorW.PrintLast Go.Proofs.YtndjodgcemgpfaaDoorW.PrintMore
open Go.Lib (decodeN decode_at)
def u8s (xs : List Int) : List UInt8 := xs.map fun n => UInt8.ofNat n.toNat
theorem drop_get (s : ByteArray) (p : Nat) (h : p < s.size) : s.data.toList.drop p = s.get! p :: s.data.toList.drop (p + 1) := by
 have hl : p < s.data.toList.length := by rw [size_list]; exact h
 rw [List.drop_eq_getElem_cons hl]
 congr 1
 show _ = s.data[p]!
 rw [getElem!_pos s.data p h, Array.getElem_toList]
theorem take_drop_bytes (s : ByteArray) (p w : Nat) : (s.data.toList.take (p + w)).drop p = (s.data.toList.drop p).take w := by
 rw [List.drop_take, Nat.add_sub_cancel_left]
theorem u8_of (b : UInt8) (n : Int) (h : n = (b.toNat : Int)) : UInt8.ofNat n.toNat = b := by
 rw [h, Int.toNat_natCast]
 simp
set_option maxRecDepth 100000 in
set_option maxHeartbeats 4000000 in
theorem bytes_decode (s : ByteArray) (p : Nat) (h : p < s.size) (hok : Utf8.decode s p ≠ (65533, 1)) :
  u8s (bytesOf ((Utf8.decode s p).1 : Int)) = (s.data.toList.take (p + (Utf8.decode s p).2)).drop p ∧ (0 : Int) ≤ ((Utf8.decode s p).1 : Int) ∧ ((Utf8.decode s p).1 : Int) ≤ 1114111 := by
 have hf := decode_fit s p h
 rw [take_drop_bytes]
 revert hok hf
 rw [decode_at]
 have g0 := UInt8.toNat_lt (s.get! p)
 have g1 := UInt8.toNat_lt (s.get! (p + 1))
 have g2 := UInt8.toNat_lt (s.get! (p + 2))
 have g3 := UInt8.toNat_lt (s.get! (p + 3))
 by_cases c0 : (s.get! p).toNat < 128
 ·intro _ _
  rw [show ∀ a b c d e, b < 128 → decodeN a b c d e = (b, 1) from fun a b c d e hb => by unfold decodeN; rw [if_pos hb]] 
  ·simp only
   rw [drop_get s p h]
   unfold bytesOf
   rw [if_pos (by omega)]
   refine ⟨?_, by omega, by omega⟩
   simp only [u8s, ui, uj, List.take_succ_cons, List.take_zero]
   rw [u8_of (s.get! p) _ (by omega)]
  ·exact c0
 by_cases c4 : 240 ≤ (s.get! p).toNat
 ·rw [dec4 _ _ _ _ _ c4 g0 g1 g2 g3]
  split
  ·rename_i hc
   intro _ hf
   simp only at hf ⊢
   rw [drop_get s p h, show s.data.toList.drop (p + 1) = s.get! (p + 1) :: s.data.toList.drop (p + 2) from drop_get s (p + 1) (by omega), show s.data.toList.drop (p + 2) = s.get! (p + 2) :: s.data.toList.drop (p + 3) from drop_get s (p + 2) (by omega), show s.data.toList.drop (p + 3) = s.get! (p + 3) :: s.data.toList.drop (p + 4) from drop_get s (p + 3) (by omega)]
   unfold bytesOf
   rw [if_neg (by omega), if_neg (by omega), if_neg (by omega)]
   refine ⟨?_, by omega, by omega⟩
   simp only [u8s, ui, uj, List.take_succ_cons, List.take_zero]
   rw [u8_of (s.get! p) _ (by omega), u8_of (s.get! (p + 1)) _ (by omega), u8_of (s.get! (p + 2)) _ (by omega), u8_of (s.get! (p + 3)) _ (by omega)]
  ·intro hok; exact absurd rfl hok
 by_cases c3 : 224 ≤ (s.get! p).toNat
 ·rw [dec3 _ _ _ _ _ c3 (by omega) g1 g2]
  split
  ·rename_i hc
   intro _ hf
   simp only at hf ⊢
   rw [drop_get s p h, show s.data.toList.drop (p + 1) = s.get! (p + 1) :: s.data.toList.drop (p + 2) from drop_get s (p + 1) (by omega), show s.data.toList.drop (p + 2) = s.get! (p + 2) :: s.data.toList.drop (p + 3) from drop_get s (p + 2) (by omega)]
   unfold bytesOf
   rw [if_neg (by omega), if_neg (by omega), if_pos (by omega)]
   refine ⟨?_, by omega, by omega⟩
   simp only [u8s, ui, uj, List.take_succ_cons, List.take_zero]
   rw [u8_of (s.get! p) _ (by omega), u8_of (s.get! (p + 1)) _ (by omega), u8_of (s.get! (p + 2)) _ (by omega)]
  ·intro hok; exact absurd rfl hok
 by_cases c2 : 192 ≤ (s.get! p).toNat
 ·rw [dec2 _ _ _ _ _ c2 (by omega) g1]
  split
  ·rename_i hc
   intro _ hf
   simp only at hf ⊢
   rw [drop_get s p h, show s.data.toList.drop (p + 1) = s.get! (p + 1) :: s.data.toList.drop (p + 2) from drop_get s (p + 1) (by omega)]
   unfold bytesOf
   rw [if_neg (by omega), if_pos (by omega)]
   refine ⟨?_, by omega, by omega⟩
   simp only [u8s, ui, uj, List.take_succ_cons, List.take_zero]
   rw [u8_of (s.get! p) _ (by omega), u8_of (s.get! (p + 1)) _ (by omega)]
  ·intro hok; exact absurd rfl hok
 ·rw [Go.Lib.decodeN_bad _ _ _ _ _ (.inl ⟨by omega, by omega⟩)]
  intro hok
  exact absurd rfl hok
theorem ok_posn (s : ByteArray) (hok : okAt s 0 = true) : ∀ i : Nat, i ≤ (chars s 0).length → okAt s (posn s i) = true := by
 intro i
 induction i with
 | zero => intro _; exact hok
 | succ i ih =>
  intro h
  have h1 := ih (by omega)
  rw [okAt_step (posn_lt s i (by omega))] at h1
  by_cases c : Utf8.decode s (posn s i) = (65533, 1)
  ·rw [if_pos c] at h1; cases h1
  ·rw [if_neg c] at h1; exact h1
theorem good_at (s : ByteArray) (hok : okAt s 0 = true) (i : Nat) (h : i < (chars s 0).length) : Utf8.decode s (posn s i) ≠ (65533, 1) := by
 intro c
 have h1 := ok_posn s hok i (by omega)
 rw [okAt_step (posn_lt s i h), if_pos c] at h1
 cases h1
theorem char_at (s : ByteArray) (hok : okAt s 0 = true) (i : Nat) (h : i < (chars s 0).length) :
  u8s (bytesOf (rd (chars s 0) (i : Int))) = (s.data.toList.take (posn s (i + 1))).drop (posn s i) ∧ 0 ≤ rd (chars s 0) (i : Int) ∧ rd (chars s 0) (i : Int) ≤ 1114111 := by
 rw [rd_chars s i h]
 exact bytes_decode s (posn s i) (posn_lt s i h) (good_at s hok i h)
theorem u8s_length (xs : List Int) : (u8s xs).length = xs.length := List.length_map _
theorem slice_len (s : ByteArray) (a b : Nat) (hb : b ≤ s.size) : ((s.data.toList.take b).drop a).length = b - a := by
 rw [uf, ug, size_list, Nat.min_eq_left hb]
theorem slice_app {α : Type} (B : List α) (a b c : Nat) (h1 : a ≤ b) (h2 : b ≤ c) (h3 : c ≤ B.length) : (B.take b).drop a ++ (B.take c).drop b = (B.take c).drop a := by
 have e : B.take b = (B.take c).take b := by rw [List.take_take, Nat.min_eq_left h2]
 have l : b ≤ (B.take c).length := by rw [ug]; omega
 rw [e]
 conv => rhs; rw [← List.take_append_drop b (B.take c)]
 rw [List.drop_append_of_le_length (by rw [ug]; omega)]
theorem bytes_len (s : ByteArray) (hok : okAt s 0 = true) (i : Nat) (h : i < (chars s 0).length) : (bytesOf (rd (chars s 0) (i : Int))).length = posn s (i + 1) - posn s i := by
 have := congrArg List.length (char_at s hok i h).1
 rw [u8s_length, slice_len s _ _ (chars_posn s (i + 1) (by omega)).2.2] at this
 exact this
theorem str_slice (s : ByteArray) (xs : List Int) (a b : Nat) (h : u8s xs = (s.data.toList.take b).drop a) : strOfNums xs = s.extract a b := by
 have e : (strOfNums xs).data.toList = (s.extract a b).data.toList := by
  rw [ByteArray.data_extract, Array.toList_extract]
  rw [List.extract_eq_take_drop, ← List.drop_take]
  exact h
 have e2 : (strOfNums xs).data = (s.extract a b).data := Array.toList_inj.1 e
 cases hx : strOfNums xs
 cases hy : s.extract a b
 rw [hx, hy] at e2
 simp only at e2
 rw [e2]
theorem rd_sub (l : List Int) (i k m : Nat) (h : i + m < k) (hk : k ≤ l.length) : rd ((l.take k).drop i) (m : Int) = rd l ((i + m : Nat) : Int) := by
 unfold rd
 rw [List.getD_eq_getElem?_getD, List.getD_eq_getElem?_getD, Int.toNat_natCast, Int.toNat_natCast, List.getElem?_drop, List.getElem?_take_of_lt h]
theorem enc_l0 (s : ByteArray) (hok : okAt s 0 = true) (hs : s.size ≤ 1099511627776) (i k : Nat) (hik : i ≤ k) (hk : k ≤ (chars s 0).length) : ∀ (d m : Nat) (acc : List Int) (K : Nat), k - i - m < d → m ≤ k - i → u8s acc = (s.data.toList.take (posn s (i + m))).drop (posn s i) →
  spec_l01Encode.l0 (K + d) (((chars s 0).take k).drop i) acc (m : Int) = some (s.extract (posn s i) (posn s k)) := by
 intro d
 induction d with
 | zero => intro m acc K h; omega
 | succ d ih =>
  intro m acc K h hm ha
  have hl : ((((chars s 0).take k).drop i).length : Int) = ((k - i : Nat) : Int) := by rw [uf, ug, Nat.min_eq_left hk]
  rw [show K + (d + 1) = (K + d) + 1 by omega, spec_l01Encode.l0, hl]
  by_cases c : m < k - i
  ·have hx := char_at s hok (i + m) (by omega)
   have hn := bytes_len s hok (i + m) (by omega)
   have hp1 := (chars_posn s (i + m + 1) (by omega)).2.2
   have hp2 := posn_le s m i
   have hp3 := posn_le s 1 (i + m)
   have hal := congrArg List.length ha
   rw [u8s_length, slice_len s _ _ (by omega)] at hal
   rw [if_pos (by omega), if_pos (by omega), rd_sub _ _ _ _ (by omega) hk, l01Bytes_ev _ hx.2.1 hx.2.2]
   simp only [uk]
   rw [if_pos (by omega), zw (by omega) (by have := (chars_len s (s.size - 0) 0 (um _)).1; omega), show (m : Int) + 1 = ((m + 1 : Nat) : Int) by omega]
   refine ih (m + 1) _ K (by omega) (by omega) ?_
   rw [u8s, List.map_append]
   show u8s acc ++ u8s _ = _
   rw [ha, hx.1, slice_app _ _ _ _ hp2 hp3 (by rw [size_list]; exact hp1)]
   rfl
  ·rw [if_neg (by omega)]
   obtain rfl : m = k - i := by omega
   rw [show i + (k - i) = k by omega] at ha
   rw [str_slice s acc _ _ ha]
theorem enc_ev (s : ByteArray) (hok : okAt s 0 = true) (hs : s.size ≤ 1099511627776) (i k : Nat) (hik : i ≤ k) (hk : k ≤ (chars s 0).length) (K : Nat) : spec_l01Encode.f (K + (k - i + 1)) (((chars s 0).take k).drop i) = some (s.extract (posn s i) (posn s k)) :=
 enc_l0 s hok hs i k hik hk (k - i + 1) 0 [] K (by omega) (by omega) (by rw [Nat.add_zero, List.drop_eq_nil_of_le (by rw [ug]; omega)]; rfl)
end Go.Proofs.YtndjodgcemgpfaaDoor.Q
end
section
namespace Go.Proofs.YtndjodgcemgpfaaDoor.Q
open Go.RowKit Go.Proofs.YtndjodgcemgpfaaDoorW.PrintWords Go.Proofs.YtndjodgcemgpfaaDoorW.PrintLast Go.Proofs.YtndjodgcemgpfaaDoorW.PrintMore
theorem toks_end' {s : ByteArray} {a l : List Int} {i n : Nat} (h : ¬ i < l.length) : toks s a l i n = [] := by rw [toks, dif_neg h]
theorem toks_word' {s : ByteArray} {a l : List Int} {i n : Nat} (h : i < l.length) (g : i < stop l i) : toks s a l i n = tok s a i (stop l i) n :: toks s a l (stop l i) (n + 1) := by rw [toks, dif_pos h, dif_pos g]
theorem toks_skip' {s : ByteArray} {a l : List Int} {i n : Nat} (h : i < l.length) (g : ¬ i < stop l i) : toks s a l i n = toks s a l (i + 1) n := by rw [toks, dif_pos h, dif_neg g]
theorem solid_in (l : List Int) (i : Nat) (h : i < l.length) : solidP l (i : Int) = inner (rd l (i : Int)) := by
 unfold solidP
 rw [decide_eq_true (show (0 : Int) ≤ (i : Int) by omega), decide_eq_true (show (i : Int) < (l.length : Int) by omega)]
 rfl
section
variable {l : List Int} {out : List S43} {x7 : Int} {r : List S43 × Int}
theorem l1_ev (hl : l.length ≤ 1099511627776) (i : Nat) (hc : cls (rd l (i : Int)) ≠ 4) (N : Nat) : ∀ (d j : Nat), l.length - j < d → i < j → j ≤ l.length →
  (∀ K, N ≤ K → spec_Break.j3 K l out x7 (i : Int) ((wend l j : Nat) : Int) = some r) → ∀ K, N + d + 3 ≤ K → spec_Break.l1 K l out x7 (i : Int) (j : Int) = some r := by
 intro d
 induction d with
 | zero => intro j h; omega
 | succ d ih =>
  intro j hd hij hj h3 K hK
  obtain ⟨K1, rfl⟩ : ∃ K1, K = (K1 + 3) + 1 := ⟨K - 4, by omega⟩
  rw [spec_Break.l1]
  by_cases c : j < l.length
  ·rw [if_pos (by omega), if_pos (by omega), if_pos (by omega), if_pos (by omega), specClass_ev]
   simp only [uk]
   rw [if_neg hc, if_pos (by omega), inner_ev]
   simp only [uk]
   have next : goesOn l j = true → spec_Break.l1 (K1 + 3) l out x7 (i : Int) (wrap64 ((j : Int) + 1)) = some r := fun g => by
    rw [zw (by omega) (by omega), show (j : Int) + 1 = ((j + 1 : Nat) : Int) by omega]
    refine ih (j + 1) (by omega) (by omega) (by omega) (fun K hK => ?_) (K1 + 3) (by omega)
    have := h3 K hK
    rw [wend_step c, if_pos g] at this
    exact this
   have stop : goesOn l j = false → spec_Break.j3 (K1 + 3) l out x7 (i : Int) (j : Int) = some r := fun g => by
    have := h3 (K1 + 3) (by omega)
    rw [wend_step c, if_neg (by rw [g]; decide)] at this
    exact this
   have e1 : wrap64 ((j : Int) - 1) = ((j - 1 : Nat) : Int) := by rw [zw (by omega) (by omega)]; omega
   have e2 : wrap64 ((j : Int) + 1) = ((j + 1 : Nat) : Int) := by rw [zw (by omega) (by omega)]; omega
   have f1 : (j : Int) - 1 = ((j - 1 : Nat) : Int) := by omega
   have f2 : (j : Int) + 1 = ((j + 1 : Nat) : Int) := by omega
   unfold goesOn at next stop
   rw [f1, f2, solid_in l (j - 1) (by omega)] at next stop
   cases hin : inner (rd l (j : Int)) with
   | true =>
    rw [if_pos rfl]
    exact next (by rw [hin]; rfl)
   | false =>
    rw [if_neg (by decide), if_pos (by omega), specClass_ev]
    simp only [uk]
    rw [hin] at next stop
    by_cases c3 : cls (rd l (j : Int)) = 3
    ·rw [if_pos c3, if_pos (by omega), if_pos (by omega), e1, inner_ev]
     simp only [uk]
     rw [c3] at next stop
     cases hv : inner (rd l ((j - 1 : Nat) : Int)) with
     | true =>
      rw [if_pos rfl, e2]
      rw [show wrap64 ((j + 1 : Nat) : Int) = ((j + 1 : Nat) : Int) from zw (by omega) (by omega)] at next
      rw [hv] at next stop
      by_cases c4 : j + 1 < l.length
      ·rw [if_pos (by omega), if_pos (by omega), inner_ev]
       simp only [uk]
       rw [solid_in l (j + 1) c4] at next stop
       cases hu : inner (rd l ((j + 1 : Nat) : Int)) with
       | true => rw [if_pos rfl]; exact next (by rw [hu]; decide)
       | false => rw [if_neg (by decide)]; exact stop (by rw [hu]; decide)
      ·rw [if_neg (by omega)]
       refine stop ?_
       unfold solidP
       rw [decide_eq_false (show ¬ ((j + 1 : Nat) : Int) < (l.length : Int) by omega)]
       simp
     | false =>
      rw [if_neg (by decide)]
      exact stop (by rw [hv]; simp)
    ·rw [if_neg c3]
     exact stop (by rw [show (cls (rd l (j : Int)) == 3) = false from beq_eq_false_iff_ne.2 c3]; rfl)
  ·rw [if_neg (by omega)]
   have := h3 (K1 + 3) (by omega)
   rw [wend_end c] at this
   exact this
theorem word_ev (hl : l.length ≤ 1099511627776) (i : Nat) (hi : i < l.length) (N : Nat) (h3 : ∀ K, N ≤ K → spec_Break.j3 K l out x7 (i : Int) ((stop l i : Nat) : Int) = some r) :
  ∀ K, N + l.length + 12 ≤ K → spec_Break.j1 K l out x7 (i : Int) (if cls (rd l (i : Int)) = 4 then wrap64 ((i : Int) + 1) else (i : Int)) = some r := by
 intro K hK
 obtain ⟨K1, rfl⟩ : ∃ K1, K = ((K1 + 3) + 1) + 1 := ⟨K - 5, by omega⟩
 have e2 : wrap64 ((i : Int) + 1) = ((i + 1 : Nat) : Int) := by rw [zw (by omega) (by omega)]; omega
 rw [spec_Break.j1, spec_Break.l1]
 by_cases c4 : cls (rd l (i : Int)) = 4
 ·rw [if_pos c4, e2]
  have hst : stop l i = i + 1 := by unfold stop; rw [if_pos c4]
  rw [hst] at h3
  by_cases c : i + 1 < l.length
  ·rw [if_pos (by omega), if_pos (by omega), if_pos (by omega), if_pos (by omega), specClass_ev]
   simp only [uk]
   rw [if_pos c4]
   exact h3 _ (by omega)
  ·rw [if_neg (by omega)]
   exact h3 _ (by omega)
 ·rw [if_neg c4, if_pos (by omega), if_pos (by omega), if_pos (by omega), specClass_ev]
  simp only [uk]
  rw [if_neg c4, inner_ev]
  simp only [uk]
  cases hin : inner (rd l (i : Int)) with
  | true =>
   rw [if_pos (show (i : Int) < (l.length : Int) by omega), if_pos (show (0 : Int) ≤ (i : Int) by omega), if_pos rfl, e2]
   have hst : stop l i = wend l (i + 1) := by unfold stop; rw [if_neg c4, if_pos hin]
   rw [hst] at h3
   exact l1_ev hl i c4 N (l.length + 1) (i + 1) (by omega) (by omega) (by omega) h3 (K1 + 3) (by omega)
  | false =>
   have hst : stop l i = i := by unfold stop; rw [if_neg c4, if_neg (by rw [hin]; decide)]
   rw [hst] at h3
   rw [if_pos (show (i : Int) < (l.length : Int) by omega), if_pos (show (0 : Int) ≤ (i : Int) by omega), if_neg (show ¬ (false = true) by decide), if_neg (show ¬ ((i : Int) > (i : Int)) by omega)]
   exact h3 _ (by omega)
end
theorem j3_word (s : ByteArray) (hok : okAt s 0 = true) (hs : s.size ≤ 65536) (i e : Nat) (out : List S43) (hi : i < e) (he : e ≤ (chars s 0).length) (ho : out.length ≤ 8192) (K1 : Nat) (hK1 : (chars s 0).length + 2 ≤ K1) :
  spec_Break.j3 (K1 + 1) (chars s 0) out ((posn s i : Nat) : Int) (i : Int) (e : Int) = (if ((out ++ [tok s (ats s) i e out.length]).length : Int) > 8192 then some ([], 11) else spec_Break.l0 K1 (chars s 0) (out ++ [tok s (ats s) i e out.length]) ((posn s e : Nat) : Int) (e : Int)) := by
 have hb := (chars_posn s e he).2.2
 have hmono := posn_le s (e - i) i
 rw [show i + (e - i) = e by omega] at hmono
 have hsz : (s.extract (posn s i) (posn s e)).size = posn s e - posn s i := by
  have := congrArg List.length (show (s.extract (posn s i) (posn s e)).data.toList = _ by rw [ByteArray.data_extract, Array.toList_extract, List.extract_eq_take_drop, ← List.drop_take])
  rw [size_list, slice_len s _ _ hb] at this
  exact this
 have hat : wrap64 (((posn s i : Nat) : Int) + ((s.extract (posn s i) (posn s e)).size : Int)) = ((posn s e : Nat) : Int) := by
  rw [hsz, zw (by omega) (by omega)]; omega
 have htok : (⟨s.extract (posn s i) (posn s e), (out.length : Int), ((posn s i : Nat) : Int), ((posn s e : Nat) : Int)⟩ : S43) = tok s (ats s) i e out.length := by
  unfold tok
  rw [rd_ats s i (by omega), rd_ats s e he, Int.toNat_natCast, Int.toNat_natCast]
 have hen := enc_ev s hok (by omega) i e (by omega) he (K1 - (e - i + 1))
 rw [Nat.sub_add_cancel (by omega)] at hen
 clear hsz hmono hok
 generalize (chars s 0) = l at *
 generalize s.extract (posn s i) (posn s e) = t at *
 generalize posn s i = P at *
 generalize posn s e = P' at *
 rw [← htok]
 clear htok
 rw [spec_Break.j3, if_neg (show ¬ ((e : Int) = (i : Int)) by omega), if_pos (show (0 : Int) ≤ (i : Int) by omega), if_pos (show (i : Int) ≤ (e : Int) by omega), if_pos (show (e : Int) ≤ (l.length : Int) by omega)]
 rw [show ((e : Nat) : Int).toNat = e from Int.toNat_natCast _, show ((i : Nat) : Int).toNat = i from Int.toNat_natCast _, hen]
 simp only [uk]
 rw [if_pos (show out.length < 3518437208883 by omega), hat]
def res (s : ByteArray) (out : List S43) (i : Nat) : List S43 × Int := if 8192 < (out ++ toks s (ats s) (chars s 0) i out.length).length then ([], 11) else (out ++ toks s (ats s) (chars s 0) i out.length, 0)
theorem break_l0 (s : ByteArray) (hok : okAt s 0 = true) (hs : s.size ≤ 65536) : ∀ (d i : Nat) (out : List S43), (chars s 0).length - i < d → i ≤ (chars s 0).length → out.length ≤ 8192 →
  ∃ N, ∀ K, N ≤ K → spec_Break.l0 K (chars s 0) out ((posn s i : Nat) : Int) (i : Int) = some (res s out i) := by
 intro d
 induction d with
 | zero => intro i out h; omega
 | succ d ih =>
  intro i out hd hi ho
  have hln := (chars_len s (s.size - 0) 0 (um _)).1
  by_cases c : i < (chars s 0).length
  ·have key : ∀ N, (∀ K, N ≤ K → spec_Break.j3 K (chars s 0) out ((posn s i : Nat) : Int) (i : Int) ((stop (chars s 0) i : Nat) : Int) = some (res s out i)) → ∃ N, ∀ K, N ≤ K → spec_Break.l0 K (chars s 0) out ((posn s i : Nat) : Int) (i : Int) = some (res s out i) := fun N h3 => by
    refine ⟨N + (chars s 0).length + 16, fun K hK => ?_⟩
    obtain ⟨K1, rfl⟩ : ∃ K1, K = (K1 + 3) + 1 := ⟨K - 4, by omega⟩
    have hw := word_ev (out := out) (x7 := ((posn s i : Nat) : Int)) (r := res s out i) (by omega) i c N h3 (K1 + 3) (by omega)
    rw [spec_Break.l0, if_pos (by omega), if_pos (by omega), specClass_ev]
    simp only [uk]
    by_cases c4 : cls (rd (chars s 0) (i : Int)) = 4
    ·rw [if_pos c4] at hw ⊢; exact hw
    ·rw [if_neg c4] at hw ⊢; exact hw
   have hst := stop_le (l := chars s 0) c
   have hp1 := chars_posn s (stop (chars s 0) i) hst.2
   by_cases g : i < stop (chars s 0) i
   ·
    have step := fun K1 h => j3_word s hok hs i (stop (chars s 0) i) out g hst.2 ho K1 h
    by_cases c8 : 8192 < (out ++ [tok s (ats s) i (stop (chars s 0) i) out.length]).length
    ·refine key ((chars s 0).length + 3) fun K hK => ?_
     obtain ⟨K1, rfl⟩ : ∃ K1, K = K1 + 1 := ⟨K - 1, by omega⟩
     rw [step K1 (by omega), if_pos (by omega)]
     unfold res
     rw [toks_word' c g, if_pos (by rw [ul, List.length_cons]; rw [ul, List.length_singleton] at c8; omega)]
    ·obtain ⟨N, hN⟩ := ih (stop (chars s 0) i) (out ++ [tok s (ats s) i (stop (chars s 0) i) out.length]) (by omega) hst.2 (by omega)
     refine key (N + (chars s 0).length + 4) fun K hK => ?_
     obtain ⟨K1, rfl⟩ : ∃ K1, K = K1 + 1 := ⟨K - 1, by omega⟩
     rw [step K1 (by omega), if_neg (by omega), hN K1 (by omega)]
     unfold res
     rw [toks_word' c g, show (out ++ [tok s (ats s) i (stop (chars s 0) i) out.length]).length = out.length + 1 by rw [ul, List.length_singleton], List.append_assoc]
     rfl
   ·
    have he : stop (chars s 0) i = i := by omega
    obtain ⟨N, hN⟩ := ih (i + 1) out (by omega) (by omega) ho
    have hx := char_at s hok i c
    have hbl := bytes_len s hok i c
    have hp2 := (chars_posn s (i + 1) (by omega)).2.2
    have hp3 := posn_le s 1 i
    refine key (N + 2) fun K hK => ?_
    obtain ⟨K1, rfl⟩ : ∃ K1, K = K1 + 1 := ⟨K - 1, by omega⟩
    rw [he, spec_Break.j3, if_pos rfl, if_pos (by omega), if_pos (by omega), l01Bytes_ev _ hx.2.1 hx.2.2]
    simp only [uk]
    rw [hbl, zw (by omega) (by omega), zw (by omega) (by omega), show ((posn s i : Nat) : Int) + ((posn s (i + 1) - posn s i : Nat) : Int) = ((posn s (i + 1) : Nat) : Int) by omega, show (i : Int) + 1 = ((i + 1 : Nat) : Int) by omega, hN K1 (by omega)]
    unfold res
    rw [toks_skip' c g]
  ·refine ⟨1, fun K hK => ?_⟩
   obtain ⟨K1, rfl⟩ : ∃ K1, K = K1 + 1 := ⟨K - 1, by omega⟩
   rw [spec_Break.l0, if_neg (by omega)]
   unfold res
   rw [toks_end' c, List.append_nil, if_neg (by omega)]
theorem spec_Break_ev (s : ByteArray) (hs : s.size ≤ 1099511627776) : ∃ N, ∀ K, N ≤ K → spec_Break.f K s = some (brkP s) := by
 have hd := fun K => spec_Decode_ev s hs K
 unfold brkP
 by_cases c : (decP s).2 = 0
 ·have hp : decP s = (chars s 0, 0) ∧ okAt s 0 = true ∧ s.size ≤ 65536 := by
   unfold decP at c ⊢
   by_cases c1 : 65536 < s.size
   ·rw [if_pos c1] at c; cases c
   ·rw [if_neg c1] at c ⊢
    by_cases o : okAt s 0 = true
    ·rw [if_pos o]; exact ⟨rfl, o, by omega⟩
    ·rw [if_neg o] at c; cases c
  obtain ⟨h1, h2, h3⟩ := hp
  obtain ⟨N, hN⟩ := break_l0 s h2 h3 ((chars s 0).length + 1) 0 [] (by omega) (by omega) (by simp)
  refine ⟨N + s.size + 8, fun K hK => ?_⟩
  rw [if_pos c]
  unfold spec_Break.f
  rw [show K = (K - s.size - 7) + s.size + 7 by omega, hd, h1]
  simp only [uk]
  rw [if_pos trivial]
  have := hN ((K - s.size - 7) + s.size + 7) (by omega)
  rw [show ((posn s 0 : Nat) : Int) = 0 from rfl, show ((0 : Nat) : Int) = 0 from rfl] at this
  rw [this]
  unfold res
  simp only [List.nil_append, List.length_nil]
 ·refine ⟨s.size + 8, fun K hK => ?_⟩
  rw [if_neg c]
  unfold spec_Break.f
  rw [show K = (K - s.size - 7) + s.size + 7 by omega, hd]
  simp only [uk]
  rw [if_neg c]
end Go.Proofs.YtndjodgcemgpfaaDoor.Q
end
section
namespace Go.Proofs.YtndjodgcemgpfaaDoor.Q
open Go.RowKit Go.Proofs.YtndjodgcemgpfaaDoorW.PrintWords Go.Proofs.YtndjodgcemgpfaaDoorW.PrintLast Go.Proofs.YtndjodgcemgpfaaDoorW.PrintMore
attribute [local go_sem] max2_int min2_int max_two min_two max_three min_three max_four min_four
def laws_eqToken.f (a0_0 : ByteArray) (a0_1 : Int) (a0_2 : Int) (a0_3 : Int) (a1_0 : ByteArray) (a1_1 : Int) (a1_2 : Int) (a1_3 : Int) : Option (Bool) := if a0_0.toList = a1_0.toList then (if a0_1 = a1_1 then (if a0_2 = a1_2 then (if a0_3 = a1_3 then (some true) else (some false)) else (some false)) else (some false)) else (some false)
set_option maxHeartbeats 8000000 in
set_option maxRecDepth 100000 in
theorem laws_eqToken.calls (a0_0 : ByteArray) (a0_1 : Int) (a0_2 : Int) (a0_3 : Int) (a1_0 : ByteArray) (a1_1 : Int) (a1_2 : Int) (a1_3 : Int) (r : Bool) (w : World) (h : laws_eqToken.f a0_0 a0_1 a0_2 a0_3 a1_0 a1_1 a1_2 a1_3 = some r) :
  Calls Tryd.prog 49 #[.agg #[.string a0_0, .int .i64 a0_1, .int .i64 a0_2, .int .i64 a0_3], .agg #[.string a1_0, .int .i64 a1_1, .int .i64 a1_2, .int .i64 a1_3]] w fun e w' => e = .returned (.bool r) ∧ Below w.heap.size w w' := by
 have hu43 := Tryd.underlying43
 have HB := zu.mk (Below.refl w.heap.size w)
 have H : (if a0_0.toList = a1_0.toList then (if a0_1 = a1_1 then (if a0_2 = a1_2 then (if a0_3 = a1_3 then (some true) else (some false)) else (some false)) else (some false)) else (some false)) = some r := h
 clear h
 by_cases c3 : a0_0.toList = a1_0.toList
 ·rw [if_pos c3] at H
  have c3b0 : (a0_0.toList == a1_0.toList) = true := beq_iff_eq.mpr c3
  have c3b1 : (a0_0.toList != a1_0.toList) = false := bne_eq_false_iff_eq.mpr c3
  clear c3
  by_cases c4 : a0_1 = a1_1
  ·rw [if_pos c4] at H
   have c4b0 : (a0_1 == a1_1) = true := beq_iff_eq.mpr c4
   have c4b1 : (a0_1 != a1_1) = false := bne_eq_false_iff_eq.mpr c4
   clear c4
   by_cases c5 : a0_2 = a1_2
   ·rw [if_pos c5] at H
    have c5b0 : (a0_2 == a1_2) = true := beq_iff_eq.mpr c5
    have c5b1 : (a0_2 != a1_2) = false := bne_eq_false_iff_eq.mpr c5
    clear c5
    by_cases c6 : a0_3 = a1_3
    ·rw [if_pos c6] at H
     have c6b0 : (a0_3 == a1_3) = true := beq_iff_eq.mpr c6
     have c6b1 : (a0_3 != a1_3) = false := bne_eq_false_iff_eq.mpr c6
     clear c6
     obtain rfl := Option.some.inj H
     go_enter Tryd.func49, Tryd.ntmps49
     go_wp2_with (first | ((with_reducible refine zn (N := 2) rfl ?_); refine zr ?hg (N := 2) ?hd (cs := #[.string a0_0, .int .i64 a0_1, .int .i64 a0_2, .int .i64 a0_3]) (t := 43) ?hr ?_; (case hd => rfl); (case hg => rfl); (case hr => first | (go_simp; done) | (go_simp; rfl)); intro gb277 hg w7 hbox hb; have n0_ := zu.mk (ze y0 hb); have n1_ := zu.mk (hbox); have n2_ := zu.mk ((by rw [hg]; exact (zg y0) : w.heap.size ≤ gb277)); have n3_ := zu.mk ((by rw [hg]; exact (zg y0) : w.heap.size ≤ gb277)); clear HB; have HB := n0_; have BK277 := n1_; have GW277 := n2_; have GE277 := n3_; clear n0_ n1_ n2_ n3_; clear hb hbox hg) | ((with_reducible refine zn (N := 3) rfl ?_); refine zr ?hg (N := 3) ?hd (cs := #[.string a1_0, .int .i64 a1_1, .int .i64 a1_2, .int .i64 a1_3]) (t := 43) ?hr ?_; (case hd => rfl); (case hg => rfl); (case hr => first | (go_simp; done) | (go_simp; rfl)); intro gb278 hg w8 hbox hb; have n0_ := zu.mk (zf (g := gb277) (o := .cells #[.string a0_0, .int .i64 a0_1, .int .i64 a0_2, .int .i64 a0_3] 43 (0, 0)) y5 hb); have n1_ := zu.mk (ze y4 hb); have n2_ := zu.mk (hbox); have n3_ := zu.mk ((by rw [hg]; exact (zg y4) : w.heap.size ≤ gb278)); have n4_ := zu.mk ((by rw [hg]; exact (zg y4) : w.heap.size ≤ gb278)); have n5_ := zu.mk ((by rw [hg]; exact Nat.ne_of_lt (zh (g := gb277) (o := .cells #[.string a0_0, .int .i64 a0_1, .int .i64 a0_2, .int .i64 a0_3] 43 (0, 0)) y5) : gb277 ≠ gb278)); have n6_ := zu.mk ((by rw [hg]; exact Nat.ne_of_gt (zh (g := gb277) (o := .cells #[.string a0_0, .int .i64 a0_1, .int .i64 a0_2, .int .i64 a0_3] 43 (0, 0)) y5) : gb278 ≠ gb277)); clear BK277; clear HB; have BK277 := n0_; have HB := n1_; have BK278 := n2_; have GW278 := n3_; have GE278 := n4_; have NB277_278 := n5_; have NB278_277 := n6_; clear n0_ n1_ n2_ n3_ n4_ n5_ n6_; clear hb hbox hg; have hnb9 := NB277_278.out; have hnc9 := NB278_277.out; obtain ⟨hcz10_0, hcz10_1, hcz10_2, hcz10_3⟩ := cbk4 BK277.out; obtain ⟨hfz10_0, hfz10_1, hfz10_2, hfz10_3⟩ := cbf4 BK277.out; obtain ⟨hcz11_0, hcz11_1, hcz11_2, hcz11_3⟩ := cbk4 BK278.out; obtain ⟨hfz11_0, hfz11_1, hfz11_2, hfz11_3⟩ := cbf4 BK278.out))
     go_ret
     exact ⟨by first | rfl | (simp [zj, zi] <;> rfl) | (simp [*, zj, zi] <;> rfl), y7⟩
    ·rw [if_neg c6] at H
     have c6b0 : (a0_3 == a1_3) = false := beq_eq_false_iff_ne.mpr c6
     have c6b1 : (a0_3 != a1_3) = true := bne_iff_ne.mpr c6
     obtain rfl := Option.some.inj H
     go_enter Tryd.func49, Tryd.ntmps49
     go_wp2_with (first | ((with_reducible refine zn (N := 2) rfl ?_); refine zr ?hg (N := 2) ?hd (cs := #[.string a0_0, .int .i64 a0_1, .int .i64 a0_2, .int .i64 a0_3]) (t := 43) ?hr ?_; (case hd => rfl); (case hg => rfl); (case hr => first | (go_simp; done) | (go_simp; rfl)); intro gb277 hg w12 hbox hb; have n0_ := zu.mk (ze y0 hb); have n1_ := zu.mk (hbox); have n2_ := zu.mk ((by rw [hg]; exact (zg y0) : w.heap.size ≤ gb277)); have n3_ := zu.mk ((by rw [hg]; exact (zg y0) : w.heap.size ≤ gb277)); clear HB; have HB := n0_; have BK277 := n1_; have GW277 := n2_; have GE277 := n3_; clear n0_ n1_ n2_ n3_; clear hb hbox hg) | ((with_reducible refine zn (N := 3) rfl ?_); refine zr ?hg (N := 3) ?hd (cs := #[.string a1_0, .int .i64 a1_1, .int .i64 a1_2, .int .i64 a1_3]) (t := 43) ?hr ?_; (case hd => rfl); (case hg => rfl); (case hr => first | (go_simp; done) | (go_simp; rfl)); intro gb278 hg w13 hbox hb; have n0_ := zu.mk (zf (g := gb277) (o := .cells #[.string a0_0, .int .i64 a0_1, .int .i64 a0_2, .int .i64 a0_3] 43 (0, 0)) y5 hb); have n1_ := zu.mk (ze y4 hb); have n2_ := zu.mk (hbox); have n3_ := zu.mk ((by rw [hg]; exact (zg y4) : w.heap.size ≤ gb278)); have n4_ := zu.mk ((by rw [hg]; exact (zg y4) : w.heap.size ≤ gb278)); have n5_ := zu.mk ((by rw [hg]; exact Nat.ne_of_lt (zh (g := gb277) (o := .cells #[.string a0_0, .int .i64 a0_1, .int .i64 a0_2, .int .i64 a0_3] 43 (0, 0)) y5) : gb277 ≠ gb278)); have n6_ := zu.mk ((by rw [hg]; exact Nat.ne_of_gt (zh (g := gb277) (o := .cells #[.string a0_0, .int .i64 a0_1, .int .i64 a0_2, .int .i64 a0_3] 43 (0, 0)) y5) : gb278 ≠ gb277)); clear BK277; clear HB; have BK277 := n0_; have HB := n1_; have BK278 := n2_; have GW278 := n3_; have GE278 := n4_; have NB277_278 := n5_; have NB278_277 := n6_; clear n0_ n1_ n2_ n3_ n4_ n5_ n6_; clear hb hbox hg; have hnb14 := NB277_278.out; have hnc14 := NB278_277.out; obtain ⟨hcz15_0, hcz15_1, hcz15_2, hcz15_3⟩ := cbk4 BK277.out; obtain ⟨hfz15_0, hfz15_1, hfz15_2, hfz15_3⟩ := cbf4 BK277.out; obtain ⟨hcz16_0, hcz16_1, hcz16_2, hcz16_3⟩ := cbk4 BK278.out; obtain ⟨hfz16_0, hfz16_1, hfz16_2, hfz16_3⟩ := cbf4 BK278.out))
     go_ret
     exact ⟨by first | rfl | (simp [zj, zi] <;> rfl) | (simp [*, zj, zi] <;> rfl), y7⟩
   ·rw [if_neg c5] at H
    have c5b0 : (a0_2 == a1_2) = false := beq_eq_false_iff_ne.mpr c5
    have c5b1 : (a0_2 != a1_2) = true := bne_iff_ne.mpr c5
    obtain rfl := Option.some.inj H
    go_enter Tryd.func49, Tryd.ntmps49
    go_wp2_with (first | ((with_reducible refine zn (N := 2) rfl ?_); refine zr ?hg (N := 2) ?hd (cs := #[.string a0_0, .int .i64 a0_1, .int .i64 a0_2, .int .i64 a0_3]) (t := 43) ?hr ?_; (case hd => rfl); (case hg => rfl); (case hr => first | (go_simp; done) | (go_simp; rfl)); intro gb277 hg w17 hbox hb; have n0_ := zu.mk (ze y0 hb); have n1_ := zu.mk (hbox); have n2_ := zu.mk ((by rw [hg]; exact (zg y0) : w.heap.size ≤ gb277)); have n3_ := zu.mk ((by rw [hg]; exact (zg y0) : w.heap.size ≤ gb277)); clear HB; have HB := n0_; have BK277 := n1_; have GW277 := n2_; have GE277 := n3_; clear n0_ n1_ n2_ n3_; clear hb hbox hg) | ((with_reducible refine zn (N := 3) rfl ?_); refine zr ?hg (N := 3) ?hd (cs := #[.string a1_0, .int .i64 a1_1, .int .i64 a1_2, .int .i64 a1_3]) (t := 43) ?hr ?_; (case hd => rfl); (case hg => rfl); (case hr => first | (go_simp; done) | (go_simp; rfl)); intro gb278 hg w18 hbox hb; have n0_ := zu.mk (zf (g := gb277) (o := .cells #[.string a0_0, .int .i64 a0_1, .int .i64 a0_2, .int .i64 a0_3] 43 (0, 0)) y5 hb); have n1_ := zu.mk (ze y4 hb); have n2_ := zu.mk (hbox); have n3_ := zu.mk ((by rw [hg]; exact (zg y4) : w.heap.size ≤ gb278)); have n4_ := zu.mk ((by rw [hg]; exact (zg y4) : w.heap.size ≤ gb278)); have n5_ := zu.mk ((by rw [hg]; exact Nat.ne_of_lt (zh (g := gb277) (o := .cells #[.string a0_0, .int .i64 a0_1, .int .i64 a0_2, .int .i64 a0_3] 43 (0, 0)) y5) : gb277 ≠ gb278)); have n6_ := zu.mk ((by rw [hg]; exact Nat.ne_of_gt (zh (g := gb277) (o := .cells #[.string a0_0, .int .i64 a0_1, .int .i64 a0_2, .int .i64 a0_3] 43 (0, 0)) y5) : gb278 ≠ gb277)); clear BK277; clear HB; have BK277 := n0_; have HB := n1_; have BK278 := n2_; have GW278 := n3_; have GE278 := n4_; have NB277_278 := n5_; have NB278_277 := n6_; clear n0_ n1_ n2_ n3_ n4_ n5_ n6_; clear hb hbox hg; have hnb19 := NB277_278.out; have hnc19 := NB278_277.out; obtain ⟨hcz20_0, hcz20_1, hcz20_2, hcz20_3⟩ := cbk4 BK277.out; obtain ⟨hfz20_0, hfz20_1, hfz20_2, hfz20_3⟩ := cbf4 BK277.out; obtain ⟨hcz21_0, hcz21_1, hcz21_2, hcz21_3⟩ := cbk4 BK278.out; obtain ⟨hfz21_0, hfz21_1, hfz21_2, hfz21_3⟩ := cbf4 BK278.out))
    go_ret
    exact ⟨by first | rfl | (simp [zj, zi] <;> rfl) | (simp [*, zj, zi] <;> rfl), y7⟩
  ·rw [if_neg c4] at H
   have c4b0 : (a0_1 == a1_1) = false := beq_eq_false_iff_ne.mpr c4
   have c4b1 : (a0_1 != a1_1) = true := bne_iff_ne.mpr c4
   obtain rfl := Option.some.inj H
   go_enter Tryd.func49, Tryd.ntmps49
   go_wp2_with (first | ((with_reducible refine zn (N := 2) rfl ?_); refine zr ?hg (N := 2) ?hd (cs := #[.string a0_0, .int .i64 a0_1, .int .i64 a0_2, .int .i64 a0_3]) (t := 43) ?hr ?_; (case hd => rfl); (case hg => rfl); (case hr => first | (go_simp; done) | (go_simp; rfl)); intro gb277 hg w22 hbox hb; have n0_ := zu.mk (ze y0 hb); have n1_ := zu.mk (hbox); have n2_ := zu.mk ((by rw [hg]; exact (zg y0) : w.heap.size ≤ gb277)); have n3_ := zu.mk ((by rw [hg]; exact (zg y0) : w.heap.size ≤ gb277)); clear HB; have HB := n0_; have BK277 := n1_; have GW277 := n2_; have GE277 := n3_; clear n0_ n1_ n2_ n3_; clear hb hbox hg) | ((with_reducible refine zn (N := 3) rfl ?_); refine zr ?hg (N := 3) ?hd (cs := #[.string a1_0, .int .i64 a1_1, .int .i64 a1_2, .int .i64 a1_3]) (t := 43) ?hr ?_; (case hd => rfl); (case hg => rfl); (case hr => first | (go_simp; done) | (go_simp; rfl)); intro gb278 hg w23 hbox hb; have n0_ := zu.mk (zf (g := gb277) (o := .cells #[.string a0_0, .int .i64 a0_1, .int .i64 a0_2, .int .i64 a0_3] 43 (0, 0)) y5 hb); have n1_ := zu.mk (ze y4 hb); have n2_ := zu.mk (hbox); have n3_ := zu.mk ((by rw [hg]; exact (zg y4) : w.heap.size ≤ gb278)); have n4_ := zu.mk ((by rw [hg]; exact (zg y4) : w.heap.size ≤ gb278)); have n5_ := zu.mk ((by rw [hg]; exact Nat.ne_of_lt (zh (g := gb277) (o := .cells #[.string a0_0, .int .i64 a0_1, .int .i64 a0_2, .int .i64 a0_3] 43 (0, 0)) y5) : gb277 ≠ gb278)); have n6_ := zu.mk ((by rw [hg]; exact Nat.ne_of_gt (zh (g := gb277) (o := .cells #[.string a0_0, .int .i64 a0_1, .int .i64 a0_2, .int .i64 a0_3] 43 (0, 0)) y5) : gb278 ≠ gb277)); clear BK277; clear HB; have BK277 := n0_; have HB := n1_; have BK278 := n2_; have GW278 := n3_; have GE278 := n4_; have NB277_278 := n5_; have NB278_277 := n6_; clear n0_ n1_ n2_ n3_ n4_ n5_ n6_; clear hb hbox hg; have hnb24 := NB277_278.out; have hnc24 := NB278_277.out; obtain ⟨hcz25_0, hcz25_1, hcz25_2, hcz25_3⟩ := cbk4 BK277.out; obtain ⟨hfz25_0, hfz25_1, hfz25_2, hfz25_3⟩ := cbf4 BK277.out; obtain ⟨hcz26_0, hcz26_1, hcz26_2, hcz26_3⟩ := cbk4 BK278.out; obtain ⟨hfz26_0, hfz26_1, hfz26_2, hfz26_3⟩ := cbf4 BK278.out))
   go_ret
   exact ⟨by first | rfl | (simp [zj, zi] <;> rfl) | (simp [*, zj, zi] <;> rfl), y7⟩
 ·rw [if_neg c3] at H
  have c3b0 : (a0_0.toList == a1_0.toList) = false := beq_eq_false_iff_ne.mpr c3
  have c3b1 : (a0_0.toList != a1_0.toList) = true := bne_iff_ne.mpr c3
  obtain rfl := Option.some.inj H
  go_enter Tryd.func49, Tryd.ntmps49
  go_wp2_with (first | ((with_reducible refine zn (N := 2) rfl ?_); refine zr ?hg (N := 2) ?hd (cs := #[.string a0_0, .int .i64 a0_1, .int .i64 a0_2, .int .i64 a0_3]) (t := 43) ?hr ?_; (case hd => rfl); (case hg => rfl); (case hr => first | (go_simp; done) | (go_simp; rfl)); intro gb277 hg w27 hbox hb; have n0_ := zu.mk (ze y0 hb); have n1_ := zu.mk (hbox); have n2_ := zu.mk ((by rw [hg]; exact (zg y0) : w.heap.size ≤ gb277)); have n3_ := zu.mk ((by rw [hg]; exact (zg y0) : w.heap.size ≤ gb277)); clear HB; have HB := n0_; have BK277 := n1_; have GW277 := n2_; have GE277 := n3_; clear n0_ n1_ n2_ n3_; clear hb hbox hg) | ((with_reducible refine zn (N := 3) rfl ?_); refine zr ?hg (N := 3) ?hd (cs := #[.string a1_0, .int .i64 a1_1, .int .i64 a1_2, .int .i64 a1_3]) (t := 43) ?hr ?_; (case hd => rfl); (case hg => rfl); (case hr => first | (go_simp; done) | (go_simp; rfl)); intro gb278 hg w28 hbox hb; have n0_ := zu.mk (zf (g := gb277) (o := .cells #[.string a0_0, .int .i64 a0_1, .int .i64 a0_2, .int .i64 a0_3] 43 (0, 0)) y5 hb); have n1_ := zu.mk (ze y4 hb); have n2_ := zu.mk (hbox); have n3_ := zu.mk ((by rw [hg]; exact (zg y4) : w.heap.size ≤ gb278)); have n4_ := zu.mk ((by rw [hg]; exact (zg y4) : w.heap.size ≤ gb278)); have n5_ := zu.mk ((by rw [hg]; exact Nat.ne_of_lt (zh (g := gb277) (o := .cells #[.string a0_0, .int .i64 a0_1, .int .i64 a0_2, .int .i64 a0_3] 43 (0, 0)) y5) : gb277 ≠ gb278)); have n6_ := zu.mk ((by rw [hg]; exact Nat.ne_of_gt (zh (g := gb277) (o := .cells #[.string a0_0, .int .i64 a0_1, .int .i64 a0_2, .int .i64 a0_3] 43 (0, 0)) y5) : gb278 ≠ gb277)); clear BK277; clear HB; have BK277 := n0_; have HB := n1_; have BK278 := n2_; have GW278 := n3_; have GE278 := n4_; have NB277_278 := n5_; have NB278_277 := n6_; clear n0_ n1_ n2_ n3_ n4_ n5_ n6_; clear hb hbox hg; have hnb29 := NB277_278.out; have hnc29 := NB278_277.out; obtain ⟨hcz30_0, hcz30_1, hcz30_2, hcz30_3⟩ := cbk4 BK277.out; obtain ⟨hfz30_0, hfz30_1, hfz30_2, hfz30_3⟩ := cbf4 BK277.out; obtain ⟨hcz31_0, hcz31_1, hcz31_2, hcz31_3⟩ := cbk4 BK278.out; obtain ⟨hfz31_0, hfz31_1, hfz31_2, hfz31_3⟩ := cbf4 BK278.out))
  go_ret
  exact ⟨by first | rfl | (simp [zj, zi] <;> rfl) | (simp [*, zj, zi] <;> rfl), y7⟩
def laws_eqTokenS.l0 : Nat → List (S43) → List (S43) → Int → Option (Bool)
 | 0, _, _, _ => none
 | k + 1, x0, x1, x5 => if x5 < (x0.length : Int) then (if 0 ≤ x5 then (if x5 < (x1.length : Int) then ((laws_eqToken.f ((rd_T43 x0 x5).f0) ((rd_T43 x0 x5).f1) ((rd_T43 x0 x5).f2) ((rd_T43 x0 x5).f3) ((rd_T43 x1 x5).f0) ((rd_T43 x1 x5).f1) ((rd_T43 x1 x5).f2) ((rd_T43 x1 x5).f3)).bind fun t281 => (if t281 = true then (laws_eqTokenS.l0 k x0 x1 (wrap64 (x5 + 1))) else (some false))) else (none)) else (none)) else (some true)
def laws_eqTokenS.f (k : Nat) (l0 : List (S43)) (l1 : List (S43)) : Option (Bool) := if (l0.length : Int) = (l1.length : Int) then (laws_eqTokenS.l0 k l0 l1 0) else (some false)
def laws_eqTokenS.T6 : Bool × List (List Nat × List Nat) := (true, [([], []), ([], []), ([0, 1], [0, 1]), ([2], [2]), ([], []), ([], []), ([4, 5], [4, 5]), ([6], [6]), ([3, 7], [3, 7]), ([8], [8])])
def laws_eqTokenS.B6 : List Nat := [0, 0, 3, 7, 0, 0, 48, 112, 255, 511]
theorem laws_eqTokenS.tab6 : rtab .any (opsOf Tryd.f16 6) = laws_eqTokenS.T6 := by kernel_rfl
theorem laws_eqTokenS.bits6 : waitsOk laws_eqTokenS.T6.2 laws_eqTokenS.B6 = true := by kernel_rfl
set_option maxHeartbeats 8000000 in
set_option maxRecDepth 100000 in
theorem laws_eqTokenS.calls (k : Nat) (A0 : Option Addr) (c0 : Nat) (l0 : List (S43)) (A1 : Option Addr) (c1 : Nat) (l1 : List (S43)) (r : Bool) (w : World) (hr0 : Kd.C k43 w A0 l0.length l0) (hc0 : l0.length ≤ c0) (hr1 : Kd.C k43 w A1 l1.length l1) (hc1 : l1.length ≤ c1) (h : laws_eqTokenS.f k l0 l1 = some r) :
  Calls Tryd.prog 16 #[.slice A0 l0.length c0, .slice A1 l1.length c1] w fun e w' => e = .returned (.bool r) ∧ Below w.heap.size w w' := by
 have hu43 := Tryd.underlying43
 have HR0 := zu.mk hr0
 have HC0 := zu.mk hc0
 clear hr0 hc0
 have HR1 := zu.mk hr1
 have HC1 := zu.mk hc1
 clear hr1 hc1
 have HB := zu.mk (Below.refl w.heap.size w)
 have H : (if (l0.length : Int) = (l1.length : Int) then (laws_eqTokenS.l0 k l0 l1 0) else (some false)) = some r := h
 clear h
 by_cases c3 : (l0.length : Int) = (l1.length : Int)
 ·rw [if_pos c3] at H
  have c3b0 : ((l0.length : Int) == (l1.length : Int)) = true := beq_iff_eq.mpr c3
  have c3b1 : ((l0.length : Int) != (l1.length : Int)) = false := bne_eq_false_iff_eq.mpr c3
  have c3b2 : (l0.length == l1.length) = true := by first | simpa using c3 | (simp at c3 ⊢; omega)
  clear c3
  have H' := zu.mk H
  clear H
  go_enter Tryd.func16, Tryd.ntmps16
  go_wp2
  go_loopg [5] k (fun kq v5 w' => ∃ (x5_1 : Int), v5 = .int .i64 x5_1 ∧ zu (laws_eqTokenS.l0 kq l0 l1 x5_1 = some r) ∧ zu (kq ≤ k) ∧ zu (Below w.heap.size w w'))
  case atStart => exact ⟨(0), (by first | rfl | (simp; done) | (simp [*]; done)), H', ⟨um _⟩, ⟨y0⟩⟩
  case round =>
   clear H'
   try clear c1
   try clear p2
   try clear c3
   try clear c3b0
   try clear c3b1
   try clear c3b2
   obtain ⟨x5_1, rfl, HA, HK1, HB⟩ := hrel
   cases gk with
   | zero => exact absurd HA.out (by simp [laws_eqTokenS.l0])
   | succ k1 =>
    have H := HA.out
    clear HA
    simp only [laws_eqTokenS.l0] at H
    by_cases c4 : x5_1 < (l0.length : Int)
    ·rw [if_pos c4] at H
     have c4b0 : decide (x5_1 < (l0.length : Int)) = true := decide_eq_true c4
     clear c4
     by_cases c5 : 0 ≤ x5_1
     ·rw [if_pos c5] at H
      have c5b0 : decide (0 ≤ x5_1) = true := decide_eq_true c5
      clear c5
      by_cases c6 : x5_1 < (l1.length : Int)
      ·rw [if_pos c6] at H
       have c6b0 : decide (x5_1 < (l1.length : Int)) = true := decide_eq_true c6
       clear c6
       replace H := ue.mp H
       obtain ⟨t281, A70, H⟩ := H
       replace H : (if t281 = true then (laws_eqTokenS.l0 k1 l0 l1 (wrap64 (x5_1 + 1))) else (some false)) = some r := H
       have A7 := zu.mk A70
       clear A70
       by_cases c8 : t281 = true
       ·subst c8
        have H1 : (laws_eqTokenS.l0 k1 l0 l1 (wrap64 (x5_1 + 1))) = some r := by rw [if_pos rfl] at H; exact H
        clear H
        have H := H1
        clear H1
        have H' := zu.mk H
        clear H
        try go_wp2
        have n0_ := zu.mk (z6 HB.out)
        clear HB
        have HB := n0_
        clear n0_
        have p279 : 0 ≤ (x5_1 : Int) := of_decide_eq_true (by first | (with_reducible assumption) | assumption)
        have q279 : x5_1 < (l0.length : Int) := of_decide_eq_true (by first | (with_reducible assumption) | assumption)
        obtain ⟨ad279, e279, hx279_0, hx279_1, hx279_2, hx279_3⟩ := at_T43 HR0.out x5_1 p279 q279
        have hw279_3 := hx279_3
        have hw279_2 := hx279_2
        have hw279_1 := hx279_1
        have hw279_0 := hx279_0
        cases e279
        replace hx279_0 := (HB.out.cell (ua w _ hx279_0)).trans hx279_0
        replace hx279_1 := (HB.out.cell (ua w _ hx279_1)).trans hx279_1
        replace hx279_2 := (HB.out.cell (ua w _ hx279_2)).trans hx279_2
        replace hx279_3 := (HB.out.cell (ua w _ hx279_3)).trans hx279_3
        replace p279 := eq_true p279
        replace q279 := eq_true q279
        have p280 : 0 ≤ (x5_1 : Int) := of_decide_eq_true (by first | (with_reducible assumption) | assumption)
        have q280 : x5_1 < (l1.length : Int) := of_decide_eq_true (by first | (with_reducible assumption) | assumption)
        obtain ⟨ad280, e280, hx280_0, hx280_1, hx280_2, hx280_3⟩ := at_T43 HR1.out x5_1 p280 q280
        have hw280_3 := hx280_3
        have hw280_2 := hx280_2
        have hw280_1 := hx280_1
        have hw280_0 := hx280_0
        cases e280
        replace hx280_0 := (HB.out.cell (ua w _ hx280_0)).trans hx280_0
        replace hx280_1 := (HB.out.cell (ua w _ hx280_1)).trans hx280_1
        replace hx280_2 := (HB.out.cell (ua w _ hx280_2)).trans hx280_2
        replace hx280_3 := (HB.out.cell (ua w _ hx280_3)).trans hx280_3
        replace p280 := eq_true p280
        replace q280 := eq_true q280
        refine start_ (n := 10) (S := fun w' => w'.cell? (ad279.add ((x5_1).toNat * 4)) = some (.string ((rd_T43 l0 x5_1).f0)) ∧ w'.cell? ⟨(ad279.add ((x5_1).toNat * 4)).block, (ad279.add ((x5_1).toNat * 4)).off + 1, none⟩ = some (.int .i64 ((rd_T43 l0 x5_1).f1)) ∧ w'.cell? ⟨(ad279.add ((x5_1).toNat * 4)).block, (ad279.add ((x5_1).toNat * 4)).off + 2, none⟩ = some (.int .i64 ((rd_T43 l0 x5_1).f2)) ∧ w'.cell? ⟨(ad279.add ((x5_1).toNat * 4)).block, (ad279.add ((x5_1).toNat * 4)).off + 3, none⟩ = some (.int .i64 ((rd_T43 l0 x5_1).f3)) ∧ w'.cell? (ad280.add ((x5_1).toNat * 4)) = some (.string ((rd_T43 l1 x5_1).f0)) ∧ w'.cell? ⟨(ad280.add ((x5_1).toNat * 4)).block, (ad280.add ((x5_1).toNat * 4)).off + 1, none⟩ = some (.int .i64 ((rd_T43 l1 x5_1).f1)) ∧ w'.cell? ⟨(ad280.add ((x5_1).toNat * 4)).block, (ad280.add ((x5_1).toNat * 4)).off + 2, none⟩ = some (.int .i64 ((rd_T43 l1 x5_1).f2)) ∧ w'.cell? ⟨(ad280.add ((x5_1).toNat * 4)).block, (ad280.add ((x5_1).toNat * 4)).off + 3, none⟩ = some (.int .i64 ((rd_T43 l1 x5_1).f3))) (ds := []) #[false, false, false, false, false, false, false, false, false, false] (by kernel_rfl) rfl rfl ⟨((HB.out.cell (ua w _ hw279_0)).trans hw279_0), ((HB.out.cell (ua w _ hw279_1)).trans hw279_1), ((HB.out.cell (ua w _ hw279_2)).trans hw279_2), ((HB.out.cell (ua w _ hw279_3)).trans hw279_3), ((HB.out.cell (ua w _ hw280_0)).trans hw280_0), ((HB.out.cell (ua w _ hw280_1)).trans hw280_1), ((HB.out.cell (ua w _ hw280_2)).trans hw280_2), ((HB.out.cell (ua w _ hw280_3)).trans hw280_3)⟩ (fun hHeld => ?_); refine with_tabW laws_eqTokenS.tab6 laws_eqTokenS.bits6 (fun HT_ HW_ => ?_)
        generalize wr.drew = w9 at HB hx279_0 hx279_1 hx279_2 hx279_3 hx280_0 hx280_1 hx280_2 hx280_3 hHeld ⊢
        refine pure_ (i := 0) (N := some 17) (v := ?_) (a' := ?_) #[true, false, false, false, false, false, false, false, false, false] rfl rfl (any_of HT_.out (by kernel_rfl)) (fun _ _ _ h => h) (Or.inl ⟨by rfl, ?_⟩) ?_ ?_
        rotate_left
        ·intro w'
         go_simp
         with_reducible rfl
        rotate_left
        ·simp only [Act.put, ub, uc, ud, zk, zl]
         rfl
        refine pure_ (i := 1) (N := some 18) (v := ?_) (a' := ?_) #[true, true, false, false, false, false, false, false, false, false] rfl rfl (any_of HT_.out (by kernel_rfl)) (fun _ _ _ h => h) (Or.inl ⟨by rfl, ?_⟩) ?_ ?_
        rotate_left
        ·intro w'
         go_simp
         with_reducible rfl
        rotate_left
        ·simp only [Act.put, ub, uc, ud, zk, zl]
         rfl
        refine pure_ (i := 2) (N := some 19) (v := ?_) (a' := ?_) #[true, true, true, false, false, false, false, false, false, false] rfl rfl (any_of HT_.out (by kernel_rfl)) (fun _ _ _ h => h) (Or.inl ⟨by rfl, ?_⟩) ?_ ?_
        rotate_left
        ·intro w'
         go_simp
         with_reducible rfl
        rotate_left
        ·simp only [Act.put, ub, uc, ud, zk, zl]
         rfl
        refine pure_ (i := 4) (N := some 21) (v := ?_) (a' := ?_) #[true, true, true, false, true, false, false, false, false, false] rfl rfl (any_of HT_.out (by kernel_rfl)) (fun _ _ _ h => h) (Or.inl ⟨by rfl, ?_⟩) ?_ ?_
        rotate_left
        ·intro w'
         go_simp
         with_reducible rfl
        rotate_left
        ·simp only [Act.put, ub, uc, ud, zk, zl]
         rfl
        refine pure_ (i := 5) (N := some 22) (v := ?_) (a' := ?_) #[true, true, true, false, true, true, false, false, false, false] rfl rfl (any_of HT_.out (by kernel_rfl)) (fun _ _ _ h => h) (Or.inl ⟨by rfl, ?_⟩) ?_ ?_
        rotate_left
        ·intro w'
         go_simp
         with_reducible rfl
        rotate_left
        ·simp only [Act.put, ub, uc, ud, zk, zl]
         rfl
        refine pure_ (i := 6) (N := some 23) (v := ?_) (a' := ?_) #[true, true, true, false, true, true, true, false, false, false] rfl rfl (any_of HT_.out (by kernel_rfl)) (fun _ _ _ h => h) (Or.inl ⟨by rfl, ?_⟩) ?_ ?_
        rotate_left
        ·intro w'
         go_simp
         with_reducible rfl
        rotate_left
        ·simp only [Act.put, ub, uc, ud, zk, zl]
         rfl
        refine take_ (i := 3) (N := some 20) (v := ?_) (a' := ?_) #[true, true, true, true, true, true, true, false, false, false] rfl rfl (take_ofW HT_.out HW_.out (by kernel_rfl)) (fun _ _ _ h => h) (Or.inl ⟨by rfl, ?_⟩) hHeld ?_ ?_
        rotate_left
        ·rintro w' ⟨s0, s1, s2, s3, s4, s5, s6, s7⟩
         go_simp
         with_reducible rfl
        rotate_left
        ·simp only [Act.put, ub, uc, ud, zk, zl]
         rfl
        refine take_ (i := 7) (N := some 24) (v := ?_) (a' := ?_) #[true, true, true, true, true, true, true, true, false, false] rfl rfl (take_ofW HT_.out HW_.out (by kernel_rfl)) (fun _ _ _ h => h) (Or.inl ⟨by rfl, ?_⟩) hHeld ?_ ?_
        rotate_left
        ·rintro w' ⟨s0, s1, s2, s3, s4, s5, s6, s7⟩
         go_simp
         with_reducible rfl
        rotate_left
        ·simp only [Act.put, ub, uc, ud, zk, zl]
         rfl
        refine one_ (i := 8) (N := some 25) #[true, true, true, true, true, true, true, true, true, false] rfl rfl (one_of HT_.out (by kernel_rfl)) (by decide) (fun K hK => ?_)
        refine goes_ Tryd.func49 (by kernel_rfl) rfl #[.agg #[.string ((rd_T43 l0 x5_1).f0), .int .i64 ((rd_T43 l0 x5_1).f1), .int .i64 ((rd_T43 l0 x5_1).f2), .int .i64 ((rd_T43 l0 x5_1).f3)], .agg #[.string ((rd_T43 l1 x5_1).f0), .int .i64 ((rd_T43 l1 x5_1).f1), .int .i64 ((rd_T43 l1 x5_1).f2), .int .i64 ((rd_T43 l1 x5_1).f3)]] (by rfl) rfl rfl (by (try simp only [uh, ui, uj]); first | done | rfl | (simp only [uf, ug]; rfl)) ?_
        with_reducible refine (laws_eqToken.calls ((rd_T43 l0 x5_1).f0) ((rd_T43 l0 x5_1).f1) ((rd_T43 l0 x5_1).f2) ((rd_T43 l0 x5_1).f3) ((rd_T43 l1 x5_1).f0) ((rd_T43 l1 x5_1).f1) ((rd_T43 l1 x5_1).f2) ((rd_T43 l1 x5_1).f3) true _ A7.out).mono ?_
        rintro e w10 ⟨rfl, hb⟩
        refine ⟨_, rfl, ?_⟩
        have n0_ := zu.mk (ze y0 hb)
        clear HB
        have HB := n0_
        clear n0_
        (try clear hb)
        (try clear hb2)
        (try clear hk)
        (try clear hi)
        refine hK.out _ _ ⟨((HB.out.cell (ua w _ hw279_0)).trans hw279_0), ((HB.out.cell (ua w _ hw279_1)).trans hw279_1), ((HB.out.cell (ua w _ hw279_2)).trans hw279_2), ((HB.out.cell (ua w _ hw279_3)).trans hw279_3), ((HB.out.cell (ua w _ hw280_0)).trans hw280_0), ((HB.out.cell (ua w _ hw280_1)).trans hw280_1), ((HB.out.cell (ua w _ hw280_2)).trans hw280_2), ((HB.out.cell (ua w _ hw280_3)).trans hw280_3)⟩ (fun hHeld => ?_)
        clear hK K
        refine norm_ (a' := ?_) ?_ ?_
        rotate_left
        ·show Act.put _ (some 25) _ = _
         simp only [Act.put, ub, uc, ud, zk, zl]
         rfl
        refine pure_ (i := 9) (N := some 26) (v := ?_) (a' := ?_) #[true, true, true, true, true, true, true, true, true, true] rfl rfl (any_of HT_.out (by kernel_rfl)) (fun _ _ _ h => h) (Or.inl ⟨by rfl, ?_⟩) ?_ ?_
        rotate_left
        ·intro w'
         go_simp
         with_reducible rfl
        rotate_left
        ·simp only [Act.put, ub, uc, ud, zk, zl]
         rfl
        refine done_ (done_of HT_.out (by kernel_rfl)) ?_
        try go_wp2
        go_roundg k1
        case measure => have := HK1.out; omega
        case rel => exact ⟨(wrap64 (x5_1 + 1)), (by first | rfl | (simp; done) | (simp [*]; done)), H', ⟨by have := HK1.out; omega⟩, ⟨y0⟩⟩
       ·replace c8 := Bool.eq_false_iff.mpr c8
        subst c8
        have H1 : (some false) = some r := by rw [if_neg (show ¬ (false = true) by decide)] at H; exact H
        clear H
        have H := H1
        clear H1
        obtain rfl := Option.some.inj H
        try go_wp2
        have n0_ := zu.mk (z6 HB.out)
        clear HB
        have HB := n0_
        clear n0_
        have p279 : 0 ≤ (x5_1 : Int) := of_decide_eq_true (by first | (with_reducible assumption) | assumption)
        have q279 : x5_1 < (l0.length : Int) := of_decide_eq_true (by first | (with_reducible assumption) | assumption)
        obtain ⟨ad279, e279, hx279_0, hx279_1, hx279_2, hx279_3⟩ := at_T43 HR0.out x5_1 p279 q279
        have hw279_3 := hx279_3
        have hw279_2 := hx279_2
        have hw279_1 := hx279_1
        have hw279_0 := hx279_0
        cases e279
        replace hx279_0 := (HB.out.cell (ua w _ hx279_0)).trans hx279_0
        replace hx279_1 := (HB.out.cell (ua w _ hx279_1)).trans hx279_1
        replace hx279_2 := (HB.out.cell (ua w _ hx279_2)).trans hx279_2
        replace hx279_3 := (HB.out.cell (ua w _ hx279_3)).trans hx279_3
        replace p279 := eq_true p279
        replace q279 := eq_true q279
        have p280 : 0 ≤ (x5_1 : Int) := of_decide_eq_true (by first | (with_reducible assumption) | assumption)
        have q280 : x5_1 < (l1.length : Int) := of_decide_eq_true (by first | (with_reducible assumption) | assumption)
        obtain ⟨ad280, e280, hx280_0, hx280_1, hx280_2, hx280_3⟩ := at_T43 HR1.out x5_1 p280 q280
        have hw280_3 := hx280_3
        have hw280_2 := hx280_2
        have hw280_1 := hx280_1
        have hw280_0 := hx280_0
        cases e280
        replace hx280_0 := (HB.out.cell (ua w _ hx280_0)).trans hx280_0
        replace hx280_1 := (HB.out.cell (ua w _ hx280_1)).trans hx280_1
        replace hx280_2 := (HB.out.cell (ua w _ hx280_2)).trans hx280_2
        replace hx280_3 := (HB.out.cell (ua w _ hx280_3)).trans hx280_3
        replace p280 := eq_true p280
        replace q280 := eq_true q280
        refine start_ (n := 10) (S := fun w' => w'.cell? (ad279.add ((x5_1).toNat * 4)) = some (.string ((rd_T43 l0 x5_1).f0)) ∧ w'.cell? ⟨(ad279.add ((x5_1).toNat * 4)).block, (ad279.add ((x5_1).toNat * 4)).off + 1, none⟩ = some (.int .i64 ((rd_T43 l0 x5_1).f1)) ∧ w'.cell? ⟨(ad279.add ((x5_1).toNat * 4)).block, (ad279.add ((x5_1).toNat * 4)).off + 2, none⟩ = some (.int .i64 ((rd_T43 l0 x5_1).f2)) ∧ w'.cell? ⟨(ad279.add ((x5_1).toNat * 4)).block, (ad279.add ((x5_1).toNat * 4)).off + 3, none⟩ = some (.int .i64 ((rd_T43 l0 x5_1).f3)) ∧ w'.cell? (ad280.add ((x5_1).toNat * 4)) = some (.string ((rd_T43 l1 x5_1).f0)) ∧ w'.cell? ⟨(ad280.add ((x5_1).toNat * 4)).block, (ad280.add ((x5_1).toNat * 4)).off + 1, none⟩ = some (.int .i64 ((rd_T43 l1 x5_1).f1)) ∧ w'.cell? ⟨(ad280.add ((x5_1).toNat * 4)).block, (ad280.add ((x5_1).toNat * 4)).off + 2, none⟩ = some (.int .i64 ((rd_T43 l1 x5_1).f2)) ∧ w'.cell? ⟨(ad280.add ((x5_1).toNat * 4)).block, (ad280.add ((x5_1).toNat * 4)).off + 3, none⟩ = some (.int .i64 ((rd_T43 l1 x5_1).f3))) (ds := []) #[false, false, false, false, false, false, false, false, false, false] (by kernel_rfl) rfl rfl ⟨((HB.out.cell (ua w _ hw279_0)).trans hw279_0), ((HB.out.cell (ua w _ hw279_1)).trans hw279_1), ((HB.out.cell (ua w _ hw279_2)).trans hw279_2), ((HB.out.cell (ua w _ hw279_3)).trans hw279_3), ((HB.out.cell (ua w _ hw280_0)).trans hw280_0), ((HB.out.cell (ua w _ hw280_1)).trans hw280_1), ((HB.out.cell (ua w _ hw280_2)).trans hw280_2), ((HB.out.cell (ua w _ hw280_3)).trans hw280_3)⟩ (fun hHeld => ?_); refine with_tabW laws_eqTokenS.tab6 laws_eqTokenS.bits6 (fun HT_ HW_ => ?_)
        generalize wr.drew = w11 at HB hx279_0 hx279_1 hx279_2 hx279_3 hx280_0 hx280_1 hx280_2 hx280_3 hHeld ⊢
        refine pure_ (i := 0) (N := some 17) (v := ?_) (a' := ?_) #[true, false, false, false, false, false, false, false, false, false] rfl rfl (any_of HT_.out (by kernel_rfl)) (fun _ _ _ h => h) (Or.inl ⟨by rfl, ?_⟩) ?_ ?_
        rotate_left
        ·intro w'
         go_simp
         with_reducible rfl
        rotate_left
        ·simp only [Act.put, ub, uc, ud, zk, zl]
         rfl
        refine pure_ (i := 1) (N := some 18) (v := ?_) (a' := ?_) #[true, true, false, false, false, false, false, false, false, false] rfl rfl (any_of HT_.out (by kernel_rfl)) (fun _ _ _ h => h) (Or.inl ⟨by rfl, ?_⟩) ?_ ?_
        rotate_left
        ·intro w'
         go_simp
         with_reducible rfl
        rotate_left
        ·simp only [Act.put, ub, uc, ud, zk, zl]
         rfl
        refine pure_ (i := 2) (N := some 19) (v := ?_) (a' := ?_) #[true, true, true, false, false, false, false, false, false, false] rfl rfl (any_of HT_.out (by kernel_rfl)) (fun _ _ _ h => h) (Or.inl ⟨by rfl, ?_⟩) ?_ ?_
        rotate_left
        ·intro w'
         go_simp
         with_reducible rfl
        rotate_left
        ·simp only [Act.put, ub, uc, ud, zk, zl]
         rfl
        refine pure_ (i := 4) (N := some 21) (v := ?_) (a' := ?_) #[true, true, true, false, true, false, false, false, false, false] rfl rfl (any_of HT_.out (by kernel_rfl)) (fun _ _ _ h => h) (Or.inl ⟨by rfl, ?_⟩) ?_ ?_
        rotate_left
        ·intro w'
         go_simp
         with_reducible rfl
        rotate_left
        ·simp only [Act.put, ub, uc, ud, zk, zl]
         rfl
        refine pure_ (i := 5) (N := some 22) (v := ?_) (a' := ?_) #[true, true, true, false, true, true, false, false, false, false] rfl rfl (any_of HT_.out (by kernel_rfl)) (fun _ _ _ h => h) (Or.inl ⟨by rfl, ?_⟩) ?_ ?_
        rotate_left
        ·intro w'
         go_simp
         with_reducible rfl
        rotate_left
        ·simp only [Act.put, ub, uc, ud, zk, zl]
         rfl
        refine pure_ (i := 6) (N := some 23) (v := ?_) (a' := ?_) #[true, true, true, false, true, true, true, false, false, false] rfl rfl (any_of HT_.out (by kernel_rfl)) (fun _ _ _ h => h) (Or.inl ⟨by rfl, ?_⟩) ?_ ?_
        rotate_left
        ·intro w'
         go_simp
         with_reducible rfl
        rotate_left
        ·simp only [Act.put, ub, uc, ud, zk, zl]
         rfl
        refine take_ (i := 3) (N := some 20) (v := ?_) (a' := ?_) #[true, true, true, true, true, true, true, false, false, false] rfl rfl (take_ofW HT_.out HW_.out (by kernel_rfl)) (fun _ _ _ h => h) (Or.inl ⟨by rfl, ?_⟩) hHeld ?_ ?_
        rotate_left
        ·rintro w' ⟨s0, s1, s2, s3, s4, s5, s6, s7⟩
         go_simp
         with_reducible rfl
        rotate_left
        ·simp only [Act.put, ub, uc, ud, zk, zl]
         rfl
        refine take_ (i := 7) (N := some 24) (v := ?_) (a' := ?_) #[true, true, true, true, true, true, true, true, false, false] rfl rfl (take_ofW HT_.out HW_.out (by kernel_rfl)) (fun _ _ _ h => h) (Or.inl ⟨by rfl, ?_⟩) hHeld ?_ ?_
        rotate_left
        ·rintro w' ⟨s0, s1, s2, s3, s4, s5, s6, s7⟩
         go_simp
         with_reducible rfl
        rotate_left
        ·simp only [Act.put, ub, uc, ud, zk, zl]
         rfl
        refine one_ (i := 8) (N := some 25) #[true, true, true, true, true, true, true, true, true, false] rfl rfl (one_of HT_.out (by kernel_rfl)) (by decide) (fun K hK => ?_)
        refine goes_ Tryd.func49 (by kernel_rfl) rfl #[.agg #[.string ((rd_T43 l0 x5_1).f0), .int .i64 ((rd_T43 l0 x5_1).f1), .int .i64 ((rd_T43 l0 x5_1).f2), .int .i64 ((rd_T43 l0 x5_1).f3)], .agg #[.string ((rd_T43 l1 x5_1).f0), .int .i64 ((rd_T43 l1 x5_1).f1), .int .i64 ((rd_T43 l1 x5_1).f2), .int .i64 ((rd_T43 l1 x5_1).f3)]] (by rfl) rfl rfl (by (try simp only [uh, ui, uj]); first | done | rfl | (simp only [uf, ug]; rfl)) ?_
        with_reducible refine (laws_eqToken.calls ((rd_T43 l0 x5_1).f0) ((rd_T43 l0 x5_1).f1) ((rd_T43 l0 x5_1).f2) ((rd_T43 l0 x5_1).f3) ((rd_T43 l1 x5_1).f0) ((rd_T43 l1 x5_1).f1) ((rd_T43 l1 x5_1).f2) ((rd_T43 l1 x5_1).f3) false _ A7.out).mono ?_
        rintro e w12 ⟨rfl, hb⟩
        refine ⟨_, rfl, ?_⟩
        have n0_ := zu.mk (ze y0 hb)
        clear HB
        have HB := n0_
        clear n0_
        (try clear hb)
        (try clear hb2)
        (try clear hk)
        (try clear hi)
        refine hK.out _ _ ⟨((HB.out.cell (ua w _ hw279_0)).trans hw279_0), ((HB.out.cell (ua w _ hw279_1)).trans hw279_1), ((HB.out.cell (ua w _ hw279_2)).trans hw279_2), ((HB.out.cell (ua w _ hw279_3)).trans hw279_3), ((HB.out.cell (ua w _ hw280_0)).trans hw280_0), ((HB.out.cell (ua w _ hw280_1)).trans hw280_1), ((HB.out.cell (ua w _ hw280_2)).trans hw280_2), ((HB.out.cell (ua w _ hw280_3)).trans hw280_3)⟩ (fun hHeld => ?_)
        clear hK K
        refine norm_ (a' := ?_) ?_ ?_
        rotate_left
        ·show Act.put _ (some 25) _ = _
         simp only [Act.put, ub, uc, ud, zk, zl]
         rfl
        refine pure_ (i := 9) (N := some 26) (v := ?_) (a' := ?_) #[true, true, true, true, true, true, true, true, true, true] rfl rfl (any_of HT_.out (by kernel_rfl)) (fun _ _ _ h => h) (Or.inl ⟨by rfl, ?_⟩) ?_ ?_
        rotate_left
        ·intro w'
         go_simp
         with_reducible rfl
        rotate_left
        ·simp only [Act.put, ub, uc, ud, zk, zl]
         rfl
        refine done_ (done_of HT_.out (by kernel_rfl)) ?_
        try go_wp2
        go_ret
        exact ⟨by first | rfl | (simp [zj, zi] <;> rfl) | (simp [*, zj, zi] <;> rfl), y0⟩
      ·rw [if_neg c6] at H
       exact absurd H (by simp)
     ·rw [if_neg c5] at H
      exact absurd H (by simp)
    ·rw [if_neg c4] at H
     have c4b0 : decide (x5_1 < (l0.length : Int)) = false := decide_eq_false c4
     clear c4
     obtain rfl := Option.some.inj H
     go_wp2
     go_ret
     exact ⟨by first | rfl | (simp [zj, zi] <;> rfl) | (simp [*, zj, zi] <;> rfl), y0⟩
 ·rw [if_neg c3] at H
  have c3b0 : ((l0.length : Int) == (l1.length : Int)) = false := beq_eq_false_iff_ne.mpr c3
  have c3b1 : ((l0.length : Int) != (l1.length : Int)) = true := bne_iff_ne.mpr c3
  have c3b2 : (l0.length == l1.length) = false := by first | simpa using c3 | (simp at c3 ⊢; omega)
  obtain rfl := Option.some.inj H
  go_enter Tryd.func16, Tryd.ntmps16
  go_wp2
  go_ret
  exact ⟨by first | rfl | (simp [zj, zi] <;> rfl) | (simp [*, zj, zi] <;> rfl), y0⟩
def zt.l0 : Nat → Int → ByteArray → Option (ByteArray)
 | 0, _, _ => none
 | k + 1, x0, x3 => if x0 > 0 then ((some (([(wrap64 (48 + (Int.tmod x0 10))) % 256] : List Int) : List Int)).bind fun y219 => (if (strOfNums y219).size + x3.size ≤ 9223372036854775807 then (zt.l0 k (wrap64 (Int.tdiv x0 10)) ((strOfNums y219) ++ x3)) else (none))) else (if 1 + x3.size ≤ 9223372036854775807 then (some ((⟨#[109]⟩ : ByteArray) ++ x3)) else (none))
def zt.f (k : Nat) (a0 : Int) : Option (ByteArray) := if a0 ≤ 0 then (some (⟨#[109, 48]⟩ : ByteArray)) else (zt.l0 k a0 (⟨#[]⟩ : ByteArray))
set_option maxHeartbeats 8000000 in
set_option maxRecDepth 100000 in
theorem zt.calls (k : Nat) (a0 : Int) (r : ByteArray) (w : World) (h : zt.f k a0 = some r) :
  Calls Tryd.prog 42 #[.int .i64 a0] w fun e w' => e = .returned (.string r) ∧ Below w.heap.size w w' := by
 have HB := zu.mk (Below.refl w.heap.size w)
 have H : (if a0 ≤ 0 then (some (⟨#[109, 48]⟩ : ByteArray)) else (zt.l0 k a0 (⟨#[]⟩ : ByteArray))) = some r := h
 clear h
 by_cases c2 : a0 ≤ 0
 ·rw [if_pos c2] at H
  have c2b0 : decide (a0 ≤ 0) = true := decide_eq_true c2
  clear c2
  obtain rfl := Option.some.inj H
  go_enter Tryd.func42, Tryd.ntmps42
  go_wp2
  go_ret
  exact ⟨by first | rfl | (simp [zj, zi] <;> rfl) | (simp [*, zj, zi] <;> rfl), y0⟩
 ·rw [if_neg c2] at H
  have c2b0 : decide (a0 ≤ 0) = false := decide_eq_false c2
  clear c2
  have H' := zu.mk H
  clear H
  go_enter Tryd.func42, Tryd.ntmps42
  go_wp2
  go_loopg [0, 3] k (fun kq v0 v3 w' => ∃ (x0_1 : Int) (x3_1 : ByteArray), v0 = .int .i64 x0_1 ∧ v3 = .string x3_1 ∧ zu (zt.l0 kq x0_1 x3_1 = some r) ∧ zu (kq ≤ k) ∧ zu (Below w.heap.size w w'))
  case atStart => exact ⟨(a0), ((⟨#[]⟩ : ByteArray)), (by first | rfl | (simp; done) | (simp [*]; done)), (by first | rfl | (simp; done) | (simp [*]; done)), H', ⟨um _⟩, ⟨y0⟩⟩
  case round =>
   clear H'
   try clear c2
   try clear c2b0
   try clear p2
   obtain ⟨x0_1, x3_1, rfl, rfl, HA, HK1, HB⟩ := hrel
   cases gk with
   | zero => exact absurd HA.out (by simp [zt.l0])
   | succ k1 =>
    have H := HA.out
    clear HA
    simp only [zt.l0] at H
    by_cases c3 : x0_1 > 0
    ·rw [if_pos c3] at H
     have c3b0 : decide (0 < x0_1) = true := decide_eq_true c3
     clear c3
     obtain ⟨y219, hy219⟩ : ∃ y_ : List Int, y_ = (([(wrap64 (48 + (Int.tmod x0_1 10))) % 256] : List Int)) := ⟨_, rfl⟩
     replace H : (if (strOfNums y219).size + x3_1.size ≤ 9223372036854775807 then (zt.l0 k1 (wrap64 (Int.tdiv x0_1 10)) ((strOfNums y219) ++ x3_1)) else (none)) = some r := by first | (rw [hy219]; with_reducible exact H) | (have H2_ := (uk _ _).symm.trans H; rw [hy219]; with_reducible exact H2_) | (have H2_ := (uk _ _).symm.trans H; with_reducible exact H2_) | with_reducible exact H | (rw [hy219]; exact H) | exact H
     have Ny219 := zu.mk hy219
     clear hy219
     by_cases c4 : (strOfNums y219).size + x3_1.size ≤ 9223372036854775807
     ·rw [if_pos c4] at H
      have c4b0 := eq_true c4
      have c4b1 : decide ((strOfNums y219).size + x3_1.size ≤ 9223372036854775807) = true := decide_eq_true c4
      try have c4b2 : (9223372036854775807 < (strOfNums y219).size + x3_1.size) = False := eq_false (Nat.not_lt.2 c4)
      have H' := zu.mk H
      clear H
      go_wp2_with (first | ((with_reducible refine zn (N := 12) rfl ?_); refine Kd.R_lit (Kd.int .u8) _ 5 ?hg (N := 12) ?hd (xs := ([(wrap64 (48 + (Int.tmod x0_1 10))) % 256] : List Int)) (inner := [.int .u8 ((wrap64 (48 + (Int.tmod x0_1 10))) % 256)]) (ok := fun _ => True) (okp := fun _ => True) ?hr ?hp (fun _ hk => hk) trivial (Below.refl _ _) (um _) (by simp) ?_; (case hd => rfl); (case hg => rfl); (case hr => first | (go_simp; done) | (go_simp; rfl)); (case hp => exact (Reps.one (show Kd.M (Kd.int .u8) _ _ _ ((wrap64 (48 + (Int.tmod x0_1 10))) % 256) [.int .u8 ((wrap64 (48 + (Int.tmod x0_1 10))) % 256)] from rfl) (Reps.none _ _))); intro v220 w5 ho6 hb hg_ hnew_; clear hg_ hnew_; (first | rw [← Ny219.out] at ho6 | (simp only [Int.reduceToNat] at ho6; rw [← Ny219.out] at ho6)); have n0_ := zu.mk (Kd.R_lower ho6 (zg y0)); have n1_ := zu.mk (ze y0 hb); clear HB; have HO221 := n0_; have HB := n1_; clear n0_ n1_; clear hb ho6; have hcv7 := own_string (P := Tryd.prog) Tryd.underlying34 Tryd.underlying5 Tryd.underlying9 (Kd.own_of_R HO221.out)))
      go_roundg k1
      case measure => have := HK1.out; omega
      case rel => exact ⟨(wrap64 (Int.tdiv x0_1 10)), ((strOfNums y219) ++ x3_1), (by first | rfl | (simp; done) | (simp [*]; done)), (by first | rfl | (simp; done) | (simp [*]; done)), H', ⟨by have := HK1.out; omega⟩, ⟨y0⟩⟩
     ·rw [if_neg c4] at H
      exact absurd H (by simp)
    ·rw [if_neg c3] at H
     have c3b0 : decide (0 < x0_1) = false := decide_eq_false c3
     clear c3
     by_cases c8 : 1 + x3_1.size ≤ 9223372036854775807
     ·rw [if_pos c8] at H
      have c8b0 := eq_true c8
      have c8b1 : decide (1 + x3_1.size ≤ 9223372036854775807) = true := decide_eq_true c8
      try have c8b2 : (9223372036854775807 < 1 + x3_1.size) = False := eq_false (Nat.not_lt.2 c8)
      obtain rfl := Option.some.inj H
      go_wp2
      go_ret
      exact ⟨by first | rfl | (simp [zj, zi] <;> rfl) | (simp [*, zj, zi] <;> rfl), y0⟩
     ·rw [if_neg c8] at H
      exact absurd H (by simp)
def laws_markTokenS.l0 : Nat → List (S43) → Int → Int → Option (Int × (List (S43)))
 | 0, _, _, _ => none
 | k + 1, x0, x1, x5 => if x5 < (x0.length : Int) then ((zt.f k x1).bind fun t282 => (if 0 ≤ x5 then ((some (x0.set (x5 : Int).toNat (⟨t282, (rd_T43 x0 x5).f1, (rd_T43 x0 x5).f2, (rd_T43 x0 x5).f3⟩ : S43) : List (S43))).bind fun y283 => ((some (y283.set (x5 : Int).toNat (⟨(rd_T43 y283 x5).f0, wrap64 (x1 + 1), (rd_T43 y283 x5).f2, (rd_T43 y283 x5).f3⟩ : S43) : List (S43))).bind fun y284 => ((some (y284.set (x5 : Int).toNat (⟨(rd_T43 y284 x5).f0, (rd_T43 y284 x5).f1, wrap64 ((wrap64 (x1 + 1)) + 1), (rd_T43 y284 x5).f3⟩ : S43) : List (S43))).bind fun y285 => (laws_markTokenS.l0 k (y285.set (x5 : Int).toNat (⟨(rd_T43 y285 x5).f0, (rd_T43 y285 x5).f1, (rd_T43 y285 x5).f2, wrap64 ((wrap64 ((wrap64 (x1 + 1)) + 1)) + 1)⟩ : S43)) (wrap64 ((wrap64 ((wrap64 ((wrap64 (x1 + 1)) + 1)) + 1)) + 1)) (wrap64 (x5 + 1)))))) else (none))) else (some (x1, x0))
def laws_markTokenS.f (k : Nat) (l0 : List (S43)) (a1 : Int) : Option (Int × (List (S43))) := laws_markTokenS.l0 k l0 a1 0
set_option maxHeartbeats 8000000 in
set_option maxRecDepth 100000 in
theorem laws_markTokenS.calls (k : Nat) (P0_ : Nat → Prop) (u9000_ : Value) (l0 : List (S43)) (a1 : Int) (r1 : Int) (r2 : List (S43)) (w0 w : World) (hB : Below w0.heap.size w0 w) (ho0 : Kd.R k43 43 w w0.heap.size P0_ u9000_ l0) (h : laws_markTokenS.f k l0 a1 = some (r1, r2)) :
  Calls Tryd.prog 17 #[u9000_, .int .i64 a1] w fun e w' => e = .returned (.int .i64 r1) ∧ Kd.R k43 43 w' w0.heap.size (fun k_ => (P0_ k_ ∨ w.heap.size ≤ k_)) u9000_ r2 ∧ Below w0.heap.size w0 w' ∧ Kept w w' (fun k_ => P0_ k_) := by
 have HO0 := zu.mk (show Kd.R k43 43 w w0.heap.size (fun k_ => (P0_ k_ ∨ w.heap.size ≤ k_)) u9000_ l0 from Kd.R_mono ho0 (fun k_ hk => (.inl hk)))
 have HK := zu.mk (Kept.refl w (fun k_ => P0_ k_))
 have HW0 := zu.mk hB.size
 have HB := zu.mk hB
 clear hB
 have H : (laws_markTokenS.l0 k l0 a1 0) = some (r1, r2) := h
 clear h
 have H' := zu.mk H
 clear H
 go_enter Tryd.func17, Tryd.ntmps17
 go_wp2
 go_loopg [1, 5] k (fun kq v1 v5 w' => ∃ (x0_1 : List (S43)) (x1_1 : Int) (x5_1 : Int), v1 = .int .i64 x1_1 ∧ v5 = .int .i64 x5_1 ∧ zu (laws_markTokenS.l0 kq x0_1 x1_1 x5_1 = some (r1, r2)) ∧ zu (kq ≤ k) ∧ zu (Kd.R k43 43 w' w0.heap.size (fun k_ => (P0_ k_ ∨ w.heap.size ≤ k_)) u9000_ x0_1) ∧ zu (Kept w w' (fun k_ => P0_ k_)) ∧ zu (Below w0.heap.size w0 w'))
 case atStart => exact ⟨(l0), (a1), (0), (by first | rfl | (simp; done) | (simp [*]; done)), (by first | rfl | (simp; done) | (simp [*]; done)), H', ⟨um _⟩, ⟨by (with_reducible repeat (first | apply Kd.R_alloc | apply Kd.R_drewN | apply Kd.R_drew)); exact HO0.out⟩, ⟨y6⟩, ⟨y0⟩⟩
 case round =>
  clear H'
  try clear c1
  try clear p2
  obtain ⟨x0_1, x1_1, x5_1, rfl, rfl, HA, HK1, HO_0, HK, HB⟩ := hrel
  cases gk with
  | zero => exact absurd HA.out (by simp [laws_markTokenS.l0])
  | succ k1 =>
   have H := HA.out
   clear HA
   simp only [laws_markTokenS.l0] at H
   by_cases c3 : x5_1 < (x0_1.length : Int)
   ·rw [if_pos c3] at H
    have c3b0 : decide (x5_1 < (x0_1.length : Int)) = true := decide_eq_true c3
    clear c3
    replace H := ue.mp H
    obtain ⟨t282, A40, H⟩ := H
    replace H : (if 0 ≤ x5_1 then ((some (x0_1.set (x5_1 : Int).toNat (⟨t282, (rd_T43 x0_1 x5_1).f1, (rd_T43 x0_1 x5_1).f2, (rd_T43 x0_1 x5_1).f3⟩ : S43) : List (S43))).bind fun y283 => ((some (y283.set (x5_1 : Int).toNat (⟨(rd_T43 y283 x5_1).f0, wrap64 (x1_1 + 1), (rd_T43 y283 x5_1).f2, (rd_T43 y283 x5_1).f3⟩ : S43) : List (S43))).bind fun y284 => ((some (y284.set (x5_1 : Int).toNat (⟨(rd_T43 y284 x5_1).f0, (rd_T43 y284 x5_1).f1, wrap64 ((wrap64 (x1_1 + 1)) + 1), (rd_T43 y284 x5_1).f3⟩ : S43) : List (S43))).bind fun y285 => (laws_markTokenS.l0 k1 (y285.set (x5_1 : Int).toNat (⟨(rd_T43 y285 x5_1).f0, (rd_T43 y285 x5_1).f1, (rd_T43 y285 x5_1).f2, wrap64 ((wrap64 ((wrap64 (x1_1 + 1)) + 1)) + 1)⟩ : S43)) (wrap64 ((wrap64 ((wrap64 ((wrap64 (x1_1 + 1)) + 1)) + 1)) + 1)) (wrap64 (x5_1 + 1)))))) else (none)) = some (r1, r2) := H
    have A4 := zu.mk A40
    clear A40
    by_cases c5 : 0 ≤ x5_1
    ·rw [if_pos c5] at H
     have c5b0 : decide (0 ≤ x5_1) = true := decide_eq_true c5
     clear c5
     obtain ⟨y283, hy283⟩ : ∃ y_ : List (S43), y_ = (x0_1.set (x5_1 : Int).toNat (⟨t282, (rd_T43 x0_1 x5_1).f1, (rd_T43 x0_1 x5_1).f2, (rd_T43 x0_1 x5_1).f3⟩ : S43)) := ⟨_, rfl⟩
     replace H : ((some (y283.set (x5_1 : Int).toNat (⟨(rd_T43 y283 x5_1).f0, wrap64 (x1_1 + 1), (rd_T43 y283 x5_1).f2, (rd_T43 y283 x5_1).f3⟩ : S43) : List (S43))).bind fun y284 => ((some (y284.set (x5_1 : Int).toNat (⟨(rd_T43 y284 x5_1).f0, (rd_T43 y284 x5_1).f1, wrap64 ((wrap64 (x1_1 + 1)) + 1), (rd_T43 y284 x5_1).f3⟩ : S43) : List (S43))).bind fun y285 => (laws_markTokenS.l0 k1 (y285.set (x5_1 : Int).toNat (⟨(rd_T43 y285 x5_1).f0, (rd_T43 y285 x5_1).f1, (rd_T43 y285 x5_1).f2, wrap64 ((wrap64 ((wrap64 (x1_1 + 1)) + 1)) + 1)⟩ : S43)) (wrap64 ((wrap64 ((wrap64 ((wrap64 (x1_1 + 1)) + 1)) + 1)) + 1)) (wrap64 (x5_1 + 1))))) = some (r1, r2) := by first | (rw [hy283]; with_reducible exact H) | (have H2_ := (uk _ _).symm.trans H; rw [hy283]; with_reducible exact H2_) | (have H2_ := (uk _ _).symm.trans H; with_reducible exact H2_) | with_reducible exact H | (rw [hy283]; exact H) | exact H
     have Ny283 := zu.mk hy283
     clear hy283
     obtain ⟨y284, hy284⟩ : ∃ y_ : List (S43), y_ = (y283.set (x5_1 : Int).toNat (⟨(rd_T43 y283 x5_1).f0, wrap64 (x1_1 + 1), (rd_T43 y283 x5_1).f2, (rd_T43 y283 x5_1).f3⟩ : S43)) := ⟨_, rfl⟩
     replace H : ((some (y284.set (x5_1 : Int).toNat (⟨(rd_T43 y284 x5_1).f0, (rd_T43 y284 x5_1).f1, wrap64 ((wrap64 (x1_1 + 1)) + 1), (rd_T43 y284 x5_1).f3⟩ : S43) : List (S43))).bind fun y285 => (laws_markTokenS.l0 k1 (y285.set (x5_1 : Int).toNat (⟨(rd_T43 y285 x5_1).f0, (rd_T43 y285 x5_1).f1, (rd_T43 y285 x5_1).f2, wrap64 ((wrap64 ((wrap64 (x1_1 + 1)) + 1)) + 1)⟩ : S43)) (wrap64 ((wrap64 ((wrap64 ((wrap64 (x1_1 + 1)) + 1)) + 1)) + 1)) (wrap64 (x5_1 + 1)))) = some (r1, r2) := by first | (rw [hy284]; with_reducible exact H) | (have H2_ := (uk _ _).symm.trans H; rw [hy284]; with_reducible exact H2_) | (have H2_ := (uk _ _).symm.trans H; with_reducible exact H2_) | with_reducible exact H | (rw [hy284]; exact H) | exact H
     have Ny284 := zu.mk hy284
     clear hy284
     obtain ⟨y285, hy285⟩ : ∃ y_ : List (S43), y_ = (y284.set (x5_1 : Int).toNat (⟨(rd_T43 y284 x5_1).f0, (rd_T43 y284 x5_1).f1, wrap64 ((wrap64 (x1_1 + 1)) + 1), (rd_T43 y284 x5_1).f3⟩ : S43)) := ⟨_, rfl⟩
     replace H : (laws_markTokenS.l0 k1 (y285.set (x5_1 : Int).toNat (⟨(rd_T43 y285 x5_1).f0, (rd_T43 y285 x5_1).f1, (rd_T43 y285 x5_1).f2, wrap64 ((wrap64 ((wrap64 (x1_1 + 1)) + 1)) + 1)⟩ : S43)) (wrap64 ((wrap64 ((wrap64 ((wrap64 (x1_1 + 1)) + 1)) + 1)) + 1)) (wrap64 (x5_1 + 1))) = some (r1, r2) := by first | (rw [hy285]; with_reducible exact H) | (have H2_ := (uk _ _).symm.trans H; rw [hy285]; with_reducible exact H2_) | (have H2_ := (uk _ _).symm.trans H; with_reducible exact H2_) | with_reducible exact H | (rw [hy285]; exact H) | exact H
     have Ny285 := zu.mk hy285
     clear hy285
     obtain ⟨y286, hy286⟩ : ∃ y_ : List (S43), y_ = (y285.set (x5_1 : Int).toNat (⟨(rd_T43 y285 x5_1).f0, (rd_T43 y285 x5_1).f1, (rd_T43 y285 x5_1).f2, wrap64 ((wrap64 ((wrap64 (x1_1 + 1)) + 1)) + 1)⟩ : S43)) := ⟨_, rfl⟩
     replace H : (laws_markTokenS.l0 k1 y286 (wrap64 ((wrap64 ((wrap64 ((wrap64 (x1_1 + 1)) + 1)) + 1)) + 1)) (wrap64 (x5_1 + 1))) = some (r1, r2) := by first | (rw [hy286]; with_reducible exact H) | (have H2_ := (uk _ _).symm.trans H; rw [hy286]; with_reducible exact H2_) | (have H2_ := (uk _ _).symm.trans H; with_reducible exact H2_) | with_reducible exact H | (rw [hy286]; exact H) | exact H
     have Ny286 := zu.mk hy286
     clear hy286
     have H' := zu.mk H
     clear H
     obtain ⟨Ao10, co10, eo10⟩ := Kd.R_slice HO_0.out
     subst eo10
     go_wp2_with (first | ((with_reducible refine zm (f := 42) rfl ?_); refine goesL_ (some 15) rfl rfl Tryd.func42 (by kernel_rfl) rfl #[.int .i64 x1_1] rfl (by (try simp only [uh, ui, uj]); first | done | rfl | (simp only [uf, ug]; rfl)) ?_; (with_reducible refine (zt.calls k1 x1_1 t282 _ A4.out).mono ?_); rintro e w11 ⟨rfl, hb⟩; refine ⟨_, rfl, ?_⟩; have n0_ := zu.mk (Kd.R_below y9 hb); have n1_ := zu.mk (Kept.below (S := (fun k_ => P0_ k_)) y6 hb); have n2_ := zu.mk (ze y0 hb); clear HO_0; clear HK; clear HB; have HO_0 := n0_; have HK := n1_; have HB := n2_; clear n0_ n1_ n2_; (try clear hb); (try clear hb2); (try clear hk); (try clear hi); have p6 : 0 ≤ (x5_1 : Int) := of_decide_eq_true (by first | (with_reducible assumption) | assumption); have q6 : (x5_1 : Int) < ((x0_1.length : Int) : Int) := of_decide_eq_true (by first | (with_reducible assumption) | assumption); obtain ⟨go6, co6, eo6, gb6, gl6, cl6, HG6⟩ := Kd.R_form HO_0.out (by omega); (first | cases eo6 | (injection eo6 with ea_ en_ ec_; (first | subst ea_ | (injection ea_ with ea_; subst ea_)); subst ec_; clear en_)); have GB6 := zu.mk gb6; have GG6 := zu.mk HG6; clear gb6 gl6 HG6; have HMgo6 := zu.mk (show (P0_ go6 ∨ w.heap.size ≤ go6) from (HO_0.out.1 _ rfl)); obtain ⟨ce6, hcl6, hM6, hcc6, hfr6⟩ := Kd.R_elem HO_0.out z43 (x5_1 : Int) p6 q6; obtain rfl := k43_openM hM6; have hx6_0 : w11.cell? ⟨go6, (x5_1 : Int).toNat * 4, none⟩ = some (.string ((rd_T43 x0_1 x5_1).f0)) := hcc6 0 _ rfl; have hx6_1 : w11.cell? ⟨go6, (x5_1 : Int).toNat * 4 + 1, none⟩ = some (.int .i64 ((rd_T43 x0_1 x5_1).f1)) := hcc6 1 _ rfl; have hx6_2 : w11.cell? ⟨go6, (x5_1 : Int).toNat * 4 + 2, none⟩ = some (.int .i64 ((rd_T43 x0_1 x5_1).f2)) := hcc6 2 _ rfl; have hx6_3 : w11.cell? ⟨go6, (x5_1 : Int).toNat * 4 + 3, none⟩ = some (.int .i64 ((rd_T43 x0_1 x5_1).f3)) := hcc6 3 _ rfl; have hf6_0 : w11.frozen? ⟨go6, (x5_1 : Int).toNat * 4, none⟩ = false := hfr6 0; have hf6_1 : w11.frozen? ⟨go6, (x5_1 : Int).toNat * 4 + 1, none⟩ = false := hfr6 1; have hf6_2 : w11.frozen? ⟨go6, (x5_1 : Int).toNat * 4 + 2, none⟩ = false := hfr6 2; have hf6_3 : w11.frozen? ⟨go6, (x5_1 : Int).toNat * 4 + 3, none⟩ = false := hfr6 3; clear hcl6 hcc6 hfr6 hM6; replace p6 := eq_true p6; replace q6 := eq_true q6; have HX12 := zu.mk (show Kd.R k43 43 w11 w0.heap.size (fun k_ => (P0_ k_ ∨ w.heap.size ≤ k_)) (.slice (some ⟨go6, 0, none⟩) x0_1.length co10) x0_1 from y9); obtain ⟨ce12, hcl12, hM12, hcc12, hfr12⟩ := Kd.R_elem HX12.out z43 (x5_1 : Int) (of_decide_eq_true (by first | (with_reducible assumption) | assumption)) (by have h_ : (x5_1 : Int) < ((x0_1.length : Int) : Int) := of_decide_eq_true (by first | (with_reducible assumption) | assumption); first | exact h_ | (have e_ := (Kd.R_reads' HO_0.out).1; omega) | simpa using h_); obtain rfl := k43_openM hM12; have HP12 := Kd.R_seg HX12.out (x5_1 : Int) (of_decide_eq_true (by first | (with_reducible assumption) | assumption)) (by have h_ : (x5_1 : Int) < ((x0_1.length : Int) : Int) := of_decide_eq_true (by first | (with_reducible assumption) | assumption); first | exact h_ | (have e_ := (Kd.R_reads' HO_0.out).1; omega) | simpa using h_) (seg := [.string t282]) (j := 0) hcl12 hcc12 (show 1 ≤ 4 from by decide) (x' := (⟨t282, (rd_T43 x0_1 x5_1).f1, (rd_T43 x0_1 x5_1).f2, (rd_T43 x0_1 x5_1).f3⟩ : S43)) (k43_mkM _ _ _ (⟨t282, (rd_T43 x0_1 x5_1).f1, (rd_T43 x0_1 x5_1).f2, (rd_T43 x0_1 x5_1).f3⟩ : S43) ) (fun _ hk => hk); have hx12_0 := hcc12 0 _ rfl; (try simp only [show (k43).sz = 4 from rfl, Nat.mul_one, Nat.add_zero] at hx12_0); have hf12_0 := hfr12 0; (try simp only [show (k43).sz = 4 from rfl, Nat.mul_one, Nat.add_zero] at hf12_0); clear hcl12 hcc12 hfr12 hM12) | ((with_reducible refine zp (t := 9) (p := 17) rfl ?_); refine zs (t := 9) (p := 17) (v := ?vo_w13) (w1 := (w11.setCell ⟨go6, (x5_1 : Int).toNat * 4, none⟩ (.string t282))) ?hg ?ho ?hn ?hr ?_; (case ho => rfl); (case hg => rfl); (case hn => rfl); (case hr => first | (go_simp; done) | (go_simp; rfl)); intro w13 hw; have hg : w11.grownBy w13 (some go6) := (by rw [hw]; exact HP12.2); have hp_ : Kd.R k43 43 w13 w0.heap.size (fun k_ => (P0_ k_ ∨ w.heap.size ≤ k_)) (.slice (some ⟨go6, 0, none⟩) x0_1.length co10) y283 := (by rw [hw, Ny283.out]; exact HP12.1); clear HP12; have n0_ := zu.mk (hp_); have n1_ := zu.mk ((by rw [hw]; exact z7 (HB.out) GB6.out : Below w0.heap.size w0 w13)); have n2_ := zu.mk (Kept.of_grown (S := (fun k_ => P0_ k_)) hg y6 (fun k_ e_ => (HO_0.out.1 k_ e_))); clear HO_0; clear HB; clear HK; have HO_0 := n0_; have HB := n1_; have HK := n2_; clear n0_ n1_ n2_; clear hg hw hp_; have p7 : 0 ≤ (x5_1 : Int) := of_decide_eq_true (by first | (with_reducible assumption) | assumption); have q7 : (x5_1 : Int) < ((x0_1.length : Int) : Int) := of_decide_eq_true (by first | (with_reducible assumption) | assumption); obtain ⟨ce7, hcl7, hM7, hcc7, hfr7⟩ := Kd.R_elem HO_0.out z43 (x5_1 : Int) p7 q7; obtain rfl := k43_openM hM7; have hx7_0 : w13.cell? ⟨go6, (x5_1 : Int).toNat * 4, none⟩ = some (.string ((rd_T43 y283 x5_1).f0)) := hcc7 0 _ rfl; have hx7_1 : w13.cell? ⟨go6, (x5_1 : Int).toNat * 4 + 1, none⟩ = some (.int .i64 ((rd_T43 y283 x5_1).f1)) := hcc7 1 _ rfl; have hx7_2 : w13.cell? ⟨go6, (x5_1 : Int).toNat * 4 + 2, none⟩ = some (.int .i64 ((rd_T43 y283 x5_1).f2)) := hcc7 2 _ rfl; have hx7_3 : w13.cell? ⟨go6, (x5_1 : Int).toNat * 4 + 3, none⟩ = some (.int .i64 ((rd_T43 y283 x5_1).f3)) := hcc7 3 _ rfl; have hf7_0 : w13.frozen? ⟨go6, (x5_1 : Int).toNat * 4, none⟩ = false := hfr7 0; have hf7_1 : w13.frozen? ⟨go6, (x5_1 : Int).toNat * 4 + 1, none⟩ = false := hfr7 1; have hf7_2 : w13.frozen? ⟨go6, (x5_1 : Int).toNat * 4 + 2, none⟩ = false := hfr7 2; have hf7_3 : w13.frozen? ⟨go6, (x5_1 : Int).toNat * 4 + 3, none⟩ = false := hfr7 3; clear hcl7 hcc7 hfr7 hM7; replace p7 := eq_true p7; replace q7 := eq_true q7; have HX14 := zu.mk (show Kd.R k43 43 w13 w0.heap.size (fun k_ => (P0_ k_ ∨ w.heap.size ≤ k_)) (.slice (some ⟨go6, 0, none⟩) x0_1.length co10) y283 from y9); obtain ⟨ce14, hcl14, hM14, hcc14, hfr14⟩ := Kd.R_elem HX14.out z43 (x5_1 : Int) (of_decide_eq_true (by first | (with_reducible assumption) | assumption)) (by have h_ : (x5_1 : Int) < ((x0_1.length : Int) : Int) := of_decide_eq_true (by first | (with_reducible assumption) | assumption); first | exact h_ | (have e_ := (Kd.R_reads' HO_0.out).1; omega) | simpa using h_); obtain rfl := k43_openM hM14; have HP14 := Kd.R_seg HX14.out (x5_1 : Int) (of_decide_eq_true (by first | (with_reducible assumption) | assumption)) (by have h_ : (x5_1 : Int) < ((x0_1.length : Int) : Int) := of_decide_eq_true (by first | (with_reducible assumption) | assumption); first | exact h_ | (have e_ := (Kd.R_reads' HO_0.out).1; omega) | simpa using h_) (seg := [.int .i64 (wrap64 (x1_1 + 1))]) (j := 1) hcl14 hcc14 (show 2 ≤ 4 from by decide) (x' := (⟨(rd_T43 y283 x5_1).f0, wrap64 (x1_1 + 1), (rd_T43 y283 x5_1).f2, (rd_T43 y283 x5_1).f3⟩ : S43)) (k43_mkM _ _ _ (⟨(rd_T43 y283 x5_1).f0, wrap64 (x1_1 + 1), (rd_T43 y283 x5_1).f2, (rd_T43 y283 x5_1).f3⟩ : S43) ) (fun _ hk => hk); have hx14_1 := hcc14 1 _ rfl; (try simp only [show (k43).sz = 4 from rfl, Nat.mul_one, Nat.add_zero] at hx14_1); have hf14_1 := hfr14 1; (try simp only [show (k43).sz = 4 from rfl, Nat.mul_one, Nat.add_zero] at hf14_1); clear hcl14 hcc14 hfr14 hM14) | ((with_reducible refine zp (t := 3) (p := 24) rfl ?_); refine zs (t := 3) (p := 24) (v := ?vo_w15) (w1 := (w13.setCell ⟨go6, (x5_1 : Int).toNat * 4 + 1, none⟩ (.int .i64 (wrap64 (x1_1 + 1))))) ?hg ?ho ?hn ?hr ?_; (case ho => rfl); (case hg => rfl); (case hn => rfl); (case hr => first | (go_simp; done) | (go_simp; rfl)); intro w15 hw; have hg : w13.grownBy w15 (some go6) := (by rw [hw]; exact HP14.2); have hp_ : Kd.R k43 43 w15 w0.heap.size (fun k_ => (P0_ k_ ∨ w.heap.size ≤ k_)) (.slice (some ⟨go6, 0, none⟩) x0_1.length co10) y284 := (by rw [hw, Ny284.out]; exact HP14.1); clear HP14; have n0_ := zu.mk (hp_); have n1_ := zu.mk ((by rw [hw]; exact z7 (HB.out) GB6.out : Below w0.heap.size w0 w15)); have n2_ := zu.mk (Kept.of_grown (S := (fun k_ => P0_ k_)) hg y6 (fun k_ e_ => (HO_0.out.1 k_ e_))); clear HO_0; clear HB; clear HK; have HO_0 := n0_; have HB := n1_; have HK := n2_; clear n0_ n1_ n2_; clear hg hw hp_; have p8 : 0 ≤ (x5_1 : Int) := of_decide_eq_true (by first | (with_reducible assumption) | assumption); have q8 : (x5_1 : Int) < ((x0_1.length : Int) : Int) := of_decide_eq_true (by first | (with_reducible assumption) | assumption); obtain ⟨ce8, hcl8, hM8, hcc8, hfr8⟩ := Kd.R_elem HO_0.out z43 (x5_1 : Int) p8 q8; obtain rfl := k43_openM hM8; have hx8_0 : w15.cell? ⟨go6, (x5_1 : Int).toNat * 4, none⟩ = some (.string ((rd_T43 y284 x5_1).f0)) := hcc8 0 _ rfl; have hx8_1 : w15.cell? ⟨go6, (x5_1 : Int).toNat * 4 + 1, none⟩ = some (.int .i64 ((rd_T43 y284 x5_1).f1)) := hcc8 1 _ rfl; have hx8_2 : w15.cell? ⟨go6, (x5_1 : Int).toNat * 4 + 2, none⟩ = some (.int .i64 ((rd_T43 y284 x5_1).f2)) := hcc8 2 _ rfl; have hx8_3 : w15.cell? ⟨go6, (x5_1 : Int).toNat * 4 + 3, none⟩ = some (.int .i64 ((rd_T43 y284 x5_1).f3)) := hcc8 3 _ rfl; have hf8_0 : w15.frozen? ⟨go6, (x5_1 : Int).toNat * 4, none⟩ = false := hfr8 0; have hf8_1 : w15.frozen? ⟨go6, (x5_1 : Int).toNat * 4 + 1, none⟩ = false := hfr8 1; have hf8_2 : w15.frozen? ⟨go6, (x5_1 : Int).toNat * 4 + 2, none⟩ = false := hfr8 2; have hf8_3 : w15.frozen? ⟨go6, (x5_1 : Int).toNat * 4 + 3, none⟩ = false := hfr8 3; clear hcl8 hcc8 hfr8 hM8; replace p8 := eq_true p8; replace q8 := eq_true q8; have HX16 := zu.mk (show Kd.R k43 43 w15 w0.heap.size (fun k_ => (P0_ k_ ∨ w.heap.size ≤ k_)) (.slice (some ⟨go6, 0, none⟩) x0_1.length co10) y284 from y9); obtain ⟨ce16, hcl16, hM16, hcc16, hfr16⟩ := Kd.R_elem HX16.out z43 (x5_1 : Int) (of_decide_eq_true (by first | (with_reducible assumption) | assumption)) (by have h_ : (x5_1 : Int) < ((x0_1.length : Int) : Int) := of_decide_eq_true (by first | (with_reducible assumption) | assumption); first | exact h_ | (have e_ := (Kd.R_reads' HO_0.out).1; omega) | simpa using h_); obtain rfl := k43_openM hM16; have HP16 := Kd.R_seg HX16.out (x5_1 : Int) (of_decide_eq_true (by first | (with_reducible assumption) | assumption)) (by have h_ : (x5_1 : Int) < ((x0_1.length : Int) : Int) := of_decide_eq_true (by first | (with_reducible assumption) | assumption); first | exact h_ | (have e_ := (Kd.R_reads' HO_0.out).1; omega) | simpa using h_) (seg := [.int .i64 (wrap64 ((wrap64 (x1_1 + 1)) + 1))]) (j := 2) hcl16 hcc16 (show 3 ≤ 4 from by decide) (x' := (⟨(rd_T43 y284 x5_1).f0, (rd_T43 y284 x5_1).f1, wrap64 ((wrap64 (x1_1 + 1)) + 1), (rd_T43 y284 x5_1).f3⟩ : S43)) (k43_mkM _ _ _ (⟨(rd_T43 y284 x5_1).f0, (rd_T43 y284 x5_1).f1, wrap64 ((wrap64 (x1_1 + 1)) + 1), (rd_T43 y284 x5_1).f3⟩ : S43) ) (fun _ hk => hk); have hx16_2 := hcc16 2 _ rfl; (try simp only [show (k43).sz = 4 from rfl, Nat.mul_one, Nat.add_zero] at hx16_2); have hf16_2 := hfr16 2; (try simp only [show (k43).sz = 4 from rfl, Nat.mul_one, Nat.add_zero] at hf16_2); clear hcl16 hcc16 hfr16 hM16) | ((with_reducible refine zp (t := 3) (p := 31) rfl ?_); refine zs (t := 3) (p := 31) (v := ?vo_w17) (w1 := (w15.setCell ⟨go6, (x5_1 : Int).toNat * 4 + 2, none⟩ (.int .i64 (wrap64 ((wrap64 (x1_1 + 1)) + 1))))) ?hg ?ho ?hn ?hr ?_; (case ho => rfl); (case hg => rfl); (case hn => rfl); (case hr => first | (go_simp; done) | (go_simp; rfl)); intro w17 hw; have hg : w15.grownBy w17 (some go6) := (by rw [hw]; exact HP16.2); have hp_ : Kd.R k43 43 w17 w0.heap.size (fun k_ => (P0_ k_ ∨ w.heap.size ≤ k_)) (.slice (some ⟨go6, 0, none⟩) x0_1.length co10) y285 := (by rw [hw, Ny285.out]; exact HP16.1); clear HP16; have n0_ := zu.mk (hp_); have n1_ := zu.mk ((by rw [hw]; exact z7 (HB.out) GB6.out : Below w0.heap.size w0 w17)); have n2_ := zu.mk (Kept.of_grown (S := (fun k_ => P0_ k_)) hg y6 (fun k_ e_ => (HO_0.out.1 k_ e_))); clear HO_0; clear HB; clear HK; have HO_0 := n0_; have HB := n1_; have HK := n2_; clear n0_ n1_ n2_; clear hg hw hp_; have p9 : 0 ≤ (x5_1 : Int) := of_decide_eq_true (by first | (with_reducible assumption) | assumption); have q9 : (x5_1 : Int) < ((x0_1.length : Int) : Int) := of_decide_eq_true (by first | (with_reducible assumption) | assumption); obtain ⟨ce9, hcl9, hM9, hcc9, hfr9⟩ := Kd.R_elem HO_0.out z43 (x5_1 : Int) p9 q9; obtain rfl := k43_openM hM9; have hx9_0 : w17.cell? ⟨go6, (x5_1 : Int).toNat * 4, none⟩ = some (.string ((rd_T43 y285 x5_1).f0)) := hcc9 0 _ rfl; have hx9_1 : w17.cell? ⟨go6, (x5_1 : Int).toNat * 4 + 1, none⟩ = some (.int .i64 ((rd_T43 y285 x5_1).f1)) := hcc9 1 _ rfl; have hx9_2 : w17.cell? ⟨go6, (x5_1 : Int).toNat * 4 + 2, none⟩ = some (.int .i64 ((rd_T43 y285 x5_1).f2)) := hcc9 2 _ rfl; have hx9_3 : w17.cell? ⟨go6, (x5_1 : Int).toNat * 4 + 3, none⟩ = some (.int .i64 ((rd_T43 y285 x5_1).f3)) := hcc9 3 _ rfl; have hf9_0 : w17.frozen? ⟨go6, (x5_1 : Int).toNat * 4, none⟩ = false := hfr9 0; have hf9_1 : w17.frozen? ⟨go6, (x5_1 : Int).toNat * 4 + 1, none⟩ = false := hfr9 1; have hf9_2 : w17.frozen? ⟨go6, (x5_1 : Int).toNat * 4 + 2, none⟩ = false := hfr9 2; have hf9_3 : w17.frozen? ⟨go6, (x5_1 : Int).toNat * 4 + 3, none⟩ = false := hfr9 3; clear hcl9 hcc9 hfr9 hM9; replace p9 := eq_true p9; replace q9 := eq_true q9; have HX18 := zu.mk (show Kd.R k43 43 w17 w0.heap.size (fun k_ => (P0_ k_ ∨ w.heap.size ≤ k_)) (.slice (some ⟨go6, 0, none⟩) x0_1.length co10) y285 from y9); obtain ⟨ce18, hcl18, hM18, hcc18, hfr18⟩ := Kd.R_elem HX18.out z43 (x5_1 : Int) (of_decide_eq_true (by first | (with_reducible assumption) | assumption)) (by have h_ : (x5_1 : Int) < ((x0_1.length : Int) : Int) := of_decide_eq_true (by first | (with_reducible assumption) | assumption); first | exact h_ | (have e_ := (Kd.R_reads' HO_0.out).1; omega) | simpa using h_); obtain rfl := k43_openM hM18; have HP18 := Kd.R_seg HX18.out (x5_1 : Int) (of_decide_eq_true (by first | (with_reducible assumption) | assumption)) (by have h_ : (x5_1 : Int) < ((x0_1.length : Int) : Int) := of_decide_eq_true (by first | (with_reducible assumption) | assumption); first | exact h_ | (have e_ := (Kd.R_reads' HO_0.out).1; omega) | simpa using h_) (seg := [.int .i64 (wrap64 ((wrap64 ((wrap64 (x1_1 + 1)) + 1)) + 1))]) (j := 3) hcl18 hcc18 (show 4 ≤ 4 from by decide) (x' := (⟨(rd_T43 y285 x5_1).f0, (rd_T43 y285 x5_1).f1, (rd_T43 y285 x5_1).f2, wrap64 ((wrap64 ((wrap64 (x1_1 + 1)) + 1)) + 1)⟩ : S43)) (k43_mkM _ _ _ (⟨(rd_T43 y285 x5_1).f0, (rd_T43 y285 x5_1).f1, (rd_T43 y285 x5_1).f2, wrap64 ((wrap64 ((wrap64 (x1_1 + 1)) + 1)) + 1)⟩ : S43) ) (fun _ hk => hk); have hx18_3 := hcc18 3 _ rfl; (try simp only [show (k43).sz = 4 from rfl, Nat.mul_one, Nat.add_zero] at hx18_3); have hf18_3 := hfr18 3; (try simp only [show (k43).sz = 4 from rfl, Nat.mul_one, Nat.add_zero] at hf18_3); clear hcl18 hcc18 hfr18 hM18) | ((with_reducible refine zp (t := 3) (p := 38) rfl ?_); refine zs (t := 3) (p := 38) (v := ?vo_w19) (w1 := (w17.setCell ⟨go6, (x5_1 : Int).toNat * 4 + 3, none⟩ (.int .i64 (wrap64 ((wrap64 ((wrap64 (x1_1 + 1)) + 1)) + 1))))) ?hg ?ho ?hn ?hr ?_; (case ho => rfl); (case hg => rfl); (case hn => rfl); (case hr => first | (go_simp; done) | (go_simp; rfl)); intro w19 hw; have hg : w17.grownBy w19 (some go6) := (by rw [hw]; exact HP18.2); have hp_ : Kd.R k43 43 w19 w0.heap.size (fun k_ => (P0_ k_ ∨ w.heap.size ≤ k_)) (.slice (some ⟨go6, 0, none⟩) x0_1.length co10) y286 := (by rw [hw, Ny286.out]; exact HP18.1); clear HP18; have n0_ := zu.mk (hp_); have n1_ := zu.mk ((by rw [hw]; exact z7 (HB.out) GB6.out : Below w0.heap.size w0 w19)); have n2_ := zu.mk (Kept.of_grown (S := (fun k_ => P0_ k_)) hg y6 (fun k_ e_ => (HO_0.out.1 k_ e_))); clear HO_0; clear HB; clear HK; have HO_0 := n0_; have HB := n1_; have HK := n2_; clear n0_ n1_ n2_; clear hg hw hp_))
     go_roundg k1
     case measure => have := HK1.out; omega
     case rel => exact ⟨(y286), (wrap64 ((wrap64 ((wrap64 ((wrap64 (x1_1 + 1)) + 1)) + 1)) + 1)), (wrap64 (x5_1 + 1)), (by first | rfl | (simp; done) | (simp [*]; done)), (by first | rfl | (simp; done) | (simp [*]; done)), H', ⟨by have := HK1.out; omega⟩, ⟨y9⟩, ⟨y6⟩, ⟨y0⟩⟩
    ·rw [if_neg c5] at H
     exact absurd H (by simp)
   ·rw [if_neg c3] at H
    have c3b0 : decide (x5_1 < (x0_1.length : Int)) = false := decide_eq_false c3
    clear c3
    simp only [Option.some.injEq, Prod.mk.injEq] at H
    obtain ⟨rfl, rfl⟩ := H
    obtain ⟨Ao20, co20, eo20⟩ := Kd.R_slice HO_0.out
    subst eo20
    go_wp2
    go_ret
    exact ⟨by first | rfl | (simp [zj, zi] <;> rfl) | (simp [*, zj, zi] <;> rfl), y9, y0, y6⟩
def laws_heldTokenS.l0 : Nat → List (S43) → Int → Int → Option (Int)
 | 0, _, _, _ => none
 | k + 1, x0, x1, x5 => if x5 < (x0.length : Int) then (if 0 ≤ x5 then ((zt.f k x1).bind fun t288 => (if ((rd_T43 x0 x5).f0).toList = t288.toList then (if ((rd_T43 x0 x5).f1) = (wrap64 (x1 + 1)) then (if ((rd_T43 x0 x5).f2) = (wrap64 ((wrap64 (x1 + 1)) + 1)) then (if ((rd_T43 x0 x5).f3) = (wrap64 ((wrap64 ((wrap64 (x1 + 1)) + 1)) + 1)) then (laws_heldTokenS.l0 k x0 (wrap64 ((wrap64 ((wrap64 ((wrap64 (x1 + 1)) + 1)) + 1)) + 1)) (wrap64 (x5 + 1))) else (some (-1))) else (some (-1))) else (some (-1))) else (some (-1)))) else (none)) else (some x1)
def laws_heldTokenS.f (k : Nat) (l0 : List (S43)) (a1 : Int) : Option (Int) := laws_heldTokenS.l0 k l0 a1 0
def laws_heldTokenS.T4 : Bool × List (List Nat × List Nat) := (true, [([], []), ([], []), ([0, 1], [0, 1]), ([2], [2]), ([3], [3]), ([], []), ([5], [5]), ([4, 6], [4, 6])])
def laws_heldTokenS.B4 : List Nat := [0, 0, 3, 7, 15, 0, 32, 127]
theorem laws_heldTokenS.tab4 : rtab .any (opsOf Tryd.f18 4) = laws_heldTokenS.T4 := by kernel_rfl
theorem laws_heldTokenS.bits4 : waitsOk laws_heldTokenS.T4.2 laws_heldTokenS.B4 = true := by kernel_rfl
set_option maxHeartbeats 8000000 in
set_option maxRecDepth 100000 in
theorem laws_heldTokenS.calls (k : Nat) (A0 : Option Addr) (c0 : Nat) (l0 : List (S43)) (a1 : Int) (r : Int) (w : World) (hr0 : Kd.C k43 w A0 l0.length l0) (hc0 : l0.length ≤ c0) (h : laws_heldTokenS.f k l0 a1 = some r) :
  Calls Tryd.prog 18 #[.slice A0 l0.length c0, .int .i64 a1] w fun e w' => e = .returned (.int .i64 r) ∧ Below w.heap.size w w' := by
 have HR0 := zu.mk hr0
 have HC0 := zu.mk hc0
 clear hr0 hc0
 have HB := zu.mk (Below.refl w.heap.size w)
 have H : (laws_heldTokenS.l0 k l0 a1 0) = some r := h
 clear h
 have H' := zu.mk H
 clear H
 go_enter Tryd.func18, Tryd.ntmps18
 go_wp2
 go_loopg [1, 5] k (fun kq v1 v5 w' => ∃ (x1_1 : Int) (x5_1 : Int), v1 = .int .i64 x1_1 ∧ v5 = .int .i64 x5_1 ∧ zu (laws_heldTokenS.l0 kq l0 x1_1 x5_1 = some r) ∧ zu (kq ≤ k) ∧ zu (Below w.heap.size w w'))
 case atStart => exact ⟨(a1), (0), (by first | rfl | (simp; done) | (simp [*]; done)), (by first | rfl | (simp; done) | (simp [*]; done)), H', ⟨um _⟩, ⟨y0⟩⟩
 case round =>
  clear H'
  try clear c1
  try clear p2
  obtain ⟨x1_1, x5_1, rfl, rfl, HA, HK1, HB⟩ := hrel
  cases gk with
  | zero => exact absurd HA.out (by simp [laws_heldTokenS.l0])
  | succ k1 =>
   have H := HA.out
   clear HA
   simp only [laws_heldTokenS.l0] at H
   by_cases c3 : x5_1 < (l0.length : Int)
   ·rw [if_pos c3] at H
    have c3b0 : decide (x5_1 < (l0.length : Int)) = true := decide_eq_true c3
    clear c3
    by_cases c4 : 0 ≤ x5_1
    ·rw [if_pos c4] at H
     have c4b0 : decide (0 ≤ x5_1) = true := decide_eq_true c4
     clear c4
     replace H := ue.mp H
     obtain ⟨t288, A50, H⟩ := H
     replace H : (if ((rd_T43 l0 x5_1).f0).toList = t288.toList then (if ((rd_T43 l0 x5_1).f1) = (wrap64 (x1_1 + 1)) then (if ((rd_T43 l0 x5_1).f2) = (wrap64 ((wrap64 (x1_1 + 1)) + 1)) then (if ((rd_T43 l0 x5_1).f3) = (wrap64 ((wrap64 ((wrap64 (x1_1 + 1)) + 1)) + 1)) then (laws_heldTokenS.l0 k1 l0 (wrap64 ((wrap64 ((wrap64 ((wrap64 (x1_1 + 1)) + 1)) + 1)) + 1)) (wrap64 (x5_1 + 1))) else (some (-1))) else (some (-1))) else (some (-1))) else (some (-1))) = some r := H
     have A5 := zu.mk A50
     clear A50
     by_cases c6 : ((rd_T43 l0 x5_1).f0).toList = t288.toList
     ·rw [if_pos c6] at H
      have c6b0 : (((rd_T43 l0 x5_1).f0).toList == t288.toList) = true := beq_iff_eq.mpr c6
      have c6b1 : (((rd_T43 l0 x5_1).f0).toList != t288.toList) = false := bne_eq_false_iff_eq.mpr c6
      clear c6
      by_cases c7 : ((rd_T43 l0 x5_1).f1) = (wrap64 (x1_1 + 1))
      ·rw [if_pos c7] at H
       have c7b0 : (((rd_T43 l0 x5_1).f1) == (wrap64 (x1_1 + 1))) = true := beq_iff_eq.mpr c7
       have c7b1 : (((rd_T43 l0 x5_1).f1) != (wrap64 (x1_1 + 1))) = false := bne_eq_false_iff_eq.mpr c7
       clear c7
       by_cases c8 : ((rd_T43 l0 x5_1).f2) = (wrap64 ((wrap64 (x1_1 + 1)) + 1))
       ·rw [if_pos c8] at H
        have c8b0 : (((rd_T43 l0 x5_1).f2) == (wrap64 ((wrap64 (x1_1 + 1)) + 1))) = true := beq_iff_eq.mpr c8
        have c8b1 : (((rd_T43 l0 x5_1).f2) != (wrap64 ((wrap64 (x1_1 + 1)) + 1))) = false := bne_eq_false_iff_eq.mpr c8
        clear c8
        by_cases c9 : ((rd_T43 l0 x5_1).f3) = (wrap64 ((wrap64 ((wrap64 (x1_1 + 1)) + 1)) + 1))
        ·rw [if_pos c9] at H
         have c9b0 : (((rd_T43 l0 x5_1).f3) == (wrap64 ((wrap64 ((wrap64 (x1_1 + 1)) + 1)) + 1))) = true := beq_iff_eq.mpr c9
         have c9b1 : (((rd_T43 l0 x5_1).f3) != (wrap64 ((wrap64 ((wrap64 (x1_1 + 1)) + 1)) + 1))) = false := bne_eq_false_iff_eq.mpr c9
         clear c9
         have H' := zu.mk H
         clear H
         try go_wp2
         have n0_ := zu.mk (z6 HB.out)
         clear HB
         have HB := n0_
         clear n0_
         have p287 : 0 ≤ (x5_1 : Int) := of_decide_eq_true (by first | (with_reducible assumption) | assumption)
         have q287 : x5_1 < (l0.length : Int) := of_decide_eq_true (by first | (with_reducible assumption) | assumption)
         obtain ⟨ad287, e287, hx287_0, hx287_1, hx287_2, hx287_3⟩ := at_T43 HR0.out x5_1 p287 q287
         have hw287_3 := hx287_3
         have hw287_2 := hx287_2
         have hw287_1 := hx287_1
         have hw287_0 := hx287_0
         cases e287
         replace hx287_0 := (HB.out.cell (ua w _ hx287_0)).trans hx287_0
         replace hx287_1 := (HB.out.cell (ua w _ hx287_1)).trans hx287_1
         replace hx287_2 := (HB.out.cell (ua w _ hx287_2)).trans hx287_2
         replace hx287_3 := (HB.out.cell (ua w _ hx287_3)).trans hx287_3
         replace p287 := eq_true p287
         replace q287 := eq_true q287
         refine start_ (n := 8) (S := fun w' => w'.cell? (ad287.add ((x5_1).toNat * 4)) = some (.string ((rd_T43 l0 x5_1).f0)) ∧ w'.cell? ⟨(ad287.add ((x5_1).toNat * 4)).block, (ad287.add ((x5_1).toNat * 4)).off + 1, none⟩ = some (.int .i64 ((rd_T43 l0 x5_1).f1)) ∧ w'.cell? ⟨(ad287.add ((x5_1).toNat * 4)).block, (ad287.add ((x5_1).toNat * 4)).off + 2, none⟩ = some (.int .i64 ((rd_T43 l0 x5_1).f2)) ∧ w'.cell? ⟨(ad287.add ((x5_1).toNat * 4)).block, (ad287.add ((x5_1).toNat * 4)).off + 3, none⟩ = some (.int .i64 ((rd_T43 l0 x5_1).f3))) (ds := []) #[false, false, false, false, false, false, false, false] (by kernel_rfl) rfl rfl ⟨((HB.out.cell (ua w _ hw287_0)).trans hw287_0), ((HB.out.cell (ua w _ hw287_1)).trans hw287_1), ((HB.out.cell (ua w _ hw287_2)).trans hw287_2), ((HB.out.cell (ua w _ hw287_3)).trans hw287_3)⟩ (fun hHeld => ?_); refine with_tabW laws_heldTokenS.tab4 laws_heldTokenS.bits4 (fun HT_ HW_ => ?_)
         generalize wr.drew = w10 at HB hx287_0 hx287_1 hx287_2 hx287_3 hHeld ⊢
         refine pure_ (i := 0) (N := some 12) (v := ?_) (a' := ?_) #[true, false, false, false, false, false, false, false] rfl rfl (any_of HT_.out (by kernel_rfl)) (fun _ _ _ h => h) (Or.inl ⟨by rfl, ?_⟩) ?_ ?_
         rotate_left
         ·intro w'
          go_simp
          with_reducible rfl
         rotate_left
         ·simp only [Act.put, ub, uc, ud, zk, zl]
          rfl
         refine pure_ (i := 1) (N := some 13) (v := ?_) (a' := ?_) #[true, true, false, false, false, false, false, false] rfl rfl (any_of HT_.out (by kernel_rfl)) (fun _ _ _ h => h) (Or.inl ⟨by rfl, ?_⟩) ?_ ?_
         rotate_left
         ·intro w'
          go_simp
          with_reducible rfl
         rotate_left
         ·simp only [Act.put, ub, uc, ud, zk, zl]
          rfl
         refine pure_ (i := 2) (N := some 14) (v := ?_) (a' := ?_) #[true, true, true, false, false, false, false, false] rfl rfl (any_of HT_.out (by kernel_rfl)) (fun _ _ _ h => h) (Or.inl ⟨by rfl, ?_⟩) ?_ ?_
         rotate_left
         ·intro w'
          go_simp
          with_reducible rfl
         rotate_left
         ·simp only [Act.put, ub, uc, ud, zk, zl]
          rfl
         refine pure_ (i := 3) (N := some 15) (v := ?_) (a' := ?_) #[true, true, true, true, false, false, false, false] rfl rfl (any_of HT_.out (by kernel_rfl)) (fun _ _ _ h => h) (Or.inl ⟨by rfl, ?_⟩) ?_ ?_
         rotate_left
         ·intro w'
          go_simp
          with_reducible rfl
         rotate_left
         ·simp only [Act.put, ub, uc, ud, zk, zl]
          rfl
         refine pure_ (i := 5) (N := some 17) (v := ?_) (a' := ?_) #[true, true, true, true, false, true, false, false] rfl rfl (any_of HT_.out (by kernel_rfl)) (fun _ _ _ h => h) (Or.inl ⟨by rfl, ?_⟩) ?_ ?_
         rotate_left
         ·intro w'
          go_simp
          with_reducible rfl
         rotate_left
         ·simp only [Act.put, ub, uc, ud, zk, zl]
          rfl
         refine take_ (i := 4) (N := some 16) (v := ?_) (a' := ?_) #[true, true, true, true, true, true, false, false] rfl rfl (take_ofW HT_.out HW_.out (by kernel_rfl)) (fun _ _ _ h => h) (Or.inl ⟨by rfl, ?_⟩) hHeld ?_ ?_
         rotate_left
         ·rintro w' ⟨s0, s1, s2, s3⟩
          go_simp
          with_reducible rfl
         rotate_left
         ·simp only [Act.put, ub, uc, ud, zk, zl]
          rfl
         refine one_ (i := 6) (N := some 18) #[true, true, true, true, true, true, true, false] rfl rfl (one_of HT_.out (by kernel_rfl)) (by decide) (fun K hK => ?_)
         refine goes_ Tryd.func42 (by kernel_rfl) rfl #[.int .i64 x1_1] (by rfl) rfl rfl (by (try simp only [uh, ui, uj]); first | done | rfl | (simp only [uf, ug]; rfl)) ?_
         with_reducible refine (zt.calls k1 x1_1 t288 _ A5.out).mono ?_
         rintro e w11 ⟨rfl, hb⟩
         refine ⟨_, rfl, ?_⟩
         have n0_ := zu.mk (ze y0 hb)
         clear HB
         have HB := n0_
         clear n0_
         (try clear hb)
         (try clear hb2)
         (try clear hk)
         (try clear hi)
         refine hK.out _ _ ⟨((HB.out.cell (ua w _ hw287_0)).trans hw287_0), ((HB.out.cell (ua w _ hw287_1)).trans hw287_1), ((HB.out.cell (ua w _ hw287_2)).trans hw287_2), ((HB.out.cell (ua w _ hw287_3)).trans hw287_3)⟩ (fun hHeld => ?_)
         clear hK K
         refine norm_ (a' := ?_) ?_ ?_
         rotate_left
         ·show Act.put _ (some 18) _ = _
          simp only [Act.put, ub, uc, ud, zk, zl]
          rfl
         refine pure_ (i := 7) (N := some 19) (v := ?_) (a' := ?_) #[true, true, true, true, true, true, true, true] rfl rfl (any_of HT_.out (by kernel_rfl)) (fun _ _ _ h => h) (Or.inl ⟨by rfl, ?_⟩) ?_ ?_
         rotate_left
         ·intro w'
          go_simp
          with_reducible rfl
         rotate_left
         ·simp only [Act.put, ub, uc, ud, zk, zl]
          rfl
         refine done_ (done_of HT_.out (by kernel_rfl)) ?_
         have p289 : 0 ≤ (x5_1 : Int) := of_decide_eq_true (by first | (with_reducible assumption) | assumption)
         have q289 : x5_1 < (l0.length : Int) := of_decide_eq_true (by first | (with_reducible assumption) | assumption)
         obtain ⟨ad289, e289, hx289_0, hx289_1, hx289_2, hx289_3⟩ := at_T43 HR0.out x5_1 p289 q289
         obtain rfl : ad287 = ad289 := (by injection e289)
         replace hx289_0 := (HB.out.cell (ua w _ hx289_0)).trans hx289_0
         replace hx289_1 := (HB.out.cell (ua w _ hx289_1)).trans hx289_1
         replace hx289_2 := (HB.out.cell (ua w _ hx289_2)).trans hx289_2
         replace hx289_3 := (HB.out.cell (ua w _ hx289_3)).trans hx289_3
         replace p289 := eq_true p289
         replace q289 := eq_true q289
         have p290 : 0 ≤ (x5_1 : Int) := of_decide_eq_true (by first | (with_reducible assumption) | assumption)
         have q290 : x5_1 < (l0.length : Int) := of_decide_eq_true (by first | (with_reducible assumption) | assumption)
         obtain ⟨ad290, e290, hx290_0, hx290_1, hx290_2, hx290_3⟩ := at_T43 HR0.out x5_1 p290 q290
         obtain rfl : ad287 = ad290 := (by injection e290)
         replace hx290_0 := (HB.out.cell (ua w _ hx290_0)).trans hx290_0
         replace hx290_1 := (HB.out.cell (ua w _ hx290_1)).trans hx290_1
         replace hx290_2 := (HB.out.cell (ua w _ hx290_2)).trans hx290_2
         replace hx290_3 := (HB.out.cell (ua w _ hx290_3)).trans hx290_3
         replace p290 := eq_true p290
         replace q290 := eq_true q290
         have p291 : 0 ≤ (x5_1 : Int) := of_decide_eq_true (by first | (with_reducible assumption) | assumption)
         have q291 : x5_1 < (l0.length : Int) := of_decide_eq_true (by first | (with_reducible assumption) | assumption)
         obtain ⟨ad291, e291, hx291_0, hx291_1, hx291_2, hx291_3⟩ := at_T43 HR0.out x5_1 p291 q291
         obtain rfl : ad287 = ad291 := (by injection e291)
         replace hx291_0 := (HB.out.cell (ua w _ hx291_0)).trans hx291_0
         replace hx291_1 := (HB.out.cell (ua w _ hx291_1)).trans hx291_1
         replace hx291_2 := (HB.out.cell (ua w _ hx291_2)).trans hx291_2
         replace hx291_3 := (HB.out.cell (ua w _ hx291_3)).trans hx291_3
         replace p291 := eq_true p291
         replace q291 := eq_true q291
         try go_wp2
         go_roundg k1
         case measure => have := HK1.out; omega
         case rel => exact ⟨(wrap64 ((wrap64 ((wrap64 ((wrap64 (x1_1 + 1)) + 1)) + 1)) + 1)), (wrap64 (x5_1 + 1)), (by first | rfl | (simp; done) | (simp [*]; done)), (by first | rfl | (simp; done) | (simp [*]; done)), H', ⟨by have := HK1.out; omega⟩, ⟨y0⟩⟩
        ·rw [if_neg c9] at H
         have c9b0 : (((rd_T43 l0 x5_1).f3) == (wrap64 ((wrap64 ((wrap64 (x1_1 + 1)) + 1)) + 1))) = false := beq_eq_false_iff_ne.mpr c9
         have c9b1 : (((rd_T43 l0 x5_1).f3) != (wrap64 ((wrap64 ((wrap64 (x1_1 + 1)) + 1)) + 1))) = true := bne_iff_ne.mpr c9
         obtain rfl := Option.some.inj H
         try go_wp2
         have n0_ := zu.mk (z6 HB.out)
         clear HB
         have HB := n0_
         clear n0_
         have p287 : 0 ≤ (x5_1 : Int) := of_decide_eq_true (by first | (with_reducible assumption) | assumption)
         have q287 : x5_1 < (l0.length : Int) := of_decide_eq_true (by first | (with_reducible assumption) | assumption)
         obtain ⟨ad287, e287, hx287_0, hx287_1, hx287_2, hx287_3⟩ := at_T43 HR0.out x5_1 p287 q287
         have hw287_3 := hx287_3
         have hw287_2 := hx287_2
         have hw287_1 := hx287_1
         have hw287_0 := hx287_0
         cases e287
         replace hx287_0 := (HB.out.cell (ua w _ hx287_0)).trans hx287_0
         replace hx287_1 := (HB.out.cell (ua w _ hx287_1)).trans hx287_1
         replace hx287_2 := (HB.out.cell (ua w _ hx287_2)).trans hx287_2
         replace hx287_3 := (HB.out.cell (ua w _ hx287_3)).trans hx287_3
         replace p287 := eq_true p287
         replace q287 := eq_true q287
         refine start_ (n := 8) (S := fun w' => w'.cell? (ad287.add ((x5_1).toNat * 4)) = some (.string ((rd_T43 l0 x5_1).f0)) ∧ w'.cell? ⟨(ad287.add ((x5_1).toNat * 4)).block, (ad287.add ((x5_1).toNat * 4)).off + 1, none⟩ = some (.int .i64 ((rd_T43 l0 x5_1).f1)) ∧ w'.cell? ⟨(ad287.add ((x5_1).toNat * 4)).block, (ad287.add ((x5_1).toNat * 4)).off + 2, none⟩ = some (.int .i64 ((rd_T43 l0 x5_1).f2)) ∧ w'.cell? ⟨(ad287.add ((x5_1).toNat * 4)).block, (ad287.add ((x5_1).toNat * 4)).off + 3, none⟩ = some (.int .i64 ((rd_T43 l0 x5_1).f3))) (ds := []) #[false, false, false, false, false, false, false, false] (by kernel_rfl) rfl rfl ⟨((HB.out.cell (ua w _ hw287_0)).trans hw287_0), ((HB.out.cell (ua w _ hw287_1)).trans hw287_1), ((HB.out.cell (ua w _ hw287_2)).trans hw287_2), ((HB.out.cell (ua w _ hw287_3)).trans hw287_3)⟩ (fun hHeld => ?_); refine with_tabW laws_heldTokenS.tab4 laws_heldTokenS.bits4 (fun HT_ HW_ => ?_)
         generalize wr.drew = w12 at HB hx287_0 hx287_1 hx287_2 hx287_3 hHeld ⊢
         refine pure_ (i := 0) (N := some 12) (v := ?_) (a' := ?_) #[true, false, false, false, false, false, false, false] rfl rfl (any_of HT_.out (by kernel_rfl)) (fun _ _ _ h => h) (Or.inl ⟨by rfl, ?_⟩) ?_ ?_
         rotate_left
         ·intro w'
          go_simp
          with_reducible rfl
         rotate_left
         ·simp only [Act.put, ub, uc, ud, zk, zl]
          rfl
         refine pure_ (i := 1) (N := some 13) (v := ?_) (a' := ?_) #[true, true, false, false, false, false, false, false] rfl rfl (any_of HT_.out (by kernel_rfl)) (fun _ _ _ h => h) (Or.inl ⟨by rfl, ?_⟩) ?_ ?_
         rotate_left
         ·intro w'
          go_simp
          with_reducible rfl
         rotate_left
         ·simp only [Act.put, ub, uc, ud, zk, zl]
          rfl
         refine pure_ (i := 2) (N := some 14) (v := ?_) (a' := ?_) #[true, true, true, false, false, false, false, false] rfl rfl (any_of HT_.out (by kernel_rfl)) (fun _ _ _ h => h) (Or.inl ⟨by rfl, ?_⟩) ?_ ?_
         rotate_left
         ·intro w'
          go_simp
          with_reducible rfl
         rotate_left
         ·simp only [Act.put, ub, uc, ud, zk, zl]
          rfl
         refine pure_ (i := 3) (N := some 15) (v := ?_) (a' := ?_) #[true, true, true, true, false, false, false, false] rfl rfl (any_of HT_.out (by kernel_rfl)) (fun _ _ _ h => h) (Or.inl ⟨by rfl, ?_⟩) ?_ ?_
         rotate_left
         ·intro w'
          go_simp
          with_reducible rfl
         rotate_left
         ·simp only [Act.put, ub, uc, ud, zk, zl]
          rfl
         refine pure_ (i := 5) (N := some 17) (v := ?_) (a' := ?_) #[true, true, true, true, false, true, false, false] rfl rfl (any_of HT_.out (by kernel_rfl)) (fun _ _ _ h => h) (Or.inl ⟨by rfl, ?_⟩) ?_ ?_
         rotate_left
         ·intro w'
          go_simp
          with_reducible rfl
         rotate_left
         ·simp only [Act.put, ub, uc, ud, zk, zl]
          rfl
         refine take_ (i := 4) (N := some 16) (v := ?_) (a' := ?_) #[true, true, true, true, true, true, false, false] rfl rfl (take_ofW HT_.out HW_.out (by kernel_rfl)) (fun _ _ _ h => h) (Or.inl ⟨by rfl, ?_⟩) hHeld ?_ ?_
         rotate_left
         ·rintro w' ⟨s0, s1, s2, s3⟩
          go_simp
          with_reducible rfl
         rotate_left
         ·simp only [Act.put, ub, uc, ud, zk, zl]
          rfl
         refine one_ (i := 6) (N := some 18) #[true, true, true, true, true, true, true, false] rfl rfl (one_of HT_.out (by kernel_rfl)) (by decide) (fun K hK => ?_)
         refine goes_ Tryd.func42 (by kernel_rfl) rfl #[.int .i64 x1_1] (by rfl) rfl rfl (by (try simp only [uh, ui, uj]); first | done | rfl | (simp only [uf, ug]; rfl)) ?_
         with_reducible refine (zt.calls k1 x1_1 t288 _ A5.out).mono ?_
         rintro e w13 ⟨rfl, hb⟩
         refine ⟨_, rfl, ?_⟩
         have n0_ := zu.mk (ze y0 hb)
         clear HB
         have HB := n0_
         clear n0_
         (try clear hb)
         (try clear hb2)
         (try clear hk)
         (try clear hi)
         refine hK.out _ _ ⟨((HB.out.cell (ua w _ hw287_0)).trans hw287_0), ((HB.out.cell (ua w _ hw287_1)).trans hw287_1), ((HB.out.cell (ua w _ hw287_2)).trans hw287_2), ((HB.out.cell (ua w _ hw287_3)).trans hw287_3)⟩ (fun hHeld => ?_)
         clear hK K
         refine norm_ (a' := ?_) ?_ ?_
         rotate_left
         ·show Act.put _ (some 18) _ = _
          simp only [Act.put, ub, uc, ud, zk, zl]
          rfl
         refine pure_ (i := 7) (N := some 19) (v := ?_) (a' := ?_) #[true, true, true, true, true, true, true, true] rfl rfl (any_of HT_.out (by kernel_rfl)) (fun _ _ _ h => h) (Or.inl ⟨by rfl, ?_⟩) ?_ ?_
         rotate_left
         ·intro w'
          go_simp
          with_reducible rfl
         rotate_left
         ·simp only [Act.put, ub, uc, ud, zk, zl]
          rfl
         refine done_ (done_of HT_.out (by kernel_rfl)) ?_
         have p289 : 0 ≤ (x5_1 : Int) := of_decide_eq_true (by first | (with_reducible assumption) | assumption)
         have q289 : x5_1 < (l0.length : Int) := of_decide_eq_true (by first | (with_reducible assumption) | assumption)
         obtain ⟨ad289, e289, hx289_0, hx289_1, hx289_2, hx289_3⟩ := at_T43 HR0.out x5_1 p289 q289
         obtain rfl : ad287 = ad289 := (by injection e289)
         replace hx289_0 := (HB.out.cell (ua w _ hx289_0)).trans hx289_0
         replace hx289_1 := (HB.out.cell (ua w _ hx289_1)).trans hx289_1
         replace hx289_2 := (HB.out.cell (ua w _ hx289_2)).trans hx289_2
         replace hx289_3 := (HB.out.cell (ua w _ hx289_3)).trans hx289_3
         replace p289 := eq_true p289
         replace q289 := eq_true q289
         have p290 : 0 ≤ (x5_1 : Int) := of_decide_eq_true (by first | (with_reducible assumption) | assumption)
         have q290 : x5_1 < (l0.length : Int) := of_decide_eq_true (by first | (with_reducible assumption) | assumption)
         obtain ⟨ad290, e290, hx290_0, hx290_1, hx290_2, hx290_3⟩ := at_T43 HR0.out x5_1 p290 q290
         obtain rfl : ad287 = ad290 := (by injection e290)
         replace hx290_0 := (HB.out.cell (ua w _ hx290_0)).trans hx290_0
         replace hx290_1 := (HB.out.cell (ua w _ hx290_1)).trans hx290_1
         replace hx290_2 := (HB.out.cell (ua w _ hx290_2)).trans hx290_2
         replace hx290_3 := (HB.out.cell (ua w _ hx290_3)).trans hx290_3
         replace p290 := eq_true p290
         replace q290 := eq_true q290
         have p291 : 0 ≤ (x5_1 : Int) := of_decide_eq_true (by first | (with_reducible assumption) | assumption)
         have q291 : x5_1 < (l0.length : Int) := of_decide_eq_true (by first | (with_reducible assumption) | assumption)
         obtain ⟨ad291, e291, hx291_0, hx291_1, hx291_2, hx291_3⟩ := at_T43 HR0.out x5_1 p291 q291
         obtain rfl : ad287 = ad291 := (by injection e291)
         replace hx291_0 := (HB.out.cell (ua w _ hx291_0)).trans hx291_0
         replace hx291_1 := (HB.out.cell (ua w _ hx291_1)).trans hx291_1
         replace hx291_2 := (HB.out.cell (ua w _ hx291_2)).trans hx291_2
         replace hx291_3 := (HB.out.cell (ua w _ hx291_3)).trans hx291_3
         replace p291 := eq_true p291
         replace q291 := eq_true q291
         try go_wp2
         go_ret
         exact ⟨by first | rfl | (simp [zj, zi] <;> rfl) | (simp [*, zj, zi] <;> rfl), y0⟩
       ·rw [if_neg c8] at H
        have c8b0 : (((rd_T43 l0 x5_1).f2) == (wrap64 ((wrap64 (x1_1 + 1)) + 1))) = false := beq_eq_false_iff_ne.mpr c8
        have c8b1 : (((rd_T43 l0 x5_1).f2) != (wrap64 ((wrap64 (x1_1 + 1)) + 1))) = true := bne_iff_ne.mpr c8
        obtain rfl := Option.some.inj H
        try go_wp2
        have n0_ := zu.mk (z6 HB.out)
        clear HB
        have HB := n0_
        clear n0_
        have p287 : 0 ≤ (x5_1 : Int) := of_decide_eq_true (by first | (with_reducible assumption) | assumption)
        have q287 : x5_1 < (l0.length : Int) := of_decide_eq_true (by first | (with_reducible assumption) | assumption)
        obtain ⟨ad287, e287, hx287_0, hx287_1, hx287_2, hx287_3⟩ := at_T43 HR0.out x5_1 p287 q287
        have hw287_3 := hx287_3
        have hw287_2 := hx287_2
        have hw287_1 := hx287_1
        have hw287_0 := hx287_0
        cases e287
        replace hx287_0 := (HB.out.cell (ua w _ hx287_0)).trans hx287_0
        replace hx287_1 := (HB.out.cell (ua w _ hx287_1)).trans hx287_1
        replace hx287_2 := (HB.out.cell (ua w _ hx287_2)).trans hx287_2
        replace hx287_3 := (HB.out.cell (ua w _ hx287_3)).trans hx287_3
        replace p287 := eq_true p287
        replace q287 := eq_true q287
        refine start_ (n := 8) (S := fun w' => w'.cell? (ad287.add ((x5_1).toNat * 4)) = some (.string ((rd_T43 l0 x5_1).f0)) ∧ w'.cell? ⟨(ad287.add ((x5_1).toNat * 4)).block, (ad287.add ((x5_1).toNat * 4)).off + 1, none⟩ = some (.int .i64 ((rd_T43 l0 x5_1).f1)) ∧ w'.cell? ⟨(ad287.add ((x5_1).toNat * 4)).block, (ad287.add ((x5_1).toNat * 4)).off + 2, none⟩ = some (.int .i64 ((rd_T43 l0 x5_1).f2)) ∧ w'.cell? ⟨(ad287.add ((x5_1).toNat * 4)).block, (ad287.add ((x5_1).toNat * 4)).off + 3, none⟩ = some (.int .i64 ((rd_T43 l0 x5_1).f3))) (ds := []) #[false, false, false, false, false, false, false, false] (by kernel_rfl) rfl rfl ⟨((HB.out.cell (ua w _ hw287_0)).trans hw287_0), ((HB.out.cell (ua w _ hw287_1)).trans hw287_1), ((HB.out.cell (ua w _ hw287_2)).trans hw287_2), ((HB.out.cell (ua w _ hw287_3)).trans hw287_3)⟩ (fun hHeld => ?_); refine with_tabW laws_heldTokenS.tab4 laws_heldTokenS.bits4 (fun HT_ HW_ => ?_)
        generalize wr.drew = w14 at HB hx287_0 hx287_1 hx287_2 hx287_3 hHeld ⊢
        refine pure_ (i := 0) (N := some 12) (v := ?_) (a' := ?_) #[true, false, false, false, false, false, false, false] rfl rfl (any_of HT_.out (by kernel_rfl)) (fun _ _ _ h => h) (Or.inl ⟨by rfl, ?_⟩) ?_ ?_
        rotate_left
        ·intro w'
         go_simp
         with_reducible rfl
        rotate_left
        ·simp only [Act.put, ub, uc, ud, zk, zl]
         rfl
        refine pure_ (i := 1) (N := some 13) (v := ?_) (a' := ?_) #[true, true, false, false, false, false, false, false] rfl rfl (any_of HT_.out (by kernel_rfl)) (fun _ _ _ h => h) (Or.inl ⟨by rfl, ?_⟩) ?_ ?_
        rotate_left
        ·intro w'
         go_simp
         with_reducible rfl
        rotate_left
        ·simp only [Act.put, ub, uc, ud, zk, zl]
         rfl
        refine pure_ (i := 2) (N := some 14) (v := ?_) (a' := ?_) #[true, true, true, false, false, false, false, false] rfl rfl (any_of HT_.out (by kernel_rfl)) (fun _ _ _ h => h) (Or.inl ⟨by rfl, ?_⟩) ?_ ?_
        rotate_left
        ·intro w'
         go_simp
         with_reducible rfl
        rotate_left
        ·simp only [Act.put, ub, uc, ud, zk, zl]
         rfl
        refine pure_ (i := 3) (N := some 15) (v := ?_) (a' := ?_) #[true, true, true, true, false, false, false, false] rfl rfl (any_of HT_.out (by kernel_rfl)) (fun _ _ _ h => h) (Or.inl ⟨by rfl, ?_⟩) ?_ ?_
        rotate_left
        ·intro w'
         go_simp
         with_reducible rfl
        rotate_left
        ·simp only [Act.put, ub, uc, ud, zk, zl]
         rfl
        refine pure_ (i := 5) (N := some 17) (v := ?_) (a' := ?_) #[true, true, true, true, false, true, false, false] rfl rfl (any_of HT_.out (by kernel_rfl)) (fun _ _ _ h => h) (Or.inl ⟨by rfl, ?_⟩) ?_ ?_
        rotate_left
        ·intro w'
         go_simp
         with_reducible rfl
        rotate_left
        ·simp only [Act.put, ub, uc, ud, zk, zl]
         rfl
        refine take_ (i := 4) (N := some 16) (v := ?_) (a' := ?_) #[true, true, true, true, true, true, false, false] rfl rfl (take_ofW HT_.out HW_.out (by kernel_rfl)) (fun _ _ _ h => h) (Or.inl ⟨by rfl, ?_⟩) hHeld ?_ ?_
        rotate_left
        ·rintro w' ⟨s0, s1, s2, s3⟩
         go_simp
         with_reducible rfl
        rotate_left
        ·simp only [Act.put, ub, uc, ud, zk, zl]
         rfl
        refine one_ (i := 6) (N := some 18) #[true, true, true, true, true, true, true, false] rfl rfl (one_of HT_.out (by kernel_rfl)) (by decide) (fun K hK => ?_)
        refine goes_ Tryd.func42 (by kernel_rfl) rfl #[.int .i64 x1_1] (by rfl) rfl rfl (by (try simp only [uh, ui, uj]); first | done | rfl | (simp only [uf, ug]; rfl)) ?_
        with_reducible refine (zt.calls k1 x1_1 t288 _ A5.out).mono ?_
        rintro e w15 ⟨rfl, hb⟩
        refine ⟨_, rfl, ?_⟩
        have n0_ := zu.mk (ze y0 hb)
        clear HB
        have HB := n0_
        clear n0_
        (try clear hb)
        (try clear hb2)
        (try clear hk)
        (try clear hi)
        refine hK.out _ _ ⟨((HB.out.cell (ua w _ hw287_0)).trans hw287_0), ((HB.out.cell (ua w _ hw287_1)).trans hw287_1), ((HB.out.cell (ua w _ hw287_2)).trans hw287_2), ((HB.out.cell (ua w _ hw287_3)).trans hw287_3)⟩ (fun hHeld => ?_)
        clear hK K
        refine norm_ (a' := ?_) ?_ ?_
        rotate_left
        ·show Act.put _ (some 18) _ = _
         simp only [Act.put, ub, uc, ud, zk, zl]
         rfl
        refine pure_ (i := 7) (N := some 19) (v := ?_) (a' := ?_) #[true, true, true, true, true, true, true, true] rfl rfl (any_of HT_.out (by kernel_rfl)) (fun _ _ _ h => h) (Or.inl ⟨by rfl, ?_⟩) ?_ ?_
        rotate_left
        ·intro w'
         go_simp
         with_reducible rfl
        rotate_left
        ·simp only [Act.put, ub, uc, ud, zk, zl]
         rfl
        refine done_ (done_of HT_.out (by kernel_rfl)) ?_
        have p289 : 0 ≤ (x5_1 : Int) := of_decide_eq_true (by first | (with_reducible assumption) | assumption)
        have q289 : x5_1 < (l0.length : Int) := of_decide_eq_true (by first | (with_reducible assumption) | assumption)
        obtain ⟨ad289, e289, hx289_0, hx289_1, hx289_2, hx289_3⟩ := at_T43 HR0.out x5_1 p289 q289
        obtain rfl : ad287 = ad289 := (by injection e289)
        replace hx289_0 := (HB.out.cell (ua w _ hx289_0)).trans hx289_0
        replace hx289_1 := (HB.out.cell (ua w _ hx289_1)).trans hx289_1
        replace hx289_2 := (HB.out.cell (ua w _ hx289_2)).trans hx289_2
        replace hx289_3 := (HB.out.cell (ua w _ hx289_3)).trans hx289_3
        replace p289 := eq_true p289
        replace q289 := eq_true q289
        have p290 : 0 ≤ (x5_1 : Int) := of_decide_eq_true (by first | (with_reducible assumption) | assumption)
        have q290 : x5_1 < (l0.length : Int) := of_decide_eq_true (by first | (with_reducible assumption) | assumption)
        obtain ⟨ad290, e290, hx290_0, hx290_1, hx290_2, hx290_3⟩ := at_T43 HR0.out x5_1 p290 q290
        obtain rfl : ad287 = ad290 := (by injection e290)
        replace hx290_0 := (HB.out.cell (ua w _ hx290_0)).trans hx290_0
        replace hx290_1 := (HB.out.cell (ua w _ hx290_1)).trans hx290_1
        replace hx290_2 := (HB.out.cell (ua w _ hx290_2)).trans hx290_2
        replace hx290_3 := (HB.out.cell (ua w _ hx290_3)).trans hx290_3
        replace p290 := eq_true p290
        replace q290 := eq_true q290
        try go_wp2
        go_ret
        exact ⟨by first | rfl | (simp [zj, zi] <;> rfl) | (simp [*, zj, zi] <;> rfl), y0⟩
      ·rw [if_neg c7] at H
       have c7b0 : (((rd_T43 l0 x5_1).f1) == (wrap64 (x1_1 + 1))) = false := beq_eq_false_iff_ne.mpr c7
       have c7b1 : (((rd_T43 l0 x5_1).f1) != (wrap64 (x1_1 + 1))) = true := bne_iff_ne.mpr c7
       obtain rfl := Option.some.inj H
       try go_wp2
       have n0_ := zu.mk (z6 HB.out)
       clear HB
       have HB := n0_
       clear n0_
       have p287 : 0 ≤ (x5_1 : Int) := of_decide_eq_true (by first | (with_reducible assumption) | assumption)
       have q287 : x5_1 < (l0.length : Int) := of_decide_eq_true (by first | (with_reducible assumption) | assumption)
       obtain ⟨ad287, e287, hx287_0, hx287_1, hx287_2, hx287_3⟩ := at_T43 HR0.out x5_1 p287 q287
       have hw287_3 := hx287_3
       have hw287_2 := hx287_2
       have hw287_1 := hx287_1
       have hw287_0 := hx287_0
       cases e287
       replace hx287_0 := (HB.out.cell (ua w _ hx287_0)).trans hx287_0
       replace hx287_1 := (HB.out.cell (ua w _ hx287_1)).trans hx287_1
       replace hx287_2 := (HB.out.cell (ua w _ hx287_2)).trans hx287_2
       replace hx287_3 := (HB.out.cell (ua w _ hx287_3)).trans hx287_3
       replace p287 := eq_true p287
       replace q287 := eq_true q287
       refine start_ (n := 8) (S := fun w' => w'.cell? (ad287.add ((x5_1).toNat * 4)) = some (.string ((rd_T43 l0 x5_1).f0)) ∧ w'.cell? ⟨(ad287.add ((x5_1).toNat * 4)).block, (ad287.add ((x5_1).toNat * 4)).off + 1, none⟩ = some (.int .i64 ((rd_T43 l0 x5_1).f1)) ∧ w'.cell? ⟨(ad287.add ((x5_1).toNat * 4)).block, (ad287.add ((x5_1).toNat * 4)).off + 2, none⟩ = some (.int .i64 ((rd_T43 l0 x5_1).f2)) ∧ w'.cell? ⟨(ad287.add ((x5_1).toNat * 4)).block, (ad287.add ((x5_1).toNat * 4)).off + 3, none⟩ = some (.int .i64 ((rd_T43 l0 x5_1).f3))) (ds := []) #[false, false, false, false, false, false, false, false] (by kernel_rfl) rfl rfl ⟨((HB.out.cell (ua w _ hw287_0)).trans hw287_0), ((HB.out.cell (ua w _ hw287_1)).trans hw287_1), ((HB.out.cell (ua w _ hw287_2)).trans hw287_2), ((HB.out.cell (ua w _ hw287_3)).trans hw287_3)⟩ (fun hHeld => ?_); refine with_tabW laws_heldTokenS.tab4 laws_heldTokenS.bits4 (fun HT_ HW_ => ?_)
       generalize wr.drew = w16 at HB hx287_0 hx287_1 hx287_2 hx287_3 hHeld ⊢
       refine pure_ (i := 0) (N := some 12) (v := ?_) (a' := ?_) #[true, false, false, false, false, false, false, false] rfl rfl (any_of HT_.out (by kernel_rfl)) (fun _ _ _ h => h) (Or.inl ⟨by rfl, ?_⟩) ?_ ?_
       rotate_left
       ·intro w'
        go_simp
        with_reducible rfl
       rotate_left
       ·simp only [Act.put, ub, uc, ud, zk, zl]
        rfl
       refine pure_ (i := 1) (N := some 13) (v := ?_) (a' := ?_) #[true, true, false, false, false, false, false, false] rfl rfl (any_of HT_.out (by kernel_rfl)) (fun _ _ _ h => h) (Or.inl ⟨by rfl, ?_⟩) ?_ ?_
       rotate_left
       ·intro w'
        go_simp
        with_reducible rfl
       rotate_left
       ·simp only [Act.put, ub, uc, ud, zk, zl]
        rfl
       refine pure_ (i := 2) (N := some 14) (v := ?_) (a' := ?_) #[true, true, true, false, false, false, false, false] rfl rfl (any_of HT_.out (by kernel_rfl)) (fun _ _ _ h => h) (Or.inl ⟨by rfl, ?_⟩) ?_ ?_
       rotate_left
       ·intro w'
        go_simp
        with_reducible rfl
       rotate_left
       ·simp only [Act.put, ub, uc, ud, zk, zl]
        rfl
       refine pure_ (i := 3) (N := some 15) (v := ?_) (a' := ?_) #[true, true, true, true, false, false, false, false] rfl rfl (any_of HT_.out (by kernel_rfl)) (fun _ _ _ h => h) (Or.inl ⟨by rfl, ?_⟩) ?_ ?_
       rotate_left
       ·intro w'
        go_simp
        with_reducible rfl
       rotate_left
       ·simp only [Act.put, ub, uc, ud, zk, zl]
        rfl
       refine pure_ (i := 5) (N := some 17) (v := ?_) (a' := ?_) #[true, true, true, true, false, true, false, false] rfl rfl (any_of HT_.out (by kernel_rfl)) (fun _ _ _ h => h) (Or.inl ⟨by rfl, ?_⟩) ?_ ?_
       rotate_left
       ·intro w'
        go_simp
        with_reducible rfl
       rotate_left
       ·simp only [Act.put, ub, uc, ud, zk, zl]
        rfl
       refine take_ (i := 4) (N := some 16) (v := ?_) (a' := ?_) #[true, true, true, true, true, true, false, false] rfl rfl (take_ofW HT_.out HW_.out (by kernel_rfl)) (fun _ _ _ h => h) (Or.inl ⟨by rfl, ?_⟩) hHeld ?_ ?_
       rotate_left
       ·rintro w' ⟨s0, s1, s2, s3⟩
        go_simp
        with_reducible rfl
       rotate_left
       ·simp only [Act.put, ub, uc, ud, zk, zl]
        rfl
       refine one_ (i := 6) (N := some 18) #[true, true, true, true, true, true, true, false] rfl rfl (one_of HT_.out (by kernel_rfl)) (by decide) (fun K hK => ?_)
       refine goes_ Tryd.func42 (by kernel_rfl) rfl #[.int .i64 x1_1] (by rfl) rfl rfl (by (try simp only [uh, ui, uj]); first | done | rfl | (simp only [uf, ug]; rfl)) ?_
       with_reducible refine (zt.calls k1 x1_1 t288 _ A5.out).mono ?_
       rintro e w17 ⟨rfl, hb⟩
       refine ⟨_, rfl, ?_⟩
       have n0_ := zu.mk (ze y0 hb)
       clear HB
       have HB := n0_
       clear n0_
       (try clear hb)
       (try clear hb2)
       (try clear hk)
       (try clear hi)
       refine hK.out _ _ ⟨((HB.out.cell (ua w _ hw287_0)).trans hw287_0), ((HB.out.cell (ua w _ hw287_1)).trans hw287_1), ((HB.out.cell (ua w _ hw287_2)).trans hw287_2), ((HB.out.cell (ua w _ hw287_3)).trans hw287_3)⟩ (fun hHeld => ?_)
       clear hK K
       refine norm_ (a' := ?_) ?_ ?_
       rotate_left
       ·show Act.put _ (some 18) _ = _
        simp only [Act.put, ub, uc, ud, zk, zl]
        rfl
       refine pure_ (i := 7) (N := some 19) (v := ?_) (a' := ?_) #[true, true, true, true, true, true, true, true] rfl rfl (any_of HT_.out (by kernel_rfl)) (fun _ _ _ h => h) (Or.inl ⟨by rfl, ?_⟩) ?_ ?_
       rotate_left
       ·intro w'
        go_simp
        with_reducible rfl
       rotate_left
       ·simp only [Act.put, ub, uc, ud, zk, zl]
        rfl
       refine done_ (done_of HT_.out (by kernel_rfl)) ?_
       have p289 : 0 ≤ (x5_1 : Int) := of_decide_eq_true (by first | (with_reducible assumption) | assumption)
       have q289 : x5_1 < (l0.length : Int) := of_decide_eq_true (by first | (with_reducible assumption) | assumption)
       obtain ⟨ad289, e289, hx289_0, hx289_1, hx289_2, hx289_3⟩ := at_T43 HR0.out x5_1 p289 q289
       obtain rfl : ad287 = ad289 := (by injection e289)
       replace hx289_0 := (HB.out.cell (ua w _ hx289_0)).trans hx289_0
       replace hx289_1 := (HB.out.cell (ua w _ hx289_1)).trans hx289_1
       replace hx289_2 := (HB.out.cell (ua w _ hx289_2)).trans hx289_2
       replace hx289_3 := (HB.out.cell (ua w _ hx289_3)).trans hx289_3
       replace p289 := eq_true p289
       replace q289 := eq_true q289
       try go_wp2
       go_ret
       exact ⟨by first | rfl | (simp [zj, zi] <;> rfl) | (simp [*, zj, zi] <;> rfl), y0⟩
     ·rw [if_neg c6] at H
      have c6b0 : (((rd_T43 l0 x5_1).f0).toList == t288.toList) = false := beq_eq_false_iff_ne.mpr c6
      have c6b1 : (((rd_T43 l0 x5_1).f0).toList != t288.toList) = true := bne_iff_ne.mpr c6
      obtain rfl := Option.some.inj H
      try go_wp2
      have n0_ := zu.mk (z6 HB.out)
      clear HB
      have HB := n0_
      clear n0_
      have p287 : 0 ≤ (x5_1 : Int) := of_decide_eq_true (by first | (with_reducible assumption) | assumption)
      have q287 : x5_1 < (l0.length : Int) := of_decide_eq_true (by first | (with_reducible assumption) | assumption)
      obtain ⟨ad287, e287, hx287_0, hx287_1, hx287_2, hx287_3⟩ := at_T43 HR0.out x5_1 p287 q287
      have hw287_3 := hx287_3
      have hw287_2 := hx287_2
      have hw287_1 := hx287_1
      have hw287_0 := hx287_0
      cases e287
      replace hx287_0 := (HB.out.cell (ua w _ hx287_0)).trans hx287_0
      replace hx287_1 := (HB.out.cell (ua w _ hx287_1)).trans hx287_1
      replace hx287_2 := (HB.out.cell (ua w _ hx287_2)).trans hx287_2
      replace hx287_3 := (HB.out.cell (ua w _ hx287_3)).trans hx287_3
      replace p287 := eq_true p287
      replace q287 := eq_true q287
      refine start_ (n := 8) (S := fun w' => w'.cell? (ad287.add ((x5_1).toNat * 4)) = some (.string ((rd_T43 l0 x5_1).f0)) ∧ w'.cell? ⟨(ad287.add ((x5_1).toNat * 4)).block, (ad287.add ((x5_1).toNat * 4)).off + 1, none⟩ = some (.int .i64 ((rd_T43 l0 x5_1).f1)) ∧ w'.cell? ⟨(ad287.add ((x5_1).toNat * 4)).block, (ad287.add ((x5_1).toNat * 4)).off + 2, none⟩ = some (.int .i64 ((rd_T43 l0 x5_1).f2)) ∧ w'.cell? ⟨(ad287.add ((x5_1).toNat * 4)).block, (ad287.add ((x5_1).toNat * 4)).off + 3, none⟩ = some (.int .i64 ((rd_T43 l0 x5_1).f3))) (ds := []) #[false, false, false, false, false, false, false, false] (by kernel_rfl) rfl rfl ⟨((HB.out.cell (ua w _ hw287_0)).trans hw287_0), ((HB.out.cell (ua w _ hw287_1)).trans hw287_1), ((HB.out.cell (ua w _ hw287_2)).trans hw287_2), ((HB.out.cell (ua w _ hw287_3)).trans hw287_3)⟩ (fun hHeld => ?_); refine with_tabW laws_heldTokenS.tab4 laws_heldTokenS.bits4 (fun HT_ HW_ => ?_)
      generalize wr.drew = w18 at HB hx287_0 hx287_1 hx287_2 hx287_3 hHeld ⊢
      refine pure_ (i := 0) (N := some 12) (v := ?_) (a' := ?_) #[true, false, false, false, false, false, false, false] rfl rfl (any_of HT_.out (by kernel_rfl)) (fun _ _ _ h => h) (Or.inl ⟨by rfl, ?_⟩) ?_ ?_
      rotate_left
      ·intro w'
       go_simp
       with_reducible rfl
      rotate_left
      ·simp only [Act.put, ub, uc, ud, zk, zl]
       rfl
      refine pure_ (i := 1) (N := some 13) (v := ?_) (a' := ?_) #[true, true, false, false, false, false, false, false] rfl rfl (any_of HT_.out (by kernel_rfl)) (fun _ _ _ h => h) (Or.inl ⟨by rfl, ?_⟩) ?_ ?_
      rotate_left
      ·intro w'
       go_simp
       with_reducible rfl
      rotate_left
      ·simp only [Act.put, ub, uc, ud, zk, zl]
       rfl
      refine pure_ (i := 2) (N := some 14) (v := ?_) (a' := ?_) #[true, true, true, false, false, false, false, false] rfl rfl (any_of HT_.out (by kernel_rfl)) (fun _ _ _ h => h) (Or.inl ⟨by rfl, ?_⟩) ?_ ?_
      rotate_left
      ·intro w'
       go_simp
       with_reducible rfl
      rotate_left
      ·simp only [Act.put, ub, uc, ud, zk, zl]
       rfl
      refine pure_ (i := 3) (N := some 15) (v := ?_) (a' := ?_) #[true, true, true, true, false, false, false, false] rfl rfl (any_of HT_.out (by kernel_rfl)) (fun _ _ _ h => h) (Or.inl ⟨by rfl, ?_⟩) ?_ ?_
      rotate_left
      ·intro w'
       go_simp
       with_reducible rfl
      rotate_left
      ·simp only [Act.put, ub, uc, ud, zk, zl]
       rfl
      refine pure_ (i := 5) (N := some 17) (v := ?_) (a' := ?_) #[true, true, true, true, false, true, false, false] rfl rfl (any_of HT_.out (by kernel_rfl)) (fun _ _ _ h => h) (Or.inl ⟨by rfl, ?_⟩) ?_ ?_
      rotate_left
      ·intro w'
       go_simp
       with_reducible rfl
      rotate_left
      ·simp only [Act.put, ub, uc, ud, zk, zl]
       rfl
      refine take_ (i := 4) (N := some 16) (v := ?_) (a' := ?_) #[true, true, true, true, true, true, false, false] rfl rfl (take_ofW HT_.out HW_.out (by kernel_rfl)) (fun _ _ _ h => h) (Or.inl ⟨by rfl, ?_⟩) hHeld ?_ ?_
      rotate_left
      ·rintro w' ⟨s0, s1, s2, s3⟩
       go_simp
       with_reducible rfl
      rotate_left
      ·simp only [Act.put, ub, uc, ud, zk, zl]
       rfl
      refine one_ (i := 6) (N := some 18) #[true, true, true, true, true, true, true, false] rfl rfl (one_of HT_.out (by kernel_rfl)) (by decide) (fun K hK => ?_)
      refine goes_ Tryd.func42 (by kernel_rfl) rfl #[.int .i64 x1_1] (by rfl) rfl rfl (by (try simp only [uh, ui, uj]); first | done | rfl | (simp only [uf, ug]; rfl)) ?_
      with_reducible refine (zt.calls k1 x1_1 t288 _ A5.out).mono ?_
      rintro e w19 ⟨rfl, hb⟩
      refine ⟨_, rfl, ?_⟩
      have n0_ := zu.mk (ze y0 hb)
      clear HB
      have HB := n0_
      clear n0_
      (try clear hb)
      (try clear hb2)
      (try clear hk)
      (try clear hi)
      refine hK.out _ _ ⟨((HB.out.cell (ua w _ hw287_0)).trans hw287_0), ((HB.out.cell (ua w _ hw287_1)).trans hw287_1), ((HB.out.cell (ua w _ hw287_2)).trans hw287_2), ((HB.out.cell (ua w _ hw287_3)).trans hw287_3)⟩ (fun hHeld => ?_)
      clear hK K
      refine norm_ (a' := ?_) ?_ ?_
      rotate_left
      ·show Act.put _ (some 18) _ = _
       simp only [Act.put, ub, uc, ud, zk, zl]
       rfl
      refine pure_ (i := 7) (N := some 19) (v := ?_) (a' := ?_) #[true, true, true, true, true, true, true, true] rfl rfl (any_of HT_.out (by kernel_rfl)) (fun _ _ _ h => h) (Or.inl ⟨by rfl, ?_⟩) ?_ ?_
      rotate_left
      ·intro w'
       go_simp
       with_reducible rfl
      rotate_left
      ·simp only [Act.put, ub, uc, ud, zk, zl]
       rfl
      refine done_ (done_of HT_.out (by kernel_rfl)) ?_
      try go_wp2
      go_ret
      exact ⟨by first | rfl | (simp [zj, zi] <;> rfl) | (simp [*, zj, zi] <;> rfl), y0⟩
    ·rw [if_neg c4] at H
     exact absurd H (by simp)
   ·rw [if_neg c3] at H
    have c3b0 : decide (x5_1 < (l0.length : Int)) = false := decide_eq_false c3
    clear c3
    obtain rfl := Option.some.inj H
    go_wp2
    go_ret
    exact ⟨by first | rfl | (simp [zj, zi] <;> rfl) | (simp [*, zj, zi] <;> rfl), y0⟩
end Go.Proofs.YtndjodgcemgpfaaDoor.Q
end
section
namespace Go.Proofs.YtndjodgcemgpfaaDoor.Q
open Go.RowKit Go.Proofs.YtndjodgcemgpfaaDoorW.PrintWords Go.Proofs.YtndjodgcemgpfaaDoorW.PrintLast Go.Proofs.YtndjodgcemgpfaaDoorW.PrintMore
theorem markText_l0 : ∀ (n : Nat) (m : Int) (t : ByteArray), 0 ≤ m → m < 10 ^ n → m ≤ 9223372036854775807 → t.size + n ≤ 1000 → ∃ r, Ev (fun k => zt.l0 k m t) r
 | 0, m, t, h0, h1, hb, h2 => by
  have : ¬ m > 0 := by simp at h1; omega
  exact ⟨_, Ev.step (fun k => zt.l0.eq_2 _ _ k) (Ev.ite_neg this (Ev.ite_pos (by omega) (Ev.now _)))⟩
 | n + 1, m, t, h0, h1, hb, h2 => by
  by_cases hm : m > 0
  ·have hsz : ∀ z : List Int, z.length = 1 → (strOfNums z).size = 1 := fun z hz => by simp [strOfNums, ByteArray.size, hz]
   have hdiv : Int.tdiv m 10 = m / 10 := by rw [Int.tdiv_eq_ediv_of_nonneg h0]
   have hw : wrap64 (Int.tdiv m 10) = m / 10 := by rw [hdiv]; exact zw (by omega) (by omega)
   have hlt : m / 10 < 10 ^ n := by
    rw [Int.pow_succ] at h1
    omega
   obtain ⟨r, hr⟩ := markText_l0 n (m / 10) (strOfNums [(wrap64 (48 + (Int.tmod m 10))) % 256] ++ t) (by omega) hlt (by omega) (by rw [ByteArray.size_append, hsz _ rfl]; omega)
   refine ⟨r, Ev.step (fun k => zt.l0.eq_2 _ _ k) (Ev.ite_pos hm (Ev.some_bind (Ev.ite_pos (by rw [hsz _ rfl]; omega) ?_)))⟩
   rw [hw]
   exact hr
  ·exact ⟨_, Ev.step (fun k => zt.l0.eq_2 _ _ k) (Ev.ite_neg hm (Ev.ite_pos (by omega) (Ev.now _)))⟩
theorem markText_some (m : Int) (hb : m ≤ 9223372036854775807) : ∃ t, Ev (fun k => zt.f k m) t := by
 unfold zt.f
 by_cases h : m ≤ 0
 ·exact ⟨_, Ev.ite_pos h (Ev.now _)⟩
 ·obtain ⟨t, ht⟩ := markText_l0 20 m ⟨#[]⟩ (by omega) (by omega) hb (by decide)
  exact ⟨t, Ev.ite_neg h ht⟩
open Classical in

noncomputable def mkText (m : Int) : ByteArray := if h : ∃ t, Ev (fun k => zt.f k m) t then Classical.choose h else ⟨#[]⟩
theorem markText_ev (m : Int) (hb : m ≤ 9223372036854775807) : Ev (fun k => zt.f k m) (mkText m) := by
 have h := markText_some m hb
 unfold mkText
 rw [dif_pos h]
 exact Classical.choose_spec h
theorem eqToken_ev (a : ByteArray) (b c d : Int) : laws_eqToken.f a b c d a b c d = some true := by
 unfold laws_eqToken.f
 rw [if_pos rfl, if_pos rfl, if_pos rfl, if_pos rfl]
theorem eqTokenS_l0 (xs : List S43) (hl : xs.length ≤ 4611686018427387903) : ∀ (rest pre : List S43), xs = pre ++ rest → Ev (fun k => laws_eqTokenS.l0 k xs xs (pre.length : Int)) true
 | [], pre, hx => by
  subst hx
  exact Ev.step (fun k => laws_eqTokenS.l0.eq_2 _ _ _ k) (Ev.ite_neg end_lt (Ev.now _))
 | x :: rest, pre, hx => by
  have hlt : pre.length < 4611686018427387903 := by rw [hx] at hl; simp at hl; omega
  have hm : (pre.length : Int) < (xs.length : Int) := by rw [hx]; exact mid_lt
  refine Ev.step (fun k => laws_eqTokenS.l0.eq_2 _ _ _ k) (Ev.ite_pos hm (Ev.ite_pos (by omega) (Ev.ite_pos hm (Ev.const (eqToken_ev _ _ _ _) (Ev.ite_pos rfl ?_)))))
  rw [wrap_next (x := x) (by omega)]
  exact eqTokenS_l0 xs hl rest (pre ++ [x]) (by rw [hx]; simp)
theorem eqTokenS_ev (xs : List S43) (hl : xs.length ≤ 4611686018427387903) : Ev (fun k => laws_eqTokenS.f k xs xs) true := by
 unfold laws_eqTokenS.f
 exact Ev.ite_pos rfl (eqTokenS_l0 xs hl xs [] rfl)
noncomputable def mkT : Int → Nat → List S43
 | _, 0 => []
 | m, n + 1 => ⟨mkText m, m + 1, m + 2, m + 3⟩ :: mkT (m + 4) n
theorem rdT_mid {pre rest : List S43} {x : S43} : rd_T43 (pre ++ x :: rest) (pre.length : Int) = x := mid_getD _
theorem markTokenS_l0 : ∀ (rest pre : List S43) (m : Int), 0 ≤ m → m + 4 * rest.length ≤ 4611686018427387903 → rest.length + pre.length ≤ 4611686018427387903 →
  Ev (fun k => laws_markTokenS.l0 k (pre ++ rest) m (pre.length : Int)) (m + 4 * rest.length, pre ++ mkT m rest.length)
 | [], pre, m, h0, h1, h2 => by
  exact Ev.step (fun k => laws_markTokenS.l0.eq_2 _ _ _ k) (Ev.ite_neg end_lt (Ev.eq (Ev.now _) (by simp [mkT])))
 | x :: rest, pre, m, h0, h1, h2 => by
  simp only [List.length_cons] at h1 h2
  have w1 : wrap64 (m + 1) = m + 1 := zw (by omega) (by omega)
  have w2 : wrap64 (m + 1 + 1) = m + 2 := by rw [zw (by omega) (by omega)]; omega
  have w3 : wrap64 (m + 2 + 1) = m + 3 := by rw [zw (by omega) (by omega)]; omega
  have w4 : wrap64 (m + 3 + 1) = m + 4 := by rw [zw (by omega) (by omega)]; omega
  refine Ev.step (fun k => laws_markTokenS.l0.eq_2 _ _ _ k) (Ev.ite_pos mid_lt (Ev.bind (markText_ev m (by omega)) (Ev.ite_pos (by omega) (Ev.some_bind (Ev.some_bind (Ev.some_bind ?_))))))
  simp only [mid_set, rdT_mid, w1, w2, w3, w4]
  rw [wrap_next (x := (⟨mkText m, m + 1, m + 2, m + 3⟩ : S43)) (by omega), snoc_cons]
  refine Ev.eq (markTokenS_l0 rest (pre ++ [⟨mkText m, m + 1, m + 2, m + 3⟩]) (m + 4) (by omega) (by omega) (by simp only [ul, List.length_singleton]; omega)) ?_
  simp [mkT]
  omega
theorem markTokenS_ev (xs : List S43) (m : Int) (h0 : 0 ≤ m) (h1 : m + 4 * xs.length ≤ 4611686018427387903) : Ev (fun k => laws_markTokenS.f k xs m) (m + 4 * xs.length, mkT m xs.length) := by
 have := markTokenS_l0 xs [] m h0 h1 (by simp; omega)
 simpa [laws_markTokenS.f] using this
theorem heldTokenS_l0 (xs : List S43) : ∀ (n : Nat) (pre : List S43) (m : Int), xs = pre ++ mkT m n → 0 ≤ m → m + 4 * n ≤ 4611686018427387903 → n + pre.length ≤ 4611686018427387903 →
  Ev (fun k => laws_heldTokenS.l0 k xs m (pre.length : Int)) (m + 4 * n)
 | 0, pre, m, hx, h0, h1, h2 => by
  subst hx
  exact Ev.step (fun k => laws_heldTokenS.l0.eq_2 _ _ _ k) (Ev.ite_neg end_lt (Ev.eq (Ev.now _) (by simp)))
 | n + 1, pre, m, hx, h0, h1, h2 => by
  have hx' : xs = pre ++ (⟨mkText m, m + 1, m + 2, m + 3⟩ : S43) :: mkT (m + 4) n := hx
  have hrd : rd_T43 xs (pre.length : Int) = (⟨mkText m, m + 1, m + 2, m + 3⟩ : S43) := by rw [hx']; exact mid_getD _
  have w1 : wrap64 (m + 1) = m + 1 := zw (by omega) (by omega)
  have w2 : wrap64 (m + 1 + 1) = m + 2 := by rw [zw (by omega) (by omega)]; omega
  have w3 : wrap64 (m + 2 + 1) = m + 3 := by rw [zw (by omega) (by omega)]; omega
  have w4 : wrap64 (m + 3 + 1) = m + 4 := by rw [zw (by omega) (by omega)]; omega
  refine Ev.step (fun k => laws_heldTokenS.l0.eq_2 _ _ _ k) (Ev.ite_pos (by rw [hx']; exact mid_lt) (Ev.ite_pos (by omega) (Ev.bind (markText_ev m (by omega)) ?_)))
  simp only [hrd, w1, w2, w3, w4]
  refine Ev.ite_pos trivial (Ev.ite_pos trivial (Ev.ite_pos trivial (Ev.ite_pos trivial ?_)))
  rw [wrap_next (x := (⟨mkText m, m + 1, m + 2, m + 3⟩ : S43)) (by omega)]
  exact Ev.eq (heldTokenS_l0 xs n (pre ++ [⟨mkText m, m + 1, m + 2, m + 3⟩]) (m + 4) (by rw [hx']; simp) (by omega) (by omega) (by simp only [ul, List.length_singleton]; omega)) (by omega)
theorem heldTokenS_ev (n : Nat) (m : Int) (h0 : 0 ≤ m) (h1 : m + 4 * n ≤ 4611686018427387903) : Ev (fun k => laws_heldTokenS.f k (mkT m n) m) (m + 4 * n) :=
 heldTokenS_l0 _ n [] m rfl h0 h1 (by simp; omega)
theorem brk_w {s : ByteArray} {w : World} {ts : List S43} {c : Int} (h1 : brkP s = (ts, c)) (hT : Tabs w) :
  Calls Tryd.prog 15 #[.string s] w fun e w' => ∃ v : Value, e = .returned (.tuple #[v, .int .i64 c]) ∧ Kd.R k43 43 w' w.heap.size (fun _ => True) v ts ∧ Below w.heap.size w w' := by
 have h := impl_Break.calls s w hT
 rw [h1] at h
 exact h
theorem markT_w (k : Nat) (P : Nat → Prop) (u : Value) (ts : List S43) (m : Int) (ts' : List S43) (w0 w : World) (hB : Below w0.heap.size w0 w) (ho : Kd.R k43 43 w w0.heap.size P u ts) (h : laws_markTokenS.f k ts 1 = some (m, ts')) :
  Calls Tryd.prog 17 #[u, .int .i64 1] w fun e w' => e = .returned (.int .i64 m) ∧ Kd.R k43 43 w' w0.heap.size P u ts' ∧ Below w0.heap.size w0 w' ∧ Kept w w' P := by
 refine (laws_markTokenS.calls k P u ts 1 m ts' w0 w hB ho h).mono ?_
 rintro e w' ⟨rfl, hR, hb, hk⟩
 exact ⟨rfl, Kd.R_reok rfl hR ho.1, hb, hk⟩
set_option maxHeartbeats 2000000 in
set_option maxRecDepth 100000 in
theorem laws_FnExactBreak.walk (k : Nat) (s : ByteArray) (w : World) (hT : Tabs w) (hl : s.size ≤ 1048576) (ts : List S43) (c m : Int) (ts' : List S43)
  (h1 : brkP s = (ts, c)) (h2 : spec_Break.f k s = some (ts, c)) (h3 : laws_eqTokenS.f k ts ts = some true) (h4 : laws_markTokenS.f k ts 1 = some (m, ts')) (h5 : laws_heldTokenS.f k ts' 1 = some m) (hm : 0 ≤ m) :
  Calls Tryd.prog 4 #[.string s] w fun e w' => e = .returned (.bool true) ∧ Below w.heap.size w w' := by
 have H1 := zu.mk h1
 have H2 := zu.mk h2
 have H3 := zu.mk h3
 have H4 := zu.mk h4
 have H5 := zu.mk h5
 have hl' : decide (1048576 < (s.size : Int)) = false := decide_eq_false (by omega)
 clear hl h1 h2 h3 h4 h5
 have hm' : decide (m < 0) = false := decide_eq_false (by omega)
 have HB := zu.mk (Below.refl w.heap.size w)
 go_enter Tryd.func4, Tryd.ntmps4
 go_wp2_with fail
 go_at_call 14
 refine (spec_Break.calls k s ts c _ H2.out).mono ?_
 rintro e w2 ⟨v1, rfl, ho0, hb⟩
 have HB3 := zu.mk (ze HB.out hb)
 have Z4 := zu.mk (show w.heap.size ≤ w2.heap.size from by have := hb.size; simpa using this)
 have O_w0_5 := zu.mk (Kd.R_mono (ok' := fun k_ => w.heap.size ≤ k_ ∧ k_ < w2.heap.size) (Kd.R_span ho0 HB.out.size) (fun k_ hk_ => by simpa using hk_))
 obtain ⟨A6, c7, e8⟩ := Kd.R_slice O_w0_5.out
 subst e8
 clear HB  hb ho0
 go_wp2_with fail
 go_at_call 15
 refine (brk_w H1.out (hT.below HB3.out)).mono ?_
 rintro e w10 ⟨v9, rfl, ho0, hb⟩
 have HB11 := zu.mk (ze HB3.out hb)
 have O_w0_12 := zu.mk (Kd.R_below O_w0_5.out hb)
 have Z13 := zu.mk (show w2.heap.size ≤ w10.heap.size from by have := hb.size; simpa using this)
 have O_g0_14 := zu.mk (Kd.R_mono (ok' := fun k_ => w2.heap.size ≤ k_ ∧ k_ < w10.heap.size) (Kd.R_span ho0 HB3.out.size) (fun k_ hk_ => by simpa using hk_))
 obtain ⟨A15, c16, e17⟩ := Kd.R_slice O_g0_14.out
 subst e17
 clear HB3 O_w0_5 hb ho0
 go_wp2_with fail
 go_at_call 16
 refine (laws_eqTokenS.calls k _ _ ts _ _ ts true _ (Kd.R_reads' O_g0_14.out).2.2 (by have h_ := Kd.R_reads' O_g0_14.out; have := h_.1; have := h_.2.1; omega) (Kd.R_reads' O_w0_12.out).2.2 (by have h_ := Kd.R_reads' O_w0_12.out; have := h_.1; have := h_.2.1; omega) H3.out).mono ?_
 rintro e w18 ⟨rfl, hb⟩
 have HB19 := zu.mk (ze HB11.out hb)
 have O_w0_20 := zu.mk (Kd.R_below O_w0_12.out hb)
 have O_g0_21 := zu.mk (Kd.R_below O_g0_14.out hb)
 have Z22 := zu.mk (show w10.heap.size ≤ w18.heap.size from by have := hb.size; simpa using this)
 clear HB11 O_w0_12 O_g0_14 hb 
 go_wp2_with fail
 go_at_call 17
 refine (markT_w k (fun k_ => w2.heap.size ≤ k_ ∧ k_ < w10.heap.size) _ ts m ts' w _ HB19.out O_g0_21.out H4.out).mono ?_
 rintro e w23 ⟨rfl, hy, hb, hk⟩
 have HB24 := zu.mk hb
 have Z25 := zu.mk (show w18.heap.size ≤ w23.heap.size from by have := hk.1; simpa using this)
 have O_w0_26 := zu.mk (Kd.R_kept O_w0_20.out hk (fun k_ h1_ h2_ => by have := Z4.out; have := Z13.out; have := Z22.out; have := h1_.1; have := h1_.2; have := h2_.1; have := h2_.2; omega))
 have O_g0_27 := zu.mk (Kd.R_reok rfl hy (fun k_ e_ => O_g0_21.out.1 k_ e_))
 clear HB19 O_w0_20 O_g0_21 hy hb hk
 go_wp2_with fail
 go_at_call 18
 refine calls_of_args (args' := #[.slice A15 ts'.length c16, .int .i64 1]) (by first | rfl | (rw [show ts'.length = ts.length from (Kd.R_reads' O_g0_27.out).1.symm])) ?_
 refine (laws_heldTokenS.calls k _ _ ts' 1 m _ (Kd.R_reads' O_g0_27.out).2.2 (by have h_ := Kd.R_reads' O_g0_27.out; have := h_.1; have := h_.2.1; omega) H5.out).mono ?_
 rintro e w28 ⟨rfl, hb⟩
 have HB29 := zu.mk (ze HB24.out hb)
 have O_w0_30 := zu.mk (Kd.R_below O_w0_26.out hb)
 have O_g0_31 := zu.mk (Kd.R_below O_g0_27.out hb)
 have Z32 := zu.mk (show w23.heap.size ≤ w28.heap.size from by have := hb.size; simpa using this)
 clear HB24 O_w0_26 O_g0_27 hb 
 go_wp2_with fail
 go_at_call 15
 refine (brk_w H1.out (hT.below HB29.out)).mono ?_
 rintro e w34 ⟨v33, rfl, ho0, hb⟩
 have HB35 := zu.mk (ze HB29.out hb)
 have O_w0_36 := zu.mk (Kd.R_below O_w0_30.out hb)
 have O_g0_37 := zu.mk (Kd.R_below O_g0_31.out hb)
 have Z38 := zu.mk (show w28.heap.size ≤ w34.heap.size from by have := hb.size; simpa using this)
 have O_h0_39 := zu.mk (Kd.R_mono (ok' := fun k_ => w28.heap.size ≤ k_ ∧ k_ < w34.heap.size) (Kd.R_span ho0 HB29.out.size) (fun k_ hk_ => by simpa using hk_))
 obtain ⟨A40, c41, e42⟩ := Kd.R_slice O_h0_39.out
 subst e42
 clear HB29 O_w0_30 O_g0_31 hb ho0
 go_wp2_with fail
 go_at_call 16
 refine (laws_eqTokenS.calls k _ _ ts _ _ ts true _ (Kd.R_reads' O_h0_39.out).2.2 (by have h_ := Kd.R_reads' O_h0_39.out; have := h_.1; have := h_.2.1; omega) (Kd.R_reads' O_w0_36.out).2.2 (by have h_ := Kd.R_reads' O_w0_36.out; have := h_.1; have := h_.2.1; omega) H3.out).mono ?_
 rintro e w43 ⟨rfl, hb⟩
 have HB44 := zu.mk (ze HB35.out hb)
 have O_w0_45 := zu.mk (Kd.R_below O_w0_36.out hb)
 have O_g0_46 := zu.mk (Kd.R_below O_g0_37.out hb)
 have O_h0_47 := zu.mk (Kd.R_below O_h0_39.out hb)
 have Z48 := zu.mk (show w34.heap.size ≤ w43.heap.size from by have := hb.size; simpa using this)
 clear HB35 O_w0_36 O_g0_37 O_h0_39 hb 
 go_wp2_with fail
 go_at_call 18
 refine calls_of_args (args' := #[.slice A15 ts'.length c16, .int .i64 1]) (by first | rfl | (rw [show ts'.length = ts.length from (Kd.R_reads' O_g0_46.out).1.symm])) ?_
 refine (laws_heldTokenS.calls k _ _ ts' 1 m _ (Kd.R_reads' O_g0_46.out).2.2 (by have h_ := Kd.R_reads' O_g0_46.out; have := h_.1; have := h_.2.1; omega) H5.out).mono ?_
 rintro e w49 ⟨rfl, hb⟩
 have HB50 := zu.mk (ze HB44.out hb)
 have O_w0_51 := zu.mk (Kd.R_below O_w0_45.out hb)
 have O_g0_52 := zu.mk (Kd.R_below O_g0_46.out hb)
 have O_h0_53 := zu.mk (Kd.R_below O_h0_47.out hb)
 have Z54 := zu.mk (show w43.heap.size ≤ w49.heap.size from by have := hb.size; simpa using this)
 clear HB44 O_w0_45 O_g0_46 O_h0_47 hb 
 go_wp2_with fail
 go_ret
 exact ⟨rfl, HB50.out⟩
theorem brkP_len (s : ByteArray) : (brkP s).1.length ≤ 8192 := by
 unfold brkP
 split
 ·split
  ·simp
  ·rename_i h
   exact Nat.le_of_not_lt h
 ·simp
theorem laws_FnExactBreak.walk0 (s : ByteArray) (w : World) (hl : ¬ s.size ≤ 1048576) :
  Calls Tryd.prog 4 #[.string s] w fun e w' => e = .returned (.bool true) ∧ Below w.heap.size w w' := by
 have hl' : decide (1048576 < (s.size : Int)) = true := decide_eq_true (by omega)
 go_enter Tryd.func4, Tryd.ntmps4
 go_wp2_with fail
 go_ret
 exact ⟨rfl, Below.refl _ _⟩
theorem laws_FnExactBreak.true_ (s : ByteArray) (w : World) (hT : Tabs w) :
  Calls Tryd.prog 4 #[.string s] w fun e w' => e = .returned (.bool true) ∧ Below w.heap.size w w' := by
 by_cases hl : s.size ≤ 1048576
 ·have hn := brkP_len s
  obtain ⟨ts, c, hz⟩ : ∃ ts c, brkP s = (ts, c) := ⟨_, _, rfl⟩
  obtain ⟨K1, e1⟩ := spec_Break_ev s (by omega)
  rw [hz] at hn
  simp only [hz] at e1
  obtain ⟨K2, e2⟩ := eqTokenS_ev ts (by simp only at hn; omega)
  obtain ⟨K3, e3⟩ := markTokenS_ev ts 1 (by omega) (by simp only at hn; omega)
  obtain ⟨K4, e4⟩ := heldTokenS_ev ts.length 1 (by omega) (by simp only at hn; omega)
  have hk : ∃ k, K1 ≤ k ∧ K2 ≤ k ∧ K3 ≤ k ∧ K4 ≤ k := ⟨K1 + K2 + K3 + K4, by omega, by omega, by omega, by omega⟩
  obtain ⟨k, b1, b2, b3, b4⟩ := hk
  exact laws_FnExactBreak.walk k s w hT hl ts c _ _ hz (e1 k b1) (e2 k b2) (e3 k b3) (e4 k b4) (by omega)
 ·exact laws_FnExactBreak.walk0 s w hl
end Go.Proofs.YtndjodgcemgpfaaDoor.Q
end
