/- A part of the proof: the texts Qh88, Qk47, Qh29, Qh44, QhmarkRec, Qxf19, Qxf45, Qxf47, Qwlog, Qplog3, Qlread, packed. -/
import Derived.Test.YtndjodgcemgpfaaKd8

open Go.World renaming block_lt_of_cell? → ua
open List renaming setIfInBounds_toArray → ub, set_cons_zero → uc, set_cons_succ → ud, length_drop → uf, length_take → ug, map_toArray → uh, map_cons → ui, map_nil → uj, length_append → ul
open Option renaming bind_eq_some_iff → ue, bind_some → uk
open Nat renaming le_refl → um
set_option linter.unusedVariables false
set_option linter.unusedSimpArgs false
section
namespace Go.Proofs.Ytndjodgcemgpfaa.Q
open Go.RowKit Go.Proofs.YtndjodgcemgpfaaW.PrintWords Go.Proofs.YtndjodgcemgpfaaW.PrintLast Go.Proofs.YtndjodgcemgpfaaW.PrintMore
def NextPost (w : World) (r : RecT × Int × Bool) (e : Ending) (w' : World) : Prop := ∃ v : Value, e = .returned (.tuple #[.agg #[.int .i64 r.1.1, .int .i64 r.1.2.1, .string r.1.2.2.1, .string r.1.2.2.2.1, v], .int .i64 r.2.1, .bool r.2.2]) ∧ Kd.S k84 84 w' w.heap.size (fun _ => True) v r.1.2.2.2.2 ∧ Below w.heap.size w w'
theorem l03_some {A : Option Addr} {c : Nat} {b : List Int} {p n q m : Nat} {w : World} (hm : b.length = m) (hg : getB b p = some (n, q)) (hr : Kd.C (Kd.int .u8) w A b.length b) (hc : m ≤ c) (hb : IsB b) (hl : m ≤ 1048576) (hp : p ≤ m) :
  Calls Try.prog 119 #[.slice A m c, .int .i64 (p : Int)] w fun e w' => e = .returned (.tuple #[.int .i64 (n : Int), .int .i64 (q : Int), .bool true]) ∧ Drawn0 w w' := by
 subst hm
 obtain ⟨K, e⟩ := (specGet_ev b p hb hl hp).1 _ hg
 exact z15.calls K A c b p _ _ _ w hr hc (e K (um _))
theorem l03_none' {b : List Int} {p : Nat} (hg : getB b p = none) (hb : IsB b) (hl : b.length ≤ 1048576) (hp : p ≤ b.length) :
  ∃ x y : Int, ∀ {A : Option Addr} {c m : Nat} {w : World}, b.length = m → Kd.C (Kd.int .u8) w A b.length b → m ≤ c →
   Calls Try.prog 119 #[.slice A m c, .int .i64 (p : Int)] w fun e w' => e = .returned (.tuple #[.int .i64 x, .int .i64 y, .bool false]) ∧ Drawn0 w w' := by
 obtain ⟨x, y, K, e⟩ := (specGet_ev b p hb hl hp).2 hg
 exact ⟨x, y, fun hm hr hc => by subst hm; exact z15.calls K _ _ b p _ _ _ _ hr hc (e K (um _))⟩
theorem sreadDoc_p {A : Option Addr} {c m : Nat} {b : List Int} {did : ByteArray} {ds : List S84} {rc : Int} {w : World} (hm : b.length = m) (hg : rdR b = (did, ds, rc)) (hr : Kd.C (Kd.int .u8) w A b.length b) (hc : m ≤ c) (hb : IsB b) (hl : m ≤ 1048576) :
  Calls Try.prog 18 #[.slice A m c] w fun e w' => ∃ v : Value, e = .returned (.tuple #[.agg #[.string did, v], .int .i64 rc]) ∧ Kd.S k84 84 w' w.heap.size (fun _ => True) v ds ∧ Below w.heap.size w w' := by
 subst hm
 obtain ⟨K, e⟩ := spec_ReadDoc_ev b hb hl
 have e1 := e K (um _)
 rw [hg] at e1
 exact spec_ReadDoc.calls K A c b _ _ _ w hr hc e1
theorem recOK_p {A : Option Addr} {c : Nat} {kind seq : Int} {id did : ByteArray} {ds : List S84} {r : Bool} {w : World} (hg : recOk kind seq id did ds = r) (hid : id.size ≤ 1048576) (hf : FitD did ds) (hr : Kd.C k84 w A ds.length ds) (hc : ds.length ≤ c) :
  Calls Try.prog 60 #[.agg #[.int .i64 kind, .int .i64 seq, .string id, .string did, .slice A ds.length c]] w fun e w' => e = .returned (.bool r) ∧ Below w.heap.size w w' := by
 obtain ⟨h0, h1, h2⟩ := hf
 obtain ⟨K, e⟩ := specOk_ev kind seq id did ds hid (by omega) (by omega) (fun x hx => ⟨by have := (h2 x hx).2.1; omega, by have := (h2 x hx).2.2.1; omega⟩)
 have e1 := e K (um _)
 rw [hg] at e1
 exact z1j.calls K kind seq id did A c ds r w hr hc e1
open Classical in
theorem recBytesL_p {A : Option Addr} {c : Nat} {kind : Int} {seq : Nat} {id did : ByteArray} {ds : List S84} {rb : List Int} {w : World} (hg : recOk kind (seq : Int) id did ds = true) (hb : recB (kind, (seq : Int), id, did, ds) = rb) (hid : id.size ≤ 1048576) (hf : FitD did ds) (hr : Kd.C k84 w A ds.length ds) (hc : ds.length ≤ c) :
  Calls Try.prog 61 #[.agg #[.int .i64 kind, .int .i64 (seq : Int), .string id, .string did, .slice A ds.length c]] w fun e w' => ∃ v : Value, e = .returned v ∧ Kd.R (Kd.int .u8) 5 w' w.heap.size (fun _ => True) v rb ∧ Below w.heap.size w w' := by
 have hg2 := hg
 unfold recOk at hg2
 have h := of_decide_eq_true hg2
 have hd := docL_fit hf
 subst hb
 rcases h.2 with ⟨rfl, h2⟩ | ⟨rfl, h2⟩
 ·obtain ⟨K, e⟩ := specBytes_put seq (by omega) id did ds hf hd
  have er : recB (1, (seq : Int), id, did, ds) = recL (partL 1 seq (docL did ds)) := if_pos rfl
  rw [er]
  exact z1k.calls K 1 seq id did A c ds _ w hr hc (e K (um _))
 ·obtain ⟨K, e⟩ := specBytes_del seq (by omega) id did ds hid
  have er : recB (2, (seq : Int), id, did, ds) = recL (partL 2 seq (bytesOf id)) := if_neg (show ¬ (2 : Int) = 1 by decide)
  rw [er]
  exact z1k.calls K 2 seq id did A c ds _ w hr hc (e K (um _))
theorem recB_isB (r : RecT) : IsB (recB r) := by
 unfold recB
 split
 ·exact recL_isB (partL_isB _ _ (docL_isB _ _))
 ·exact recL_isB (partL_isB _ _ (bytesOf_isB _))
def nextT19 : Bool × List (List Nat × List Nat) := (true, [([], []), ([0], [0]), ([1], [1]), ([2, 1], [2]), ([3], [3]), ([4, 3, 3], [3, 4]), ([5, 3], [3, 5]), ([3], [3]), ([3], [3]), ([3], [3]), ([7, 8, 9, 3], [3, 7, 8, 9]), ([10, 3], [3, 10]), ([6, 11, 3], [3, 6, 11]), ([3, 12], [3, 12])])
def nextB19 : List Nat := [0, 1, 3, 7, 15, 31, 63, 15, 15, 15, 911, 1935, 4095, 8191]
theorem next_tab19 : rtab .any (opsOf Try.f88 19) = nextT19 := by kernel_rfl
theorem next_bits19 : waitsOk nextT19.2 nextB19 = true := by kernel_rfl
theorem lFin_no {b : List Int} {p e : Nat} {r : RecT} (h : ¬ (recOk r.1 r.2.1 r.2.2.1 r.2.2.2.1 r.2.2.2.2 = true ∧ recB r = (b.take e).drop p)) : lFin b p e r = (r, 0, false) := if_neg h
theorem lNext_none {b : List Int} {p : Nat} {s : Int} (hg : getB b p = none) : lNext b p s = (zRec, 0, false) := by unfold lNext; rw [hg]
theorem lNext_small {b : List Int} {p n q : Nat} {s : Int} (hg : getB b p = some (n, q)) (h1 : ¬ Roomy b n q) : lNext b p s = (zRec, 0, false) := by unfold lNext; rw [hg]; exact if_neg h1
theorem lNext_noseq {b : List Int} {p n q : Nat} {s : Int} (hg : getB b p = some (n, q)) (h1 : Roomy b n q) (h4 : getB (partAt b n q) 1 = none) : lNext b p s = ((rd (partAt b n q) 0, 0, ⟨#[]⟩, ⟨#[]⟩, []), 0, false) := by
 unfold lNext; rw [hg]; show (if _ then _ else _) = _; rw [if_pos h1, h4]
theorem lNext_other {b : List Int} {p n q seq k : Nat} {s : Int} (hg : getB b p = some (n, q)) (h1 : Roomy b n q) (h4 : getB (partAt b n q) 1 = some (seq, k)) (h5 : ¬ (seq : Int) = s) : lNext b p s = ((rd (partAt b n q) 0, 0, ⟨#[]⟩, ⟨#[]⟩, []), 0, false) := by
 unfold lNext; rw [hg]; show (if _ then _ else _) = _; rw [if_pos h1, h4]; exact if_neg h5
theorem lNext_body {b : List Int} {p n q seq k : Nat} {r : RecT} {g : Bool} (hg : getB b p = some (n, q)) (h1 : Roomy b n q) (h4 : getB (partAt b n q) 1 = some (seq, k)) (hb : lBody (partAt b n q) (seq : Int) k = (r, g)) : lNext b p (seq : Int) = if g = true then lFin b p (q + n + 4) r else (r, 0, false) := by
 unfold lNext; rw [hg]; show (if _ then _ else _) = _; rw [if_pos h1, h4]; show (if _ then _ else _) = _; rw [if_pos rfl, hb]
theorem cutSpan (A0 : Option Addr) (c0 : Nat) (b : List Int) (p n q : Nat) (w : World) (hr0 : Kd.C (Kd.int .u8) w A0 b.length b) (hc0 : b.length ≤ c0) (hpq : p < q) (h1 : Roomy b n q) :
  ∃ (A6 : Option Addr) (m6 : Nat), (∀ W : World, (Instr.slice 26 (.slice A0 b.length c0) (some (.int .i64 (p : Int))) (some (.int .i64 ((q : Int) + (n : Int) + 4))) none).run Try.prog W = .ok (.slice A6 m6 (c0 - p)) W) ∧ m6 ≤ c0 - p ∧ Kd.C (Kd.int .u8) w A6 m6 ((b.take (q + n + 4)).drop p) := by
 have h2 := h1.1
 have h3 := h1.2
 obtain ⟨i0, hi0, -, hsz, -⟩ := info_parts info5
 obtain ⟨A6, hcut6, hA6, hC6⟩ := z1t (P := Try.prog) (Value.int .u8) 0 26 5 .i64 .i64 Try.underlying26 hi0 hsz A0 c0 b (p : Int) ((q : Int) + (n : Int) + 4) (by omega) (by omega) (by omega) hc0
 have e6 : (b.take ((q : Int) + (n : Int) + 4).toNat).drop ((p : Int)).toNat = (b.take (q + n + 4)).drop p := by rw [show ((q : Int) + (n : Int) + 4).toNat = q + n + 4 from by omega, Int.toNat_natCast]
 rw [e6] at hcut6 hA6 hC6
 rw [Int.toNat_natCast] at hcut6 hC6
 exact ⟨A6, _, hcut6, hC6, Kd.C_of_reads (h1 := fun _ => rfl) (hA6 w (Kd.reads_of_C hr0))⟩
set_option maxHeartbeats 16000000 in
set_option maxRecDepth 100000 in
theorem next_all (A0 : Option Addr) (c0 : Nat) (b : List Int) (p : Nat) (s : Int) (w : World) (hr0 : Kd.C (Kd.int .u8) w A0 b.length b) (hc0 : b.length ≤ c0) (hb : IsB b) (hl : b.length ≤ 1048576) (hp : p ≤ b.length) :
  Calls Try.prog 88 #[.slice A0 b.length c0, .int .i64 (p : Int), .int .i64 s] w (NextPost w (lNext b p s)) := by
 have hu47 := Try.underlying47
 have hu31 := Try.underlying31
 have HR := z1o.mk hr0
 have HC := z1o.mk hc0
 have HIB := z1o.mk hb
 have HB := z1o.mk (Below.refl w.heap.size w)
 clear hr0 hc0 hb
 go_enter Try.func88, Try.ntmps88
 go_wp2_with fail
 go_at_call 119
 rcases opt_split (getB b p) with hg | ⟨⟨n, q⟩, hg⟩
 ·have EQ : z1o (lNext b p s = (zRec, 0, false)) := z1o.mk (lNext_none hg)
  obtain ⟨x, y, HN⟩ := l03_none' hg HIB.out hl hp
  refine (HN rfl (Kd.C_below HR.out (z2 (z2 HB.out (.cells zCells 47)) (.cells zCells 47))) HC.out).mono ?_
  rintro e w1 ⟨rfl, hd⟩
  have hbl := hd.below
  have K0 : z1o (w1.heap[w.heap.size]? = some (.cells zCells 47 (0, 0))) := z1o.mk (zb (z7 (blk_new w (.cells zCells 47)) (.cells zCells 47)) hbl)
  have K1 : z1o (w1.heap[w.heap.size + 1]? = some (.cells zCells 47 (0, 0))) := z1o.mk (by have h_ := zb (blk_new (w.alloc (.cells zCells 47)) (.cells zCells 47)) hbl; simpa using h_)
  have HB1 := z1o.mk (za (z2 (z2 HB.out _) _) hbl)
  clear hd hbl
  clear HN hg
  obtain ⟨a_0, a_1, a_2, a_3, a_4⟩ := bkz K0.out
  have fa_ := z5 K0.out
  obtain ⟨b_0, b_1, b_2, b_3, b_4⟩ := bkz K1.out
  have fb_ := z5 K1.out
  go_wp2_with fail
  refine bodyPost_ret (results_ctt rfl _ _ w.heap.size 47 #[.int .i64 0, .int .i64 0, .string ⟨#[]⟩, .string ⟨#[]⟩, .slice none 0 0] (0, 0) _ rfl (put5 K0.out _ _ _ _ _) Try.underlying47 rfl (by kernel_rfl)) rfl ?_
  rw [EQ.out]
  exact ⟨_, rfl, Kd.S_nil _ _ _ _ _, set5 HB1.out⟩
 ·have hle := getB_le b p hg
  have hn := hle.1
  have hq := hle.2.2
  have hpq := hle.2.1
  clear hle
  refine (l03_some rfl hg (Kd.C_below HR.out (z2 (z2 HB.out (.cells zCells 47)) (.cells zCells 47))) HC.out HIB.out hl hp).mono ?_
  rintro e w1 ⟨rfl, hd⟩
  have hbl := hd.below
  have K0 : z1o (w1.heap[w.heap.size]? = some (.cells zCells 47 (0, 0))) := z1o.mk (zb (z7 (blk_new w (.cells zCells 47)) (.cells zCells 47)) hbl)
  have K1 : z1o (w1.heap[w.heap.size + 1]? = some (.cells zCells 47 (0, 0))) := z1o.mk (by have h_ := zb (blk_new (w.alloc (.cells zCells 47)) (.cells zCells 47)) hbl; simpa using h_)
  have HB1 := z1o.mk (za (z2 (z2 HB.out _) _) hbl)
  clear hd hbl
  obtain ⟨a_0, a_1, a_2, a_3, a_4⟩ := bkz K0.out
  have fa_ := z5 K0.out
  obtain ⟨b_0, b_1, b_2, b_3, b_4⟩ := bkz K1.out
  have fb_ := z5 K1.out
  by_cases h1 : Roomy b n q
  case neg =>
   have EQ : z1o (lNext b p s = (zRec, 0, false)) := z1o.mk (lNext_small hg h1)
   clear hg
   by_cases h2 : n < 2
   ·have k1 : decide ((n : Int) < 2) = true := decide_eq_true (by omega)
    clear h1 h2
    go_wp2_with fail
    refine bodyPost_ret (results_ctt rfl _ _ w.heap.size 47 #[.int .i64 0, .int .i64 0, .string ⟨#[]⟩, .string ⟨#[]⟩, .slice none 0 0] (0, 0) _ rfl (put5 K0.out _ _ _ _ _) Try.underlying47 rfl (by kernel_rfl)) rfl ?_
    rw [EQ.out]
    exact ⟨_, rfl, Kd.S_nil _ _ _ _ _, set5 HB1.out⟩
   ·have k1 : decide ((n : Int) < 2) = false := decide_eq_false (by omega)
    have k2 : decide ((b.length : Int) - (q : Int) - 4 < (n : Int)) = true := decide_eq_true (by have : ¬ n + q + 4 ≤ b.length := fun h => h1 ⟨by omega, h⟩; omega)
    clear h1 h2
    go_wp2_with fail
    refine bodyPost_ret (results_ctt rfl _ _ w.heap.size 47 #[.int .i64 0, .int .i64 0, .string ⟨#[]⟩, .string ⟨#[]⟩, .slice none 0 0] (0, 0) _ rfl (put5 K0.out _ _ _ _ _) Try.underlying47 rfl (by kernel_rfl)) rfl ?_
    rw [EQ.out]
    exact ⟨_, rfl, Kd.S_nil _ _ _ _ _, set5 HB1.out⟩
  have h2 := h1.1
  have h3 := h1.2
  have H1 := z1o.mk h1
  clear h1
  have k1 : decide ((n : Int) < 2) = false := decide_eq_false (by omega)
  have k2 : decide ((b.length : Int) - (q : Int) - 4 < (n : Int)) = false := decide_eq_false (by omega)
  obtain ⟨part, hP⟩ : ∃ x, x = partAt b n q := ⟨_, rfl⟩
  have hpl : part.length = n := by rw [hP]; exact partAt_length H1.out
  have hpb : IsB part := by rw [hP]; exact partAt_isB HIB.out n q
  obtain ⟨kd, hkd⟩ : ∃ kd, kd = rd part 0 := ⟨_, rfl⟩
  have hkb : 0 ≤ kd ∧ kd < 256 := by rw [hkd]; exact rd_isB hpb 0
  obtain ⟨A1, ad, hcut, hC, HRPa, hxa⟩ := cutPart A0 c0 b n q w HR.out HC.out H1.out
  rw [← hP] at HRPa hxa
  rw [← hkd] at hxa
  have HP := z1o.mk hP
  have HKD := z1o.mk hkd
  have HPL := z1o.mk hpl
  have HPB := z1o.mk hpb
  have HRP := z1o.mk HRPa
  have HCP := z1o.mk hC
  have HG := z1o.mk hg
  have hx1 : w1.cell? ad = some (.int .u8 kd) := (HB1.out.cell (ua w _ hxa)).trans hxa
  have hkw : (0 : Int) < (n : Int) := by omega
  clear hP hkd hpl hpb HRPa hC hg hxa
  go_wp2_with fail
  go_at_call 119
  rcases opt_split (getB part 1) with h4 | ⟨⟨seq, k⟩, h4⟩
  ·have EQ : z1o (lNext b p s = ((kd, 0, ⟨#[]⟩, ⟨#[]⟩, []), 0, false)) := z1o.mk (by rw [HKD.out, HP.out]; exact lNext_noseq HG.out H1.out (by rw [← HP.out]; exact h4))
   obtain ⟨x, y, HN⟩ := l03_none' h4 HPB.out (by rw [HPL.out]; omega) (p := 1) (by rw [HPL.out]; omega)
   refine (HN HPL.out (Kd.C_below HRP.out (z4 (j := 0) (v := .int .i64 kd) HB1.out (Nat.le_succ w.heap.size))) HCP.out).mono ?_
   rintro e w2 ⟨rfl, hd2⟩
   have hbl2 := hd2.below
   have L0 : z1o (w2.heap[w.heap.size]? = some (.cells zCells 47 (0, 0))) := z1o.mk (zb (ze K0.out (Nat.ne_of_lt (Nat.lt_succ_self _)) (p := ⟨w.heap.size + 1, 0, none⟩) (.int .i64 kd)) hbl2)
   have L1 : z1o (w2.heap[w.heap.size + 1]? = some (.cells #[.int .i64 kd, .int .i64 0, .string ⟨#[]⟩, .string ⟨#[]⟩, .slice none 0 0] 47 (0, 0))) := z1o.mk (zb (zd K1.out 0 (.int .i64 kd) rfl) hbl2)
   have HB2 := z1o.mk (za (z4 (j := 0) (v := .int .i64 kd) HB1.out (Nat.le_succ _)) hbl2)
   clear hd2 hbl2 hx1
   clear a_0 a_1 a_2 a_3 a_4 b_0 b_1 b_2 b_3 b_4
   clear HN h4
   obtain ⟨d_0, d_1, d_2, d_3, d_4⟩ := bkz L0.out
   have fd_ := z5 L0.out
   obtain ⟨g_0, g_1, g_2, g_3, g_4⟩ := bk5 L1.out
   have fg_ := z5 L1.out
   go_wp2_with fail
   refine bodyPost_ret (results_ctt rfl _ _ w.heap.size 47 #[.int .i64 kd, .int .i64 0, .string ⟨#[]⟩, .string ⟨#[]⟩, .slice none 0 0] (0, 0) _ rfl (put5 L0.out _ _ _ _ _) Try.underlying47 rfl (by kernel_rfl)) rfl ?_
   rw [EQ.out]
   exact ⟨_, rfl, Kd.S_nil _ _ _ _ _, set5 HB2.out⟩
  ·have hle4 := getB_le part 1 h4
   have hk0 := hle4.2.1
   have hk1 := hle4.2.2
   have hs := hle4.1
   clear hle4
   refine (l03_some (p := 1) HPL.out h4 (Kd.C_below HRP.out (z4 (j := 0) (v := .int .i64 kd) HB1.out (Nat.le_succ w.heap.size))) HCP.out HPB.out (by omega) (by omega)).mono ?_
   rintro e w2 ⟨rfl, hd2⟩
   have hbl2 := hd2.below
   have L0 : z1o (w2.heap[w.heap.size]? = some (.cells zCells 47 (0, 0))) := z1o.mk (zb (ze K0.out (Nat.ne_of_lt (Nat.lt_succ_self _)) (p := ⟨w.heap.size + 1, 0, none⟩) (.int .i64 kd)) hbl2)
   have L1 : z1o (w2.heap[w.heap.size + 1]? = some (.cells #[.int .i64 kd, .int .i64 0, .string ⟨#[]⟩, .string ⟨#[]⟩, .slice none 0 0] 47 (0, 0))) := z1o.mk (zb (zd K1.out 0 (.int .i64 kd) rfl) hbl2)
   have HB2 := z1o.mk (za (z4 (j := 0) (v := .int .i64 kd) HB1.out (Nat.le_succ _)) hbl2)
   clear hd2 hbl2 hx1
   clear a_0 a_1 a_2 a_3 a_4 b_0 b_1 b_2 b_3 b_4
   have H4 := z1o.mk (show getB (partAt b n q) 1 = some (seq, k) by rw [← HP.out]; exact h4)
   rw [HPL.out] at hk1
   clear h4
   obtain ⟨d_0, d_1, d_2, d_3, d_4⟩ := bkz L0.out
   have fd_ := z5 L0.out
   obtain ⟨g_0, g_1, g_2, g_3, g_4⟩ := bk5 L1.out
   have fg_ := z5 L1.out
   by_cases h5 : (seq : Int) = s
   case neg =>
    have EQ : z1o (lNext b p s = ((kd, 0, ⟨#[]⟩, ⟨#[]⟩, []), 0, false)) := z1o.mk (by rw [HKD.out, HP.out]; exact lNext_other HG.out H1.out H4.out h5)
    have k5 : ((seq : Int) != s) = true := bne_iff_ne.mpr h5
    clear h5
    go_wp2_with fail
    refine bodyPost_ret (results_ctt rfl _ _ w.heap.size 47 #[.int .i64 kd, .int .i64 0, .string ⟨#[]⟩, .string ⟨#[]⟩, .slice none 0 0] (0, 0) _ rfl (put5 L0.out _ _ _ _ _) Try.underlying47 rfl (by kernel_rfl)) rfl ?_
    rw [EQ.out]
    exact ⟨_, rfl, Kd.S_nil _ _ _ _ _, set5 HB2.out⟩
   subst h5
   have k5 : ((seq : Int) != (seq : Int)) = false := by simp
   obtain ⟨A3, hcut3, hC3, HRDa⟩ := cutRest A0 c0 b n q k w ad HRP.out HPL.out HCP.out hk1
   have HRD := z1o.mk HRDa
   have HCD := z1o.mk hC3
   have HLD := z1o.mk (show (part.drop k).length = n - k by rw [uf, HPL.out])
   have HBD := z1o.mk (isB_drop HPB.out k)
   have LT2 := z1o.mk (show w.heap.size < w2.heap.size from zg L0.out)
   have hk2 : (k : Int) ≤ (n : Int) := by omega
   obtain ⟨A6, m6, hcut6, HM6a, HR6a⟩ := cutSpan A0 c0 b p n q w HR.out HC.out hpq H1.out
   obtain ⟨xs, hX⟩ : ∃ xs, xs = (b.take (q + n + 4)).drop p := ⟨_, rfl⟩
   rw [← hX] at HR6a
   have HB6 := z1o.mk (show IsB xs by rw [hX]; exact isB_drop (isB_take HIB.out _) p)
   have HX := z1o.mk hX
   have HR6c := z1o.mk HR6a
   have CV := z1o.mk (fun {W : World} (h_ : Kd.C (Kd.int .u8) W A6 m6 xs) => Kd.C_string (P := Try.prog) (src := 26) (dst := 9) (c := c0 - p) Try.underlying26 Try.underlying5 Try.underlying9 h_)
   clear hC3 HRDa hX HR6a HM6a
   by_cases k1' : kd = 1
   case pos =>
    obtain ⟨⟨did, ds, rc⟩, h6⟩ : ∃ z, rdR (part.drop k) = z := ⟨_, rfl⟩
    have K1' := z1o.mk k1'
    have k3 : (kd == 1) = true := beq_iff_eq.mpr k1'
    clear k1'
    go_wp2_with fail
    go_at_call 18
    refine (sreadDoc_p HLD.out h6 (Kd.C_below HRD.out (z4 HB2.out (Nat.le_succ _))) HCD.out HBD.out (by omega)).mono ?_
    rintro e w3 ⟨v3, rfl, hS, hB3⟩
    have HB3 := z1o.mk (za (z4 HB2.out (Nat.le_succ _)) hB3)
    have M0 := z1o.mk (zb (ze L0.out (Nat.ne_of_lt (Nat.lt_succ_self _)) (p := ⟨w.heap.size + 1, 1, none⟩) (.int .i64 (seq : Int))) hB3)
    have M1 : z1o (w3.heap[w.heap.size + 1]? = some (.cells #[.int .i64 kd, .int .i64 (seq : Int), .string ⟨#[]⟩, .string ⟨#[]⟩, .slice none 0 0] 47 (0, 0))) := z1o.mk (zb (zd L1.out 1 (.int .i64 (seq : Int)) rfl) hB3)
    have LT1 := z1o.mk (zg L1.out)
    have HS := z1o.mk (Kd.S_mono (ok' := fun k_ => w2.heap.size ≤ k_ ∧ k_ < w3.heap.size) (Kd.S_span hS (show w.heap.size ≤ (w2.setCell _ _).heap.size by have := HB2.out.size; simpa using this)) (fun k_ hk_ => by simpa using hk_))
    obtain ⟨A4, c4, e4⟩ := Kd.S_slice HS.out
    subst e4
    have H6 := z1o.mk h6
    clear hS hB3 h6
    clear d_0 d_1 d_2 d_3 d_4 g_0 g_1 g_2 g_3 g_4
    have M0a := z1o.mk (z7 M0.out (.cells #[.string did, .slice A4 ds.length c4] 31))
    have M1a := z1o.mk (z7 M1.out (.cells #[.string did, .slice A4 ds.length c4] 31))
    obtain ⟨d_0, d_1, d_2, d_3, d_4⟩ := bkz M0a.out
    have fd_ := z5 M0a.out
    obtain ⟨g_0, g_1, g_2, g_3, g_4⟩ := bk5 M1a.out
    have fg_ := z5 M1a.out
    by_cases h7 : rc = 0
    case neg =>
     have EQ : z1o (lNext b p (seq : Int) = ((kd, (seq : Int), ⟨#[]⟩, ⟨#[]⟩, []), 0, false)) := z1o.mk (lNext_body HG.out H1.out H4.out (by unfold lBody; rw [← HP.out, ← HKD.out, if_pos K1'.out, H6.out]; exact if_neg h7) |>.trans (if_neg (by simp)))
     have k6 : (rc != 0) = true := bne_iff_ne.mpr h7
     clear h7
     go_wp2_with fail
     refine bodyPost_ret (results_ctt rfl _ _ w.heap.size 47 #[.int .i64 kd, .int .i64 (seq : Int), .string ⟨#[]⟩, .string ⟨#[]⟩, .slice none 0 0] (0, 0) _ rfl (put5 (z7 M0.out _) _ _ _ _ _) Try.underlying47 rfl (by kernel_rfl)) rfl ?_
     rw [EQ.out]
     exact ⟨_, rfl, Kd.S_nil _ _ _ _ _, set5 (z2 HB3.out _)⟩
    subst h7
    have HF := z1o.mk (show FitD did ds by have := rdR_fit (part.drop k); rw [H6.out] at this; exact this)
    have ELN : z1o (lNext b p (seq : Int) = lFin b p (q + n + 4) (kd, (seq : Int), (⟨#[]⟩ : ByteArray), did, ds)) := z1o.mk (lNext_body HG.out H1.out H4.out (by unfold lBody; rw [← HP.out, ← HKD.out, if_pos K1'.out, H6.out]; exact if_pos rfl) |>.trans (if_pos rfl))
    have N0 := z1o.mk (z9 (ze (ze (z7 M0.out (.cells #[.string did, .slice A4 ds.length c4] 31)) (Nat.ne_of_lt (Nat.lt_succ_self _)) (p := ⟨w.heap.size + 1, 3, none⟩) (.string did)) (Nat.ne_of_lt (Nat.lt_succ_self _)) (p := ⟨w.heap.size + 1, 4, none⟩) (.slice A4 ds.length c4)))
    have N1 := z1o.mk (show (World.drew _).heap[w.heap.size + 1]? = some (.cells #[.int .i64 kd, .int .i64 (seq : Int), .string (⟨#[]⟩ : ByteArray), .string did, .slice A4 ds.length c4] 47 (0, 0)) from z9 (zd (zd (z7 M1.out (.cells #[.string did, .slice A4 ds.length c4] 31)) 3 (.string did) rfl) 4 (.slice A4 ds.length c4) rfl))
    have HBn := z1o.mk (z3 (z4 (g := w.heap.size + 1) (j := 4) (v := .slice A4 ds.length c4) (z4 (g := w.heap.size + 1) (j := 3) (v := .string did) (z2 HB3.out (.cells #[.string did, .slice A4 ds.length c4] 31)) (Nat.le_succ _)) (Nat.le_succ _)))
    have HSn := z1o.mk (Kd.S_drew (Kd.S_far (p := ⟨w.heap.size + 1, 4, none⟩) (Kd.S_far (p := ⟨w.heap.size + 1, 3, none⟩) (Kd.S_alloc HS.out (.cells #[.string did, .slice A4 ds.length c4] 31)) (fun k_ hk_ => by have := LT1.out; have := hk_.1; show k_ ≠ w.heap.size + 1; omega) (.string did)) (fun k_ hk_ => by have := LT1.out; have := hk_.1; show k_ ≠ w.heap.size + 1; omega) (.slice A4 ds.length c4)))
    go_wp2_with fail
    refine start_ (n := 14) (S := fun w' => w'.cell? ⟨w.heap.size + 1, 0, none⟩ = some (.int .i64 kd) ∧ w'.cell? ⟨w.heap.size + 1, 1, none⟩ = some (.int .i64 (seq : Int)) ∧ w'.cell? ⟨w.heap.size + 1, 2, none⟩ = some (.string (⟨#[]⟩ : ByteArray)) ∧ w'.cell? ⟨w.heap.size + 1, 3, none⟩ = some (.string did) ∧ w'.cell? ⟨w.heap.size + 1, 4, none⟩ = some (.slice A4 ds.length c4) ∧ (convert 26 9 (.slice A6 m6 (c0 - p))).run Try.prog w' = .ok (.string (strOfNums xs)) w') (ds := []) #[false, false, false, false, false, false, false, false, false, false, false, false, false, false] (by kernel_rfl) rfl rfl ⟨(z6 N1.out 0).trans rfl, (z6 N1.out 1).trans rfl, (z6 N1.out 2).trans rfl, (z6 N1.out 3).trans rfl, (z6 N1.out 4).trans rfl, CV.out (Kd.C_below HR6c.out HBn.out)⟩ (fun hHeld => ?_)
    refine with_tabW next_tab19 next_bits19 (fun HT_ HW_ => ?_)
    refine take_ (i := 0) (N := some 94) (v := ?_) (a' := ?_) #[true, false, false, false, false, false, false, false, false, false, false, false, false, false] rfl rfl (take_ofW HT_.out HW_.out (by kernel_rfl)) (fun _ _ _ h => h) (Or.inl ⟨by rfl, ?_⟩) hHeld ?_ ?_
    rotate_left
    ·rintro w' ⟨s0, s1, s2, s3, s4, s5⟩
     go_simp
     with_reducible rfl
    rotate_left
    ·simp only [Act.put, ub, uc, ud, zn, zo]
     rfl
    cases hok : recOk kd (seq : Int) ((⟨#[]⟩ : ByteArray)) (did) ds
    case false =>
     have EQ : z1o (lNext b p (seq : Int) = ((kd, (seq : Int), (⟨#[]⟩ : ByteArray), did, ds), 0, false)) := z1o.mk (ELN.out.trans (lFin_no (fun h_ => by rw [hok] at h_; exact absurd h_.1 (by simp))))
     refine one_ (i := 1) (N := some 95) #[true, true, false, false, false, false, false, false, false, false, false, false, false, false] rfl rfl (one_of HT_.out (by kernel_rfl)) (by decide) (fun K hK => ?_)
     refine goes_ Try.func60 (by kernel_rfl) rfl #[.agg #[.int .i64 kd, .int .i64 (seq : Int), .string (⟨#[]⟩ : ByteArray), .string did, .slice A4 ds.length c4]] (by rfl) rfl rfl (by (try simp only [uh, ui, uj]); first | done | rfl) ?_
     refine (recOK_p (r := false) hok (Nat.zero_le _) HF.out (Kd.S_reads' HSn.out).2.2 (Kd.S_reads' HSn.out).2.1).mono ?_
     rintro e w4 ⟨rfl, hb_⟩
     refine ⟨_, rfl, ?_⟩
     have O0 := z1o.mk (zb N0.out hb_)
     have O1 := z1o.mk (zb N1.out hb_)
     have HBo := z1o.mk (za HBn.out hb_)
     have HSo := z1o.mk (Kd.S_below HSn.out hb_)
     clear hb_ hok
     refine hK.out _ _ ⟨(z6 O1.out 0).trans rfl, (z6 O1.out 1).trans rfl, (z6 O1.out 2).trans rfl, (z6 O1.out 3).trans rfl, (z6 O1.out 4).trans rfl, CV.out (Kd.C_below HR6c.out HBo.out)⟩ (fun hHeld => ?_)
     clear hK K
     refine norm_ (a' := ?_) ?_ ?_
     rotate_left
     ·show Act.put _ (some 95) _ = _
      simp only [Act.put, ub, uc, ud, zn, zo]
      rfl
     refine pure_ (i := 2) (N := some 96) (v := ?_) (a' := ?_) #[true, true, true, false, false, false, false, false, false, false, false, false, false, false] rfl rfl (any_of HT_.out (by kernel_rfl)) (fun _ _ _ h => h) (Or.inl ⟨by rfl, ?_⟩) ?_ ?_
     rotate_left
     ·intro w'
      go_simp
      with_reducible rfl
     rotate_left
     ·simp only [Act.put, ub, uc, ud, zn, zo]
      rfl
     refine pure_ (i := 3) (N := some 97) (v := ?_) (a' := ?_) #[true, true, true, true, false, false, false, false, false, false, false, false, false, false] rfl rfl (any_of HT_.out (by kernel_rfl)) (fun _ _ _ h => h) (Or.inl ⟨by rfl, ?_⟩) ?_ ?_
     rotate_left
     ·intro w'
      go_simp
      with_reducible rfl
     rotate_left
     ·simp only [Act.put, ub, uc, ud, zn, zo]
      rfl
     refine pure_ (i := 4) (N := some 98) (v := undef) (a' := ?_) #[true, true, true, true, true, false, false, false, false, false, false, false, false, false] rfl rfl (any_of HT_.out (by kernel_rfl)) (fun _ _ _ h => h) (Or.inr ⟨by rfl, rfl⟩) ?_ ?_
     rotate_left
     ·simp only [Act.put, ub, uc, ud, zn, zo]
      rfl
     refine pure_ (i := 5) (N := some 99) (v := undef) (a' := ?_) #[true, true, true, true, true, true, false, false, false, false, false, false, false, false] rfl rfl (any_of HT_.out (by kernel_rfl)) (fun _ _ _ h => h) (Or.inr ⟨by rfl, rfl⟩) ?_ ?_
     rotate_left
     ·simp only [Act.put, ub, uc, ud, zn, zo]
      rfl
     refine pure_ (i := 6) (N := some 100) (v := undef) (a' := ?_) #[true, true, true, true, true, true, true, false, false, false, false, false, false, false] rfl rfl (any_of HT_.out (by kernel_rfl)) (fun _ _ _ h => h) (Or.inr ⟨by rfl, rfl⟩) ?_ ?_
     rotate_left
     ·simp only [Act.put, ub, uc, ud, zn, zo]
      rfl
     refine pure_ (i := 7) (N := some 101) (v := undef) (a' := ?_) #[true, true, true, true, true, true, true, true, false, false, false, false, false, false] rfl rfl (any_of HT_.out (by kernel_rfl)) (fun _ _ _ h => h) (Or.inr ⟨by rfl, rfl⟩) ?_ ?_
     rotate_left
     ·simp only [Act.put, ub, uc, ud, zn, zo]
      rfl
     refine pure_ (i := 8) (N := some 102) (v := undef) (a' := ?_) #[true, true, true, true, true, true, true, true, true, false, false, false, false, false] rfl rfl (any_of HT_.out (by kernel_rfl)) (fun _ _ _ h => h) (Or.inr ⟨by rfl, rfl⟩) ?_ ?_
     rotate_left
     ·simp only [Act.put, ub, uc, ud, zn, zo]
      rfl
     refine pure_ (i := 9) (N := some 103) (v := undef) (a' := ?_) #[true, true, true, true, true, true, true, true, true, true, false, false, false, false] rfl rfl (any_of HT_.out (by kernel_rfl)) (fun _ _ _ h => h) (Or.inr ⟨by rfl, rfl⟩) ?_ ?_
     rotate_left
     ·simp only [Act.put, ub, uc, ud, zn, zo]
      rfl
     refine pure_ (i := 10) (N := some 104) (v := undef) (a' := ?_) #[true, true, true, true, true, true, true, true, true, true, true, false, false, false] rfl rfl (any_of HT_.out (by kernel_rfl)) (fun _ _ _ h => h) (Or.inr ⟨by rfl, rfl⟩) ?_ ?_
     rotate_left
     ·simp only [Act.put, ub, uc, ud, zn, zo]
      rfl
     refine pure_ (i := 11) (N := some 105) (v := undef) (a' := ?_) #[true, true, true, true, true, true, true, true, true, true, true, true, false, false] rfl rfl (any_of HT_.out (by kernel_rfl)) (fun _ _ _ h => h) (Or.inr ⟨by rfl, rfl⟩) ?_ ?_
     rotate_left
     ·simp only [Act.put, ub, uc, ud, zn, zo]
      rfl
     refine pure_ (i := 12) (N := some 106) (v := undef) (a' := ?_) #[true, true, true, true, true, true, true, true, true, true, true, true, true, false] rfl rfl (any_of HT_.out (by kernel_rfl)) (fun _ _ _ h => h) (Or.inr ⟨by rfl, rfl⟩) ?_ ?_
     rotate_left
     ·simp only [Act.put, ub, uc, ud, zn, zo]
      rfl
     refine pure_ (i := 13) (N := some 107) (v := ?_) (a' := ?_) #[true, true, true, true, true, true, true, true, true, true, true, true, true, true] rfl rfl (any_of HT_.out (by kernel_rfl)) (fun _ _ _ h => h) (Or.inl ⟨by rfl, ?_⟩) ?_ ?_
     rotate_left
     ·intro w'
      go_simp
      with_reducible rfl
     rotate_left
     ·simp only [Act.put, ub, uc, ud, zn, zo]
      rfl
     refine done_ (done_of HT_.out (by kernel_rfl)) ?_
     obtain ⟨g_0, g_1, g_2, g_3, g_4⟩ := bkz O0.out
     have fg_ := z5 O0.out
     obtain ⟨u_0, u_1, u_2, u_3, u_4⟩ := bk5 O1.out
     have fu_ := z5 O1.out
     go_wp2_with fail
     refine bodyPost_ret (results_ctt rfl _ _ w.heap.size 47 #[.int .i64 kd, .int .i64 (seq : Int), .string (⟨#[]⟩ : ByteArray), .string did, .slice A4 ds.length c4] (0, 0) _ rfl (put5 O0.out _ _ _ _ _) Try.underlying47 rfl (by kernel_rfl)) rfl ?_
     rw [EQ.out]
     exact ⟨_, rfl, far5 HSo.out LT2.out _ _ _ _ _, set5 HBo.out⟩
    refine one_ (i := 1) (N := some 95) #[true, true, false, false, false, false, false, false, false, false, false, false, false, false] rfl rfl (one_of HT_.out (by kernel_rfl)) (by decide) (fun K hK => ?_)
    refine goes_ Try.func60 (by kernel_rfl) rfl #[.agg #[.int .i64 kd, .int .i64 (seq : Int), .string (⟨#[]⟩ : ByteArray), .string did, .slice A4 ds.length c4]] (by rfl) rfl rfl (by (try simp only [uh, ui, uj]); first | done | rfl) ?_
    refine (recOK_p (r := true) hok (Nat.zero_le _) HF.out (Kd.S_reads' HSn.out).2.2 (Kd.S_reads' HSn.out).2.1).mono ?_
    rintro e w4 ⟨rfl, hb_⟩
    refine ⟨_, rfl, ?_⟩
    have O0 := z1o.mk (zb N0.out hb_)
    have O1 := z1o.mk (zb N1.out hb_)
    have HBo := z1o.mk (za HBn.out hb_)
    have HSo := z1o.mk (Kd.S_below HSn.out hb_)
    clear hb_
    have HOK := z1o.mk hok
    clear hok
    refine hK.out _ _ ⟨(z6 O1.out 0).trans rfl, (z6 O1.out 1).trans rfl, (z6 O1.out 2).trans rfl, (z6 O1.out 3).trans rfl, (z6 O1.out 4).trans rfl, CV.out (Kd.C_below HR6c.out HBo.out)⟩ (fun hHeld => ?_)
    clear hK K
    refine norm_ (a' := ?_) ?_ ?_
    rotate_left
    ·show Act.put _ (some 95) _ = _
     simp only [Act.put, ub, uc, ud, zn, zo]
     rfl
    refine pure_ (i := 2) (N := some 96) (v := ?_) (a' := ?_) #[true, true, true, false, false, false, false, false, false, false, false, false, false, false] rfl rfl (any_of HT_.out (by kernel_rfl)) (fun _ _ _ h => h) (Or.inl ⟨by rfl, ?_⟩) ?_ ?_
    rotate_left
    ·intro w'
     go_simp
     with_reducible rfl
    rotate_left
    ·simp only [Act.put, ub, uc, ud, zn, zo]
     rfl
    refine pure_ (i := 3) (N := some 97) (v := ?_) (a' := ?_) #[true, true, true, true, false, false, false, false, false, false, false, false, false, false] rfl rfl (any_of HT_.out (by kernel_rfl)) (fun _ _ _ h => h) (Or.inl ⟨by rfl, ?_⟩) ?_ ?_
    rotate_left
    ·intro w'
     go_simp
     with_reducible rfl
    rotate_left
    ·simp only [Act.put, ub, uc, ud, zn, zo]
     rfl
    refine pure_ (i := 7) (N := some 101) (v := ?_) (a' := ?_) #[true, true, true, true, false, false, false, true, false, false, false, false, false, false] rfl rfl (any_of HT_.out (by kernel_rfl)) (fun _ _ _ h => h) (Or.inl ⟨by rfl, ?_⟩) ?_ ?_
    rotate_left
    ·intro w'
     go_simp
     with_reducible rfl
    rotate_left
    ·simp only [Act.put, ub, uc, ud, zn, zo]
     rfl
    refine pure_ (i := 8) (N := some 102) (v := ?_) (a' := ?_) #[true, true, true, true, false, false, false, true, true, false, false, false, false, false] rfl rfl (any_of HT_.out (by kernel_rfl)) (fun _ _ _ h => h) (Or.inl ⟨by rfl, ?_⟩) ?_ ?_
    rotate_left
    ·intro w'
     go_simp
     with_reducible rfl
    rotate_left
    ·simp only [Act.put, ub, uc, ud, zn, zo]
     rfl
    refine pure_ (i := 9) (N := some 103) (v := ?_) (a' := ?_) #[true, true, true, true, false, false, false, true, true, true, false, false, false, false] rfl rfl (any_of HT_.out (by kernel_rfl)) (fun _ _ _ h => h) (Or.inl ⟨by rfl, ?_⟩) ?_ ?_
    rotate_left
    ·intro w'
     go_simp
     with_reducible rfl
    rotate_left
    ·simp only [Act.put, ub, uc, ud, zn, zo]
     rfl
    refine pure_ (i := 10) (N := some 104) (v := ?_) (a' := ?_) #[true, true, true, true, false, false, false, true, true, true, true, false, false, false] rfl rfl (any_of HT_.out (by kernel_rfl)) (fun _ _ _ h => h) (Or.inl ⟨by rfl, ?_⟩) ?_ ?_
    rotate_left
    ·intro w'
     go_simp
     with_reducible rfl
    rotate_left
    ·simp only [Act.put, ub, uc, ud, zn, zo]
     rfl
    refine take_ (i := 11) (N := some 105) (v := ?_) (a' := ?_) #[true, true, true, true, false, false, false, true, true, true, true, true, false, false] rfl rfl (take_ofW HT_.out HW_.out (by kernel_rfl)) (fun _ _ _ h => h) (Or.inl ⟨by rfl, ?_⟩) hHeld ?_ ?_
    rotate_left
    ·rintro w' ⟨s0, s1, s2, s3, s4, s5⟩
     go_simp
     with_reducible rfl
    rotate_left
    ·simp only [Act.put, ub, uc, ud, zn, zo]
     rfl
    refine take_ (i := 4) (N := some 98) (v := ?_) (a' := ?_) #[true, true, true, true, true, false, false, true, true, true, true, true, false, false] rfl rfl (take_ofW HT_.out HW_.out (by kernel_rfl)) (fun _ _ _ h => h) (Or.inl ⟨by rfl, ?_⟩) hHeld ?_ ?_
    rotate_left
    ·rintro w' ⟨s0, s1, s2, s3, s4, s5⟩
     go_simp
     with_reducible rfl
    rotate_left
    ·simp only [Act.put, ub, uc, ud, zn, zo]
     rfl
    refine one_ (i := 5) (N := some 99) #[true, true, true, true, true, true, false, true, true, true, true, true, false, false] rfl rfl (one_of HT_.out (by kernel_rfl)) (by decide) (fun K hK => ?_)
    refine goes_ Try.func61 (by kernel_rfl) rfl #[.agg #[.int .i64 kd, .int .i64 (seq : Int), .string (⟨#[]⟩ : ByteArray), .string did, .slice A4 ds.length c4]] (by rfl) rfl rfl (by (try simp only [uh, ui, uj]); first | done | rfl) ?_
    refine (recBytesL_p HOK.out rfl (Nat.zero_le _) HF.out (Kd.S_reads' HSo.out).2.2 (Kd.S_reads' HSo.out).2.1).mono ?_
    rintro e w5 ⟨v5, rfl, hR5, hb_⟩
    refine ⟨_, rfl, ?_⟩
    have P0 := z1o.mk (zb O0.out hb_)
    have P1 := z1o.mk (zb O1.out hb_)
    have HBp := z1o.mk (za HBo.out hb_)
    have HSp := z1o.mk (Kd.S_below HSo.out hb_)
    have HR5 := z1o.mk (Kd.R_lower hR5 HBo.out.size)
    clear hb_ hR5
    refine hK.out _ _ ⟨(z6 P1.out 0).trans rfl, (z6 P1.out 1).trans rfl, (z6 P1.out 2).trans rfl, (z6 P1.out 3).trans rfl, (z6 P1.out 4).trans rfl, CV.out (Kd.C_below HR6c.out HBp.out)⟩ (fun hHeld => ?_)
    clear hK K
    refine norm_ (a' := ?_) ?_ ?_
    rotate_left
    ·show Act.put _ (some 99) _ = _
     simp only [Act.put, ub, uc, ud, zn, zo]
     rfl
    refine one_ (i := 6) (N := some 100) #[true, true, true, true, true, true, true, true, true, true, true, true, false, false] rfl rfl (one_of HT_.out (by kernel_rfl)) (by decide) (fun K hK => ?_)
    have hcv71 := own_string (P := Try.prog) Try.underlying26 Try.underlying5 Try.underlying9 (Kd.own_of_R HR5.out)
    refine value_ (w1 := ?_) (v := ?_) (by rfl) rfl ?_ ?_
    rotate_left 2
    ·go_simp
     constructor
     ·rfl
     ·rfl
    clear hcv71
    refine hK.out _ _ ⟨(z6 P1.out 0).trans rfl, (z6 P1.out 1).trans rfl, (z6 P1.out 2).trans rfl, (z6 P1.out 3).trans rfl, (z6 P1.out 4).trans rfl, CV.out (Kd.C_below HR6c.out HBp.out)⟩ (fun hHeld => ?_)
    clear hK K
    refine norm_ (a' := ?_) ?_ ?_
    rotate_left
    ·show Act.put _ (some 100) _ = _
     simp only [Act.put, ub, uc, ud, zn, zo]
     rfl
    by_cases h9 : recB (kd, (seq : Int), (⟨#[]⟩ : ByteArray), did, ds) = xs
    ·have e9 : ((strOfNums (recB (kd, (seq : Int), (⟨#[]⟩ : ByteArray), did, ds))).toList == (strOfNums xs).toList) = true := by rw [h9]; simp
     have e9b : ((strOfNums (recB (kd, (seq : Int), (⟨#[]⟩ : ByteArray), did, ds))).toList != (strOfNums xs).toList) = false := by rw [h9]; simp
     have EQ : z1o (lNext b p (seq : Int) = ((kd, (seq : Int), (⟨#[]⟩ : ByteArray), did, ds), ((q + n + 4 : Nat) : Int), true)) := z1o.mk (ELN.out.trans (if_pos ⟨HOK.out, by rw [← HX.out]; exact h9⟩))
     clear h9
     refine pure_ (i := 12) (N := some 106) (v := ?_) (a' := ?_) #[true, true, true, true, true, true, true, true, true, true, true, true, true, false] rfl rfl (any_of HT_.out (by kernel_rfl)) (fun _ _ _ h => h) (Or.inl ⟨by rfl, ?_⟩) ?_ ?_
     rotate_left
     ·intro w'
      go_simp
      with_reducible rfl
     rotate_left
     ·simp only [Act.put, ub, uc, ud, zn, zo]
      rfl
     refine pure_ (i := 13) (N := some 107) (v := ?_) (a' := ?_) #[true, true, true, true, true, true, true, true, true, true, true, true, true, true] rfl rfl (any_of HT_.out (by kernel_rfl)) (fun _ _ _ h => h) (Or.inl ⟨by rfl, ?_⟩) ?_ ?_
     rotate_left
     ·intro w'
      go_simp
      with_reducible rfl
     rotate_left
     ·simp only [Act.put, ub, uc, ud, zn, zo]
      rfl
     refine done_ (done_of HT_.out (by kernel_rfl)) ?_
     obtain ⟨g_0, g_1, g_2, g_3, g_4⟩ := bkz P0.out
     have fg_ := z5 P0.out
     obtain ⟨u_0, u_1, u_2, u_3, u_4⟩ := bk5 P1.out
     have fu_ := z5 P1.out
     go_wp2_with fail
     refine bodyPost_ret (results_ctt rfl _ _ w.heap.size 47 #[.int .i64 kd, .int .i64 (seq : Int), .string (⟨#[]⟩ : ByteArray), .string did, .slice A4 ds.length c4] (0, 0) _ rfl (put5 P0.out _ _ _ _ _) Try.underlying47 rfl (by kernel_rfl)) rfl ?_
     rw [EQ.out]
     exact ⟨_, rfl, far5 HSp.out LT2.out _ _ _ _ _, set5 HBp.out⟩
    ·have e9 : ((strOfNums (recB (kd, (seq : Int), (⟨#[]⟩ : ByteArray), did, ds))).toList == (strOfNums xs).toList) = false := beq_eq_false_iff_ne.mpr (fun h_ => h9 (strOf_inj (recB_isB _) HB6.out h_))
     have e9b : ((strOfNums (recB (kd, (seq : Int), (⟨#[]⟩ : ByteArray), did, ds))).toList != (strOfNums xs).toList) = true := bne_iff_ne.mpr (fun h_ => h9 (strOf_inj (recB_isB _) HB6.out h_))
     have EQ : z1o (lNext b p (seq : Int) = ((kd, (seq : Int), (⟨#[]⟩ : ByteArray), did, ds), 0, false)) := z1o.mk (ELN.out.trans (lFin_no (fun h_ => h9 (by rw [HX.out]; exact h_.2))))
     clear h9
     refine pure_ (i := 12) (N := some 106) (v := ?_) (a' := ?_) #[true, true, true, true, true, true, true, true, true, true, true, true, true, false] rfl rfl (any_of HT_.out (by kernel_rfl)) (fun _ _ _ h => h) (Or.inl ⟨by rfl, ?_⟩) ?_ ?_
     rotate_left
     ·intro w'
      go_simp
      with_reducible rfl
     rotate_left
     ·simp only [Act.put, ub, uc, ud, zn, zo]
      rfl
     refine pure_ (i := 13) (N := some 107) (v := ?_) (a' := ?_) #[true, true, true, true, true, true, true, true, true, true, true, true, true, true] rfl rfl (any_of HT_.out (by kernel_rfl)) (fun _ _ _ h => h) (Or.inl ⟨by rfl, ?_⟩) ?_ ?_
     rotate_left
     ·intro w'
      go_simp
      with_reducible rfl
     rotate_left
     ·simp only [Act.put, ub, uc, ud, zn, zo]
      rfl
     refine done_ (done_of HT_.out (by kernel_rfl)) ?_
     obtain ⟨g_0, g_1, g_2, g_3, g_4⟩ := bkz P0.out
     have fg_ := z5 P0.out
     obtain ⟨u_0, u_1, u_2, u_3, u_4⟩ := bk5 P1.out
     have fu_ := z5 P1.out
     go_wp2_with fail
     refine bodyPost_ret (results_ctt rfl _ _ w.heap.size 47 #[.int .i64 kd, .int .i64 (seq : Int), .string (⟨#[]⟩ : ByteArray), .string did, .slice A4 ds.length c4] (0, 0) _ rfl (put5 P0.out _ _ _ _ _) Try.underlying47 rfl (by kernel_rfl)) rfl ?_
     rw [EQ.out]
     exact ⟨_, rfl, far5 HSp.out LT2.out _ _ _ _ _, set5 HBp.out⟩
   have ELN : z1o (lNext b p (seq : Int) = lFin b p (q + n + 4) (kd, (seq : Int), strOfNums (part.drop k), (⟨#[]⟩ : ByteArray), [])) := z1o.mk (lNext_body HG.out H1.out H4.out (by unfold lBody; rw [← HP.out, ← HKD.out, if_neg k1']) |>.trans (if_pos rfl))
   have k3 : (kd == 1) = false := beq_eq_false_iff_ne.mpr k1'
   clear k1'
   have hcv := Kd.C_string (P := Try.prog) (A := A3) (c := c0 - q - k) Try.underlying26 Try.underlying5 Try.underlying9 (Kd.C_below HRD.out (z4 (j := 1) (v := .int .i64 (seq : Int)) HB2.out (Nat.le_succ w.heap.size)))
   rw [HLD.out] at hcv
   have HID := z1o.mk (show (strOfNums (part.drop k)).size ≤ 1048576 by rw [strOf_size, HLD.out]; omega)
   have N0 := z1o.mk (z9 (ze (ze L0.out (Nat.ne_of_lt (Nat.lt_succ_self _)) (p := ⟨w.heap.size + 1, 1, none⟩) (.int .i64 (seq : Int))) (Nat.ne_of_lt (Nat.lt_succ_self _)) (p := ⟨w.heap.size + 1, 2, none⟩) (.string (strOfNums (part.drop k)))))
   have N1 := z1o.mk (show (World.drew _).heap[w.heap.size + 1]? = some (.cells #[.int .i64 kd, .int .i64 (seq : Int), .string (strOfNums (part.drop k)), .string (⟨#[]⟩ : ByteArray), .slice none 0 0] 47 (0, 0)) from z9 (zd (zd L1.out 1 (.int .i64 (seq : Int)) rfl) 2 (.string (strOfNums (part.drop k))) rfl))
   have HBn := z1o.mk (z3 (z4 (g := w.heap.size + 1) (j := 2) (v := .string (strOfNums (part.drop k))) (z4 (g := w.heap.size + 1) (j := 1) (v := .int .i64 (seq : Int)) HB2.out (Nat.le_succ _)) (Nat.le_succ _)))
   have HSn := z1o.mk (Kd.S_drew (Kd.S_nil k84 84 ((w2.setCell ⟨w.heap.size + 1, 1, none⟩ (.int .i64 (seq : Int))).setCell ⟨w.heap.size + 1, 2, none⟩ (.string (strOfNums (part.drop k)))) w.heap.size (fun k_ => w2.heap.size ≤ k_ ∧ k_ < w2.heap.size)))
   go_wp2_with fail
   refine start_ (n := 14) (S := fun w' => w'.cell? ⟨w.heap.size + 1, 0, none⟩ = some (.int .i64 kd) ∧ w'.cell? ⟨w.heap.size + 1, 1, none⟩ = some (.int .i64 (seq : Int)) ∧ w'.cell? ⟨w.heap.size + 1, 2, none⟩ = some (.string (strOfNums (part.drop k))) ∧ w'.cell? ⟨w.heap.size + 1, 3, none⟩ = some (.string (⟨#[]⟩ : ByteArray)) ∧ w'.cell? ⟨w.heap.size + 1, 4, none⟩ = some (.slice none 0 0) ∧ (convert 26 9 (.slice A6 m6 (c0 - p))).run Try.prog w' = .ok (.string (strOfNums xs)) w') (ds := []) #[false, false, false, false, false, false, false, false, false, false, false, false, false, false] (by kernel_rfl) rfl rfl ⟨(z6 N1.out 0).trans rfl, (z6 N1.out 1).trans rfl, (z6 N1.out 2).trans rfl, (z6 N1.out 3).trans rfl, (z6 N1.out 4).trans rfl, CV.out (Kd.C_below HR6c.out HBn.out)⟩ (fun hHeld => ?_)
   refine with_tabW next_tab19 next_bits19 (fun HT_ HW_ => ?_)
   refine take_ (i := 0) (N := some 94) (v := ?_) (a' := ?_) #[true, false, false, false, false, false, false, false, false, false, false, false, false, false] rfl rfl (take_ofW HT_.out HW_.out (by kernel_rfl)) (fun _ _ _ h => h) (Or.inl ⟨by rfl, ?_⟩) hHeld ?_ ?_
   rotate_left
   ·rintro w' ⟨s0, s1, s2, s3, s4, s5⟩
    go_simp
    with_reducible rfl
   rotate_left
   ·simp only [Act.put, ub, uc, ud, zn, zo]
    rfl
   cases hok : recOk kd (seq : Int) (strOfNums (part.drop k)) ((⟨#[]⟩ : ByteArray)) ([] : List S84)
   case false =>
    have EQ : z1o (lNext b p (seq : Int) = ((kd, (seq : Int), strOfNums (part.drop k), (⟨#[]⟩ : ByteArray), ([] : List S84)), 0, false)) := z1o.mk (ELN.out.trans (lFin_no (fun h_ => by rw [hok] at h_; exact absurd h_.1 (by simp))))
    refine one_ (i := 1) (N := some 95) #[true, true, false, false, false, false, false, false, false, false, false, false, false, false] rfl rfl (one_of HT_.out (by kernel_rfl)) (by decide) (fun K hK => ?_)
    refine goes_ Try.func60 (by kernel_rfl) rfl #[.agg #[.int .i64 kd, .int .i64 (seq : Int), .string (strOfNums (part.drop k)), .string (⟨#[]⟩ : ByteArray), .slice none 0 0]] (by rfl) rfl rfl (by (try simp only [uh, ui, uj]); first | done | rfl) ?_
    refine (recOK_p (r := false) hok HID.out (show FitD (⟨#[]⟩ : ByteArray) [] from ⟨Nat.zero_le _, Nat.zero_le _, fun x hx => by simp at hx⟩) (Kd.S_reads' HSn.out).2.2 (Kd.S_reads' HSn.out).2.1).mono ?_
    rintro e w4 ⟨rfl, hb_⟩
    refine ⟨_, rfl, ?_⟩
    have O0 := z1o.mk (zb N0.out hb_)
    have O1 := z1o.mk (zb N1.out hb_)
    have HBo := z1o.mk (za HBn.out hb_)
    have HSo := z1o.mk (Kd.S_below HSn.out hb_)
    clear hb_ hok
    refine hK.out _ _ ⟨(z6 O1.out 0).trans rfl, (z6 O1.out 1).trans rfl, (z6 O1.out 2).trans rfl, (z6 O1.out 3).trans rfl, (z6 O1.out 4).trans rfl, CV.out (Kd.C_below HR6c.out HBo.out)⟩ (fun hHeld => ?_)
    clear hK K
    refine norm_ (a' := ?_) ?_ ?_
    rotate_left
    ·show Act.put _ (some 95) _ = _
     simp only [Act.put, ub, uc, ud, zn, zo]
     rfl
    refine pure_ (i := 2) (N := some 96) (v := ?_) (a' := ?_) #[true, true, true, false, false, false, false, false, false, false, false, false, false, false] rfl rfl (any_of HT_.out (by kernel_rfl)) (fun _ _ _ h => h) (Or.inl ⟨by rfl, ?_⟩) ?_ ?_
    rotate_left
    ·intro w'
     go_simp
     with_reducible rfl
    rotate_left
    ·simp only [Act.put, ub, uc, ud, zn, zo]
     rfl
    refine pure_ (i := 3) (N := some 97) (v := ?_) (a' := ?_) #[true, true, true, true, false, false, false, false, false, false, false, false, false, false] rfl rfl (any_of HT_.out (by kernel_rfl)) (fun _ _ _ h => h) (Or.inl ⟨by rfl, ?_⟩) ?_ ?_
    rotate_left
    ·intro w'
     go_simp
     with_reducible rfl
    rotate_left
    ·simp only [Act.put, ub, uc, ud, zn, zo]
     rfl
    refine pure_ (i := 4) (N := some 98) (v := undef) (a' := ?_) #[true, true, true, true, true, false, false, false, false, false, false, false, false, false] rfl rfl (any_of HT_.out (by kernel_rfl)) (fun _ _ _ h => h) (Or.inr ⟨by rfl, rfl⟩) ?_ ?_
    rotate_left
    ·simp only [Act.put, ub, uc, ud, zn, zo]
     rfl
    refine pure_ (i := 5) (N := some 99) (v := undef) (a' := ?_) #[true, true, true, true, true, true, false, false, false, false, false, false, false, false] rfl rfl (any_of HT_.out (by kernel_rfl)) (fun _ _ _ h => h) (Or.inr ⟨by rfl, rfl⟩) ?_ ?_
    rotate_left
    ·simp only [Act.put, ub, uc, ud, zn, zo]
     rfl
    refine pure_ (i := 6) (N := some 100) (v := undef) (a' := ?_) #[true, true, true, true, true, true, true, false, false, false, false, false, false, false] rfl rfl (any_of HT_.out (by kernel_rfl)) (fun _ _ _ h => h) (Or.inr ⟨by rfl, rfl⟩) ?_ ?_
    rotate_left
    ·simp only [Act.put, ub, uc, ud, zn, zo]
     rfl
    refine pure_ (i := 7) (N := some 101) (v := undef) (a' := ?_) #[true, true, true, true, true, true, true, true, false, false, false, false, false, false] rfl rfl (any_of HT_.out (by kernel_rfl)) (fun _ _ _ h => h) (Or.inr ⟨by rfl, rfl⟩) ?_ ?_
    rotate_left
    ·simp only [Act.put, ub, uc, ud, zn, zo]
     rfl
    refine pure_ (i := 8) (N := some 102) (v := undef) (a' := ?_) #[true, true, true, true, true, true, true, true, true, false, false, false, false, false] rfl rfl (any_of HT_.out (by kernel_rfl)) (fun _ _ _ h => h) (Or.inr ⟨by rfl, rfl⟩) ?_ ?_
    rotate_left
    ·simp only [Act.put, ub, uc, ud, zn, zo]
     rfl
    refine pure_ (i := 9) (N := some 103) (v := undef) (a' := ?_) #[true, true, true, true, true, true, true, true, true, true, false, false, false, false] rfl rfl (any_of HT_.out (by kernel_rfl)) (fun _ _ _ h => h) (Or.inr ⟨by rfl, rfl⟩) ?_ ?_
    rotate_left
    ·simp only [Act.put, ub, uc, ud, zn, zo]
     rfl
    refine pure_ (i := 10) (N := some 104) (v := undef) (a' := ?_) #[true, true, true, true, true, true, true, true, true, true, true, false, false, false] rfl rfl (any_of HT_.out (by kernel_rfl)) (fun _ _ _ h => h) (Or.inr ⟨by rfl, rfl⟩) ?_ ?_
    rotate_left
    ·simp only [Act.put, ub, uc, ud, zn, zo]
     rfl
    refine pure_ (i := 11) (N := some 105) (v := undef) (a' := ?_) #[true, true, true, true, true, true, true, true, true, true, true, true, false, false] rfl rfl (any_of HT_.out (by kernel_rfl)) (fun _ _ _ h => h) (Or.inr ⟨by rfl, rfl⟩) ?_ ?_
    rotate_left
    ·simp only [Act.put, ub, uc, ud, zn, zo]
     rfl
    refine pure_ (i := 12) (N := some 106) (v := undef) (a' := ?_) #[true, true, true, true, true, true, true, true, true, true, true, true, true, false] rfl rfl (any_of HT_.out (by kernel_rfl)) (fun _ _ _ h => h) (Or.inr ⟨by rfl, rfl⟩) ?_ ?_
    rotate_left
    ·simp only [Act.put, ub, uc, ud, zn, zo]
     rfl
    refine pure_ (i := 13) (N := some 107) (v := ?_) (a' := ?_) #[true, true, true, true, true, true, true, true, true, true, true, true, true, true] rfl rfl (any_of HT_.out (by kernel_rfl)) (fun _ _ _ h => h) (Or.inl ⟨by rfl, ?_⟩) ?_ ?_
    rotate_left
    ·intro w'
     go_simp
     with_reducible rfl
    rotate_left
    ·simp only [Act.put, ub, uc, ud, zn, zo]
     rfl
    refine done_ (done_of HT_.out (by kernel_rfl)) ?_
    obtain ⟨g_0, g_1, g_2, g_3, g_4⟩ := bkz O0.out
    have fg_ := z5 O0.out
    obtain ⟨u_0, u_1, u_2, u_3, u_4⟩ := bk5 O1.out
    have fu_ := z5 O1.out
    go_wp2_with fail
    refine bodyPost_ret (results_ctt rfl _ _ w.heap.size 47 #[.int .i64 kd, .int .i64 (seq : Int), .string (strOfNums (part.drop k)), .string (⟨#[]⟩ : ByteArray), .slice none 0 0] (0, 0) _ rfl (put5 O0.out _ _ _ _ _) Try.underlying47 rfl (by kernel_rfl)) rfl ?_
    rw [EQ.out]
    exact ⟨_, rfl, far5 HSo.out LT2.out _ _ _ _ _, set5 HBo.out⟩
   refine one_ (i := 1) (N := some 95) #[true, true, false, false, false, false, false, false, false, false, false, false, false, false] rfl rfl (one_of HT_.out (by kernel_rfl)) (by decide) (fun K hK => ?_)
   refine goes_ Try.func60 (by kernel_rfl) rfl #[.agg #[.int .i64 kd, .int .i64 (seq : Int), .string (strOfNums (part.drop k)), .string (⟨#[]⟩ : ByteArray), .slice none 0 0]] (by rfl) rfl rfl (by (try simp only [uh, ui, uj]); first | done | rfl) ?_
   refine (recOK_p (r := true) hok HID.out (show FitD (⟨#[]⟩ : ByteArray) [] from ⟨Nat.zero_le _, Nat.zero_le _, fun x hx => by simp at hx⟩) (Kd.S_reads' HSn.out).2.2 (Kd.S_reads' HSn.out).2.1).mono ?_
   rintro e w4 ⟨rfl, hb_⟩
   refine ⟨_, rfl, ?_⟩
   have O0 := z1o.mk (zb N0.out hb_)
   have O1 := z1o.mk (zb N1.out hb_)
   have HBo := z1o.mk (za HBn.out hb_)
   have HSo := z1o.mk (Kd.S_below HSn.out hb_)
   clear hb_
   have HOK := z1o.mk hok
   clear hok
   refine hK.out _ _ ⟨(z6 O1.out 0).trans rfl, (z6 O1.out 1).trans rfl, (z6 O1.out 2).trans rfl, (z6 O1.out 3).trans rfl, (z6 O1.out 4).trans rfl, CV.out (Kd.C_below HR6c.out HBo.out)⟩ (fun hHeld => ?_)
   clear hK K
   refine norm_ (a' := ?_) ?_ ?_
   rotate_left
   ·show Act.put _ (some 95) _ = _
    simp only [Act.put, ub, uc, ud, zn, zo]
    rfl
   refine pure_ (i := 2) (N := some 96) (v := ?_) (a' := ?_) #[true, true, true, false, false, false, false, false, false, false, false, false, false, false] rfl rfl (any_of HT_.out (by kernel_rfl)) (fun _ _ _ h => h) (Or.inl ⟨by rfl, ?_⟩) ?_ ?_
   rotate_left
   ·intro w'
    go_simp
    with_reducible rfl
   rotate_left
   ·simp only [Act.put, ub, uc, ud, zn, zo]
    rfl
   refine pure_ (i := 3) (N := some 97) (v := ?_) (a' := ?_) #[true, true, true, true, false, false, false, false, false, false, false, false, false, false] rfl rfl (any_of HT_.out (by kernel_rfl)) (fun _ _ _ h => h) (Or.inl ⟨by rfl, ?_⟩) ?_ ?_
   rotate_left
   ·intro w'
    go_simp
    with_reducible rfl
   rotate_left
   ·simp only [Act.put, ub, uc, ud, zn, zo]
    rfl
   refine pure_ (i := 7) (N := some 101) (v := ?_) (a' := ?_) #[true, true, true, true, false, false, false, true, false, false, false, false, false, false] rfl rfl (any_of HT_.out (by kernel_rfl)) (fun _ _ _ h => h) (Or.inl ⟨by rfl, ?_⟩) ?_ ?_
   rotate_left
   ·intro w'
    go_simp
    with_reducible rfl
   rotate_left
   ·simp only [Act.put, ub, uc, ud, zn, zo]
    rfl
   refine pure_ (i := 8) (N := some 102) (v := ?_) (a' := ?_) #[true, true, true, true, false, false, false, true, true, false, false, false, false, false] rfl rfl (any_of HT_.out (by kernel_rfl)) (fun _ _ _ h => h) (Or.inl ⟨by rfl, ?_⟩) ?_ ?_
   rotate_left
   ·intro w'
    go_simp
    with_reducible rfl
   rotate_left
   ·simp only [Act.put, ub, uc, ud, zn, zo]
    rfl
   refine pure_ (i := 9) (N := some 103) (v := ?_) (a' := ?_) #[true, true, true, true, false, false, false, true, true, true, false, false, false, false] rfl rfl (any_of HT_.out (by kernel_rfl)) (fun _ _ _ h => h) (Or.inl ⟨by rfl, ?_⟩) ?_ ?_
   rotate_left
   ·intro w'
    go_simp
    with_reducible rfl
   rotate_left
   ·simp only [Act.put, ub, uc, ud, zn, zo]
    rfl
   refine pure_ (i := 10) (N := some 104) (v := ?_) (a' := ?_) #[true, true, true, true, false, false, false, true, true, true, true, false, false, false] rfl rfl (any_of HT_.out (by kernel_rfl)) (fun _ _ _ h => h) (Or.inl ⟨by rfl, ?_⟩) ?_ ?_
   rotate_left
   ·intro w'
    go_simp
    with_reducible rfl
   rotate_left
   ·simp only [Act.put, ub, uc, ud, zn, zo]
    rfl
   refine take_ (i := 11) (N := some 105) (v := ?_) (a' := ?_) #[true, true, true, true, false, false, false, true, true, true, true, true, false, false] rfl rfl (take_ofW HT_.out HW_.out (by kernel_rfl)) (fun _ _ _ h => h) (Or.inl ⟨by rfl, ?_⟩) hHeld ?_ ?_
   rotate_left
   ·rintro w' ⟨s0, s1, s2, s3, s4, s5⟩
    go_simp
    with_reducible rfl
   rotate_left
   ·simp only [Act.put, ub, uc, ud, zn, zo]
    rfl
   refine take_ (i := 4) (N := some 98) (v := ?_) (a' := ?_) #[true, true, true, true, true, false, false, true, true, true, true, true, false, false] rfl rfl (take_ofW HT_.out HW_.out (by kernel_rfl)) (fun _ _ _ h => h) (Or.inl ⟨by rfl, ?_⟩) hHeld ?_ ?_
   rotate_left
   ·rintro w' ⟨s0, s1, s2, s3, s4, s5⟩
    go_simp
    with_reducible rfl
   rotate_left
   ·simp only [Act.put, ub, uc, ud, zn, zo]
    rfl
   refine one_ (i := 5) (N := some 99) #[true, true, true, true, true, true, false, true, true, true, true, true, false, false] rfl rfl (one_of HT_.out (by kernel_rfl)) (by decide) (fun K hK => ?_)
   refine goes_ Try.func61 (by kernel_rfl) rfl #[.agg #[.int .i64 kd, .int .i64 (seq : Int), .string (strOfNums (part.drop k)), .string (⟨#[]⟩ : ByteArray), .slice none 0 0]] (by rfl) rfl rfl (by (try simp only [uh, ui, uj]); first | done | rfl) ?_
   refine (recBytesL_p HOK.out rfl HID.out (show FitD (⟨#[]⟩ : ByteArray) [] from ⟨Nat.zero_le _, Nat.zero_le _, fun x hx => by simp at hx⟩) (Kd.S_reads' HSo.out).2.2 (Kd.S_reads' HSo.out).2.1).mono ?_
   rintro e w5 ⟨v5, rfl, hR5, hb_⟩
   refine ⟨_, rfl, ?_⟩
   have P0 := z1o.mk (zb O0.out hb_)
   have P1 := z1o.mk (zb O1.out hb_)
   have HBp := z1o.mk (za HBo.out hb_)
   have HSp := z1o.mk (Kd.S_below HSo.out hb_)
   have HR5 := z1o.mk (Kd.R_lower hR5 HBo.out.size)
   clear hb_ hR5
   refine hK.out _ _ ⟨(z6 P1.out 0).trans rfl, (z6 P1.out 1).trans rfl, (z6 P1.out 2).trans rfl, (z6 P1.out 3).trans rfl, (z6 P1.out 4).trans rfl, CV.out (Kd.C_below HR6c.out HBp.out)⟩ (fun hHeld => ?_)
   clear hK K
   refine norm_ (a' := ?_) ?_ ?_
   rotate_left
   ·show Act.put _ (some 99) _ = _
    simp only [Act.put, ub, uc, ud, zn, zo]
    rfl
   refine one_ (i := 6) (N := some 100) #[true, true, true, true, true, true, true, true, true, true, true, true, false, false] rfl rfl (one_of HT_.out (by kernel_rfl)) (by decide) (fun K hK => ?_)
   have hcv71 := own_string (P := Try.prog) Try.underlying26 Try.underlying5 Try.underlying9 (Kd.own_of_R HR5.out)
   refine value_ (w1 := ?_) (v := ?_) (by rfl) rfl ?_ ?_
   rotate_left 2
   ·go_simp
    constructor
    ·rfl
    ·rfl
   clear hcv71
   refine hK.out _ _ ⟨(z6 P1.out 0).trans rfl, (z6 P1.out 1).trans rfl, (z6 P1.out 2).trans rfl, (z6 P1.out 3).trans rfl, (z6 P1.out 4).trans rfl, CV.out (Kd.C_below HR6c.out HBp.out)⟩ (fun hHeld => ?_)
   clear hK K
   refine norm_ (a' := ?_) ?_ ?_
   rotate_left
   ·show Act.put _ (some 100) _ = _
    simp only [Act.put, ub, uc, ud, zn, zo]
    rfl
   by_cases h9 : recB (kd, (seq : Int), strOfNums (part.drop k), (⟨#[]⟩ : ByteArray), ([] : List S84)) = xs
   ·have e9 : ((strOfNums (recB (kd, (seq : Int), strOfNums (part.drop k), (⟨#[]⟩ : ByteArray), ([] : List S84)))).toList == (strOfNums xs).toList) = true := by rw [h9]; simp
    have e9b : ((strOfNums (recB (kd, (seq : Int), strOfNums (part.drop k), (⟨#[]⟩ : ByteArray), ([] : List S84)))).toList != (strOfNums xs).toList) = false := by rw [h9]; simp
    have EQ : z1o (lNext b p (seq : Int) = ((kd, (seq : Int), strOfNums (part.drop k), (⟨#[]⟩ : ByteArray), ([] : List S84)), ((q + n + 4 : Nat) : Int), true)) := z1o.mk (ELN.out.trans (if_pos ⟨HOK.out, by rw [← HX.out]; exact h9⟩))
    clear h9
    refine pure_ (i := 12) (N := some 106) (v := ?_) (a' := ?_) #[true, true, true, true, true, true, true, true, true, true, true, true, true, false] rfl rfl (any_of HT_.out (by kernel_rfl)) (fun _ _ _ h => h) (Or.inl ⟨by rfl, ?_⟩) ?_ ?_
    rotate_left
    ·intro w'
     go_simp
     with_reducible rfl
    rotate_left
    ·simp only [Act.put, ub, uc, ud, zn, zo]
     rfl
    refine pure_ (i := 13) (N := some 107) (v := ?_) (a' := ?_) #[true, true, true, true, true, true, true, true, true, true, true, true, true, true] rfl rfl (any_of HT_.out (by kernel_rfl)) (fun _ _ _ h => h) (Or.inl ⟨by rfl, ?_⟩) ?_ ?_
    rotate_left
    ·intro w'
     go_simp
     with_reducible rfl
    rotate_left
    ·simp only [Act.put, ub, uc, ud, zn, zo]
     rfl
    refine done_ (done_of HT_.out (by kernel_rfl)) ?_
    obtain ⟨g_0, g_1, g_2, g_3, g_4⟩ := bkz P0.out
    have fg_ := z5 P0.out
    obtain ⟨u_0, u_1, u_2, u_3, u_4⟩ := bk5 P1.out
    have fu_ := z5 P1.out
    go_wp2_with fail
    refine bodyPost_ret (results_ctt rfl _ _ w.heap.size 47 #[.int .i64 kd, .int .i64 (seq : Int), .string (strOfNums (part.drop k)), .string (⟨#[]⟩ : ByteArray), .slice none 0 0] (0, 0) _ rfl (put5 P0.out _ _ _ _ _) Try.underlying47 rfl (by kernel_rfl)) rfl ?_
    rw [EQ.out]
    exact ⟨_, rfl, far5 HSp.out LT2.out _ _ _ _ _, set5 HBp.out⟩
   ·have e9 : ((strOfNums (recB (kd, (seq : Int), strOfNums (part.drop k), (⟨#[]⟩ : ByteArray), ([] : List S84)))).toList == (strOfNums xs).toList) = false := beq_eq_false_iff_ne.mpr (fun h_ => h9 (strOf_inj (recB_isB _) HB6.out h_))
    have e9b : ((strOfNums (recB (kd, (seq : Int), strOfNums (part.drop k), (⟨#[]⟩ : ByteArray), ([] : List S84)))).toList != (strOfNums xs).toList) = true := bne_iff_ne.mpr (fun h_ => h9 (strOf_inj (recB_isB _) HB6.out h_))
    have EQ : z1o (lNext b p (seq : Int) = ((kd, (seq : Int), strOfNums (part.drop k), (⟨#[]⟩ : ByteArray), ([] : List S84)), 0, false)) := z1o.mk (ELN.out.trans (lFin_no (fun h_ => h9 (by rw [HX.out]; exact h_.2))))
    clear h9
    refine pure_ (i := 12) (N := some 106) (v := ?_) (a' := ?_) #[true, true, true, true, true, true, true, true, true, true, true, true, true, false] rfl rfl (any_of HT_.out (by kernel_rfl)) (fun _ _ _ h => h) (Or.inl ⟨by rfl, ?_⟩) ?_ ?_
    rotate_left
    ·intro w'
     go_simp
     with_reducible rfl
    rotate_left
    ·simp only [Act.put, ub, uc, ud, zn, zo]
     rfl
    refine pure_ (i := 13) (N := some 107) (v := ?_) (a' := ?_) #[true, true, true, true, true, true, true, true, true, true, true, true, true, true] rfl rfl (any_of HT_.out (by kernel_rfl)) (fun _ _ _ h => h) (Or.inl ⟨by rfl, ?_⟩) ?_ ?_
    rotate_left
    ·intro w'
     go_simp
     with_reducible rfl
    rotate_left
    ·simp only [Act.put, ub, uc, ud, zn, zo]
     rfl
    refine done_ (done_of HT_.out (by kernel_rfl)) ?_
    obtain ⟨g_0, g_1, g_2, g_3, g_4⟩ := bkz P0.out
    have fg_ := z5 P0.out
    obtain ⟨u_0, u_1, u_2, u_3, u_4⟩ := bk5 P1.out
    have fu_ := z5 P1.out
    go_wp2_with fail
    refine bodyPost_ret (results_ctt rfl _ _ w.heap.size 47 #[.int .i64 kd, .int .i64 (seq : Int), .string (strOfNums (part.drop k)), .string (⟨#[]⟩ : ByteArray), .slice none 0 0] (0, 0) _ rfl (put5 P0.out _ _ _ _ _) Try.underlying47 rfl (by kernel_rfl)) rfl ?_
    rw [EQ.out]
    exact ⟨_, rfl, far5 HSp.out LT2.out _ _ _ _ _, set5 HBp.out⟩
def sliceS {α : Type} (e : Nat) (d : Kd α) : Kd (List α) where
 sz := 1
 E := e :: d.E
 K := fun w xs cs => ∃ A c, cs = [.slice A xs.length c] ∧ xs.length ≤ c ∧ d.C w A xs.length xs
 M := fun w base ok xs cs => ∃ v, cs = [v] ∧ Kd.S d e w base ok v xs
 K_len := by
  rintro w x cs ⟨A, c, rfl, _⟩
  rfl
 K_one := by
  rintro w x cs ⟨A, c, rfl, _⟩ u hu
  rw [List.mem_singleton.1 hu]
  rfl
 K_below := by
  rintro w w1 x cs hb ⟨A, c, rfl, hl, hr⟩
  exact ⟨A, c, rfl, hl, Kd.C_below hr hb⟩
 K_of_M := by
  rintro w base ok x cs ⟨v, rfl, h⟩
  obtain ⟨A, c, rfl, hl, hr⟩ := Kd.S_reads h
  exact ⟨A, c, rfl, hl, hr⟩
 M_mono := by
  rintro w base ok ok' x cs hok ⟨v, rfl, h⟩
  exact ⟨v, rfl, Kd.S_mono h hok⟩
 M_bound := by
  rintro w base ok x cs ⟨v, rfl, h⟩
  exact ⟨v, rfl, Kd.S_bound h⟩
 M_move := by
  rintro w w1 base ok x cs hm ⟨v, rfl, h⟩
  exact ⟨v, rfl, Kd.S_move h hm⟩
 M_lower := by
  rintro w base base' ok x cs hb ⟨v, rfl, h⟩
  exact ⟨v, rfl, Kd.S_lower h hb⟩
def kD31 : Kd S31 := Kd.iso (Kd.pair Kd.string (sliceS 84 k84)) (fun x : S31 => (x.f0, x.f1))
def kD47 : Kd S47 := Kd.iso (Kd.pair (Kd.int .i64) (Kd.pair (Kd.int .i64) (Kd.pair Kd.string kD31))) (fun x : S47 => (x.f0, x.f1, x.f2, x.f3))
theorem kD47_C {w : World} {A : Option Addr} {n : Nat} {xs : List S47} (h : kD47.C w A n xs) : k47.C w A n xs := h
theorem kD47_openM {w : World} {base : Nat} {ok : Nat → Prop} {x : S47} {cs : List Value} (h : kD47.M w base ok x cs) : ∃ v4, cs = [.int .i64 x.f0, .int .i64 x.f1, .string x.f2, .string x.f3.f0, v4] ∧ Kd.S k84 84 w base ok v4 x.f3.f1 := by
 obtain ⟨_, _, rfl, rfl, ⟨_, _, rfl, rfl, ⟨_, _, rfl, rfl, ⟨_, _, rfl, rfl, ⟨v4, rfl, g4⟩⟩⟩⟩⟩ := h
 exact ⟨v4, rfl, g4⟩
theorem kD47_mkM (w : World) (base : Nat) (ok : Nat → Prop) (x : S47) {v4 : Value} (g4 : Kd.S k84 84 w base ok v4 x.f3.f1) : kD47.M w base ok x [.int .i64 x.f0, .int .i64 x.f1, .string x.f2, .string x.f3.f0, v4] :=
 ⟨[.int .i64 x.f0], [.int .i64 x.f1, .string x.f2, .string x.f3.f0, v4], rfl, rfl, ⟨[.int .i64 x.f1], [.string x.f2, .string x.f3.f0, v4], rfl, rfl, ⟨[.string x.f2], [.string x.f3.f0, v4], rfl, rfl, ⟨[.string x.f3.f0], [v4], rfl, rfl, ⟨v4, rfl, g4⟩⟩⟩⟩⟩
def toS47 (r : RecT) : S47 := ⟨r.1, r.2.1, r.2.2.1, ⟨r.2.2.2.1, r.2.2.2.2⟩⟩
def runLog (step : Nat → Nat → Option (S47 × Nat)) : Nat → Nat → List S47 → List S47 × Nat
 | 0, p, out => (out, p)
 | f + 1, p, out => match step p out.length with
  | none => (out, p)
  | some x => runLog step f x.2 (out ++ [x.1])
theorem runLog_none {step : Nat → Nat → Option (S47 × Nat)} {f p : Nat} {out : List S47} (h : step p out.length = none) : runLog step (f + 1) p out = (out, p) := by
 rw [runLog, h]
theorem runLog_some {step : Nat → Nat → Option (S47 × Nat)} {f p : Nat} {out : List S47} {x : S47 × Nat} (h : step p out.length = some x) : runLog step (f + 1) p out = runLog step f x.2 (out ++ [x.1]) := by
 rw [runLog, h]
noncomputable def oStep (b : List Int) (p cnt : Nat) : Option (S47 × Nat) := if (oRec (b.drop p)).2 = 0 ∨ (oRec (b.drop p)).1.2.1 ≠ (cnt : Int) + 1 then none else some (toS47 (oRec (b.drop p)).1, p + (oRec (b.drop p)).2.toNat)
noncomputable def lStep (b : List Int) (p cnt : Nat) : Option (S47 × Nat) := if (lNext b p ((cnt : Int) + 1)).2.2 = true then some (toS47 (lNext b p ((cnt : Int) + 1)).1, (lNext b p ((cnt : Int) + 1)).2.1.toNat) else none
theorem oFin_bound (b : List Int) (r : RecT) : 0 ≤ (oFin b r).2 ∧ (oFin b r).2 ≤ b.length := by
 unfold oFin
 split
 ·rename_i h
  exact ⟨Int.natCast_nonneg _, by have := h.2.1; show ((_ : Nat) : Int) ≤ _; omega⟩
 ·exact ⟨Int.le_refl _, Int.natCast_nonneg _⟩
theorem oRec_bound (b : List Int) : 0 ≤ (oRec b).2 ∧ (oRec b).2 ≤ b.length := by
 have hz : 0 ≤ ((zRec, (0 : Int)) : RecT × Int).2 ∧ ((zRec, (0 : Int)) : RecT × Int).2 ≤ b.length := ⟨Int.le_refl _, Int.natCast_nonneg _⟩
 cases hg : getB b 0 with
 | none => rw [oRec_none hg]; exact hz
 | some x =>
  obtain ⟨n, q⟩ := x
  by_cases h1 : Roomy b n q
  ·cases h4 : getB (partAt b n q) 1 with
   | none => rw [oRec_noseq hg h1 h4]; exact hz
   | some y =>
    obtain ⟨seq, k⟩ := y
    cases h5 : oBody (partAt b n q) seq k with
    | none => rw [oRec_nobody hg h1 h4 h5]; exact hz
    | some r => rw [oRec_some hg h1 h4 h5]; exact oFin_bound b r
  ·rw [oRec_small hg h1]; exact hz
theorem lNext_bound (b : List Int) (p : Nat) (s : Int) (h : (lNext b p s).2.2 = true) : (p : Int) < (lNext b p s).2.1 ∧ (lNext b p s).2.1 ≤ b.length := by
 have hno : ∀ (r : RecT), ¬ ((r, (0 : Int), false) : RecT × Int × Bool).2.2 = true := fun r h => by simp at h
 unfold lNext at h ⊢
 cases hg : getB b p with
 | none => rw [hg] at h; exact absurd h (hno _)
 | some x =>
  obtain ⟨n, q⟩ := x
  have hle := getB_le b p hg
  rw [hg] at h
  replace h : (if Roomy b n q then _ else _ : RecT × Int × Bool).2.2 = true := h
  show (p : Int) < (if Roomy b n q then _ else _ : RecT × Int × Bool).2.1 ∧ (if Roomy b n q then _ else _ : RecT × Int × Bool).2.1 ≤ _
  by_cases h1 : Roomy b n q
  ·rw [if_pos h1] at h ⊢
   cases h4 : getB (partAt b n q) 1 with
   | none => rw [h4] at h; exact absurd h (hno _)
   | some y =>
    obtain ⟨seq, k⟩ := y
    rw [h4] at h
    replace h : (if (seq : Int) = s then _ else _ : RecT × Int × Bool).2.2 = true := h
    show (p : Int) < (if (seq : Int) = s then _ else _ : RecT × Int × Bool).2.1 ∧ (if (seq : Int) = s then _ else _ : RecT × Int × Bool).2.1 ≤ _
    by_cases h5 : (seq : Int) = s
    ·rw [if_pos h5] at h ⊢
     by_cases h6 : (lBody (partAt b n q) s k).2 = true
     ·rw [if_pos h6] at h ⊢
      unfold lFin at h ⊢
      split at h
      ·rename_i h7
       rw [if_pos h7]
       have h2 := h1.2
       have h3 := hle.2.1
       exact ⟨by show (p : Int) < ((q + n + 4 : Nat) : Int); omega, by show ((q + n + 4 : Nat) : Int) ≤ _; omega⟩
      ·exact absurd h (hno _)
     ·rw [if_neg h6] at h; exact absurd h (hno _)
    ·rw [if_neg h5] at h; exact absurd h (hno _)
  ·rw [if_neg h1] at h; exact absurd h (hno _)
theorem oRecord_p {A : Option Addr} {c m : Nat} {b : List Int} {w : World} {kd sq n : Int} {id did : ByteArray} {ds : List S84} (hz : oRec b = ((kd, sq, id, did, ds), n)) (hm : b.length = m) (hr : Kd.C (Kd.int .u8) w A b.length b) (hc : m ≤ c) (hb : IsB b) (hl : m ≤ 1048576) :
  Calls Try.prog 72 #[.slice A m c] w fun e w' => ∃ v : Value, e = .returned (.tuple #[.agg #[.int .i64 kd, .int .i64 sq, .string id, .string did, v], .int .i64 n]) ∧ Kd.S k84 84 w' w.heap.size (fun _ => True) v ds ∧ Below w.heap.size w w' := by
 subst hm
 have h := oRecord_all A c b w hr hc hb hl
 rw [hz] at h
 exact h
def LogPost (w : World) (xs : List S47) (p : Nat) (code : Int) (e : Ending) (w' : World) : Prop := ∃ v : Value, e = .returned (.tuple #[v, .int .i64 (p : Int), .int .i64 code]) ∧ Kd.S kD47 47 w' w.heap.size (fun _ => True) v xs ∧ Below w.heap.size w w'
theorem size_al (w : World) (o : Obj) : w.heap.size + 1 = (w.alloc o).heap.size := by simp
theorem name_world {α : Type} {d : Kd α} {e base : Nat} {W : World} {ok : Nat → Prop} {v : Value} {xs : List α} (_h : z1o (Kd.S d e W base ok v xs)) : ∃ wr : World, wr = W := ⟨_, rfl⟩
set_option maxHeartbeats 8000000 in
set_option maxRecDepth 100000 in
theorem readLog_all (A0 : Option Addr) (c0 : Nat) (b : List Int) (w : World) (hr0 : Kd.C (Kd.int .u8) w A0 b.length b) (hc0 : b.length ≤ c0) (hb : IsB b) (hl : b.length ≤ 1048576) (R : List S47 × Nat) (hR : runLog (oStep b) (b.length + 1) 0 [] = R) :
  Calls Try.prog 29 #[.slice A0 b.length c0] w (LogPost w R.1 R.2 0) := by
 have hu47 := Try.underlying47
 have hu31 := Try.underlying31
 have HR := z1o.mk hr0
 have HC := z1o.mk hc0
 have HIB := z1o.mk hb
 have HRR := z1o.mk hR
 have HB := z1o.mk (Below.refl w.heap.size w)
 clear hr0 hc0 hb hR
 have k1 : decide (1048576 < (b.length : Int)) = false := decide_eq_false (by omega)
 go_enter Try.func29, Try.ntmps29
 go_wp2_with fail
 go_loopg [5, 6] (b.length + 1) (fun kq v5 v6 w' => ∃ (xs : List S47) (p : Nat), v6 = .int .i64 (p : Int) ∧ z1o (p ≤ b.length) ∧ z1o (xs.length ≤ p) ∧ z1o (b.length + 1 ≤ kq + p) ∧ z1o (runLog (oStep b) kq p xs = R) ∧ z1o (Kd.S kD47 47 w' w.heap.size (fun _ => True) v5 xs) ∧ z1o (Below w.heap.size w w'))
 case atStart => exact ⟨[], 0, rfl, ⟨Nat.zero_le _⟩, ⟨Nat.zero_le _⟩, ⟨by omega⟩, HRR, ⟨Kd.S_nil _ _ _ _ _⟩, HB⟩
 case round =>
  clear HRR HB
  obtain ⟨xs, p, rfl, HP, HXP, HF, HRR, HO, HB⟩ := hrel
  obtain ⟨wr, hwr⟩ := name_world HO
  subst hwr
  have hp := HP.out
  have hxp := HXP.out
  obtain ⟨f', ef⟩ : ∃ f', gk = f' + 1 := ⟨gk - 1, by have := HF.out; omega⟩
  subst ef
  obtain ⟨⟨⟨kd, sq, id, did, ds⟩, n⟩, hz⟩ : ∃ z, oRec (b.drop p) = z := ⟨_, rfl⟩
  have hbd := oRec_bound (b.drop p)
  rw [hz, uf] at hbd
  obtain ⟨n0, n1⟩ : 0 ≤ n ∧ n ≤ ((b.length - p : Nat) : Int) := hbd
  have HST : z1o (oStep b p xs.length = if n = 0 ∨ sq ≠ ((xs.length : Nat) : Int) + 1 then none else some (toS47 (kd, sq, id, did, ds), p + n.toNat)) := z1o.mk (by unfold oStep; rw [hz])
  have HZ := z1o.mk hz
  clear hz
  obtain ⟨i0, hi0, -, hsz, -⟩ := info_parts info5
  obtain ⟨A3, hcut3, hA3, hC3⟩ := z1u (P := Try.prog) (Value.int .u8) 0 26 5 .i64 Try.underlying26 hi0 hsz A0 c0 b (p : Int) (by omega) (by omega) HC.out
  have el : (b.drop ((p : Int)).toNat).length = b.length - p := by rw [Int.toNat_natCast, uf]
  rw [el] at hcut3 hC3
  rw [Int.toNat_natCast] at hcut3 hC3 hA3
  have HRD : z1o (Kd.C (Kd.int .u8) w A3 (b.drop p).length (b.drop p)) := z1o.mk (Kd.C_of_reads (h1 := fun _ => rfl) (hA3 w (Kd.reads_of_C HR.out)))
  have HCD := z1o.mk hC3
  have HLD := z1o.mk (show (b.drop p).length = b.length - p by rw [uf])
  have HBD := z1o.mk (isB_drop HIB.out p)
  clear hA3 hC3 el hi0 hsz i0
  obtain ⟨Ax, cx, ex⟩ := Kd.S_slice HO.out
  subst ex
  by_cases k2 : n = 0
  ·have h2 := HST.out
   rw [if_pos (Or.inl k2)] at h2
   have h3 := HRR.out
   rw [runLog_none h2] at h3
   subst h3
   subst k2
   clear HST HRR h2
   go_wp2_with fail
   go_at_call 72
   refine (oRecord_p HZ.out HLD.out (Kd.C_below HRD.out HB.out) HCD.out HBD.out (by omega)).mono ?_
   rintro e w1 ⟨v1, rfl, hS, hB1⟩
   have HB1 := z1o.mk (za HB.out hB1)
   have HO1 := z1o.mk (Kd.S_below HO.out hB1)
   obtain ⟨A1, c1, e1⟩ := Kd.S_slice hS
   subst e1
   clear hS hB1 HB HO
   go_wp2_with fail
   go_ret3
   exact ⟨_, rfl, Kd.S_alloc HO1.out _, z2 HB1.out _⟩
  ·have k2' : (n == 0) = false := beq_eq_false_iff_ne.mpr k2
   by_cases k3 : sq = ((xs.length : Nat) : Int) + 1
   ·have h2 := HST.out
    rw [if_neg (fun hh => hh.elim k2 (fun h => h k3))] at h2
    have h3 := HRR.out
    rw [runLog_some h2] at h3
    have HR2 := z1o.mk h3
    have k3' : (sq != ((xs.length : Nat) : Int) + 1) = false := by rw [k3]; simp
    have HN2 := z1o.mk k2
    clear HST HRR h2 k2 k3 h3
    go_wp2_with fail
    go_at_call 72
    refine (oRecord_p HZ.out HLD.out (Kd.C_below HRD.out HB.out) HCD.out HBD.out (by omega)).mono ?_
    rintro e w1 ⟨v1, rfl, hS, hB1⟩
    have HB1 := z1o.mk (za HB.out hB1)
    have HW := z1o.mk hB1.size
    have HO0 := z1o.mk (Kd.S_mono (Kd.S_bound HO.out) (fun k_ hk => hk.2.2.1))
    have HO1 := z1o.mk (Kd.S_below HO0.out hB1)
    have HS1 := z1o.mk (Kd.S_span hS HB.out.size)
    obtain ⟨A1, c1, e1⟩ := Kd.S_slice hS
    subst e1
    clear hS hB1 HB HO
    have hc0_ : ∀ j, (w1.alloc (.cells #[.int .i64 kd, .int .i64 sq, .string id, .string did, .slice A1 ds.length c1] 47)).cell? ⟨w1.heap.size, j, none⟩ = #[Value.int .i64 kd, .int .i64 sq, .string id, .string did, .slice A1 ds.length c1][j]? := fun j => z6 (blk_new w1 _) j
    have OKP := z1o.mk (show ∀ k_, (wr.heap.size ≤ k_ ∧ k_ < w1.heap.size) → True ∧ some k_ ≠ (Value.slice Ax xs.length cx).ownBlock from fun k_ hk => ⟨trivial, fun e_ => by have := (Kd.S_R HO1.out).1 k_ e_.symm; have := hk.1; omega⟩)
    have HOA : z1o (Kd.S kD47 47 (w1.alloc (.cells #[.int .i64 kd, .int .i64 sq, .string id, .string did, .slice A1 ds.length c1] 47)) w.heap.size (fun k_ => True ∧ ¬ (wr.heap.size ≤ k_ ∧ k_ < w1.heap.size)) (.slice Ax xs.length cx) xs) := z1o.mk (Kd.S_mono (Kd.S_alloc HO1.out _) (fun k_ hk => ⟨trivial, fun h_ => by have := h_.1; omega⟩))
    have HMA := z1o.mk (kD47_mkM (w1.alloc (.cells #[.int .i64 kd, .int .i64 sq, .string id, .string did, .slice A1 ds.length c1] 47)) w.heap.size (fun k_ => wr.heap.size ≤ k_ ∧ k_ < w1.heap.size) (toS47 (kd, sq, id, did, ds)) (v4 := .slice A1 ds.length c1) (Kd.S_alloc HS1.out _))
    have HBA := z1o.mk (z2 HB1.out (.cells #[.int .i64 kd, .int .i64 sq, .string id, .string did, .slice A1 ds.length c1] 47))
    go_wp2_with (first | ((with_reducible refine zr (b := .append) (xs := #[.tmp 31, .tmp 33]) rfl ?_); (try (refine zu (by rfl) ?_; dsimp only)); at_builtin; refine Kd.S_append kD47 (w0 := w) w.heap.size rfl (.tmp 31) (.tmp 33) 54 47 (.agg #[(.int .i64 0), (.int .i64 0), (.string ⟨#[]⟩), (.string ⟨#[]⟩), (.slice none 0 0)]) 72 rfl Try.underlying54 info47 rfl (by decide) (by omega) (.slice Ax xs.length cx) xs (toS47 (kd, sq, id, did, ds)) [.int .i64 kd, .int .i64 sq, .string id, .string did, .slice A1 ds.length c1] (fun _ => True) (fun k_ => wr.heap.size ≤ k_ ∧ k_ < w1.heap.size) rfl (show Value.slice (some ⟨w1.heap.size + 1, 0, none⟩) 1 1 = _ from congrArg (fun n_ => Value.slice (some ⟨n_, 0, none⟩) 1 1) (size_al w1 _)) ?aP ?aQ ?aF ?aO ?aB ?aS ?aL ?_; (case aP => exact HMA.out); (case aQ => exact OKP.out); (case aF => exact fun _ _ => trivial); (case aO => exact HOA.out); (case aB => exact HBA.out); (case aS => exact HBA.out.size); (case aL => omega); intro v2 w2 ho hb hg hat; (have HO2 := z1o.mk ho); (have HB2 := z1o.mk hb); (clear ho hb hg hat OKP HOA HMA HBA)))
    go_roundg f'
    case measure => omega
    case rel => exact ⟨_, p + n.toNat, by rw [show ((p + n.toNat : Nat) : Int) = (p : Int) + n from by omega], ⟨by omega⟩, ⟨by have := HN2.out; rw [ul, List.length_singleton]; omega⟩, ⟨by have := HN2.out; have := HF.out; omega⟩, HR2, HO2, HB2⟩
   ·have h2 := HST.out
    rw [if_pos (Or.inr k3)] at h2
    have h3 := HRR.out
    rw [runLog_none h2] at h3
    subst h3
    have k3' : (sq != ((xs.length : Nat) : Int) + 1) = true := bne_iff_ne.mpr k3
    clear HST HRR h2 k2 k3
    go_wp2_with fail
    go_at_call 72
    refine (oRecord_p HZ.out HLD.out (Kd.C_below HRD.out HB.out) HCD.out HBD.out (by omega)).mono ?_
    rintro e w1 ⟨v1, rfl, hS, hB1⟩
    have HB1 := z1o.mk (za HB.out hB1)
    have HO1 := z1o.mk (Kd.S_below HO.out hB1)
    obtain ⟨A1, c1, e1⟩ := Kd.S_slice hS
    subst e1
    clear hS hB1 HB HO
    go_wp2_with fail
    go_ret3
    exact ⟨_, rfl, Kd.S_alloc HO1.out _, z2 HB1.out _⟩
theorem lNext_p {A : Option Addr} {c p : Nat} {b : List Int} {w : World} {s kd sq n : Int} {id did : ByteArray} {ds : List S84} {g : Bool} (hz : lNext b p s = ((kd, sq, id, did, ds), n, g)) (hr : Kd.C (Kd.int .u8) w A b.length b) (hc : b.length ≤ c) (hb : IsB b) (hl : b.length ≤ 1048576) (hp : p ≤ b.length) :
  Calls Try.prog 88 #[.slice A b.length c, .int .i64 (p : Int), .int .i64 s] w fun e w' => ∃ v : Value, e = .returned (.tuple #[.agg #[.int .i64 kd, .int .i64 sq, .string id, .string did, v], .int .i64 n, .bool g]) ∧ Kd.S k84 84 w' w.heap.size (fun _ => True) v ds ∧ Below w.heap.size w w' := by
 have h := next_all A c b p s w hr hc hb hl hp
 rw [hz] at h
 exact h
set_option maxHeartbeats 8000000 in
set_option maxRecDepth 100000 in
theorem sreadLog_all (A0 : Option Addr) (c0 : Nat) (b : List Int) (w : World) (hr0 : Kd.C (Kd.int .u8) w A0 b.length b) (hc0 : b.length ≤ c0) (hb : IsB b) (hl : b.length ≤ 1048576) (R : List S47 × Nat) (hR : runLog (lStep b) (b.length + 1) 0 [] = R) :
  Calls Try.prog 44 #[.slice A0 b.length c0] w (LogPost w R.1 R.2 0) := by
 have hu47 := Try.underlying47
 have hu31 := Try.underlying31
 have HR := z1o.mk hr0
 have HC := z1o.mk hc0
 have HIB := z1o.mk hb
 have HRR := z1o.mk hR
 have HB := z1o.mk (Below.refl w.heap.size w)
 clear hr0 hc0 hb hR
 have k1 : decide (1048576 < (b.length : Int)) = false := decide_eq_false (by omega)
 go_enter Try.func44, Try.ntmps44
 go_wp2_with (first | ((with_reducible refine zq (N := 14) rfl ?_); refine Kd.R_lit (Kd.tag (fun _ => 0) kD47) _ 47 ?hg (N := 14) ?hd (xs := ([] : List (S47 × Nat))) (inner := []) (ok := fun _ => True) (okp := fun _ => True) ?hr ?hp (fun _ hk => hk) trivial (Below.refl _ _) (um _) (by simp) ?_; (case hd => rfl); (case hg => rfl); (case hr => first | (go_simp; done) | (go_simp; rfl)); (case hp => exact (Reps.none _ _)); intro v0 w0 ho0 hb0 hg_ hnew_; (have HL0 : z1o (Kd.S kD47 47 w0 w.heap.size (fun _ => True) v0 []) := z1o.mk ⟨fun _ => 0, ho0⟩); (have HB0 := z1o.mk hb0); (clear hg_ hnew_ ho0 hb0)))
 clear HB
 go_loopg [5, 6] (b.length + 1) (fun kq v5 v6 w' => ∃ (xs : List S47) (p : Nat), v6 = .int .i64 (p : Int) ∧ z1o (p ≤ b.length) ∧ z1o (xs.length ≤ p) ∧ z1o (b.length + 1 ≤ kq + p) ∧ z1o (runLog (lStep b) kq p xs = R) ∧ z1o (Kd.S kD47 47 w' w.heap.size (fun _ => True) v5 xs) ∧ z1o (Below w.heap.size w w'))
 case atStart => exact ⟨[], 0, rfl, ⟨Nat.zero_le _⟩, ⟨Nat.zero_le _⟩, ⟨by omega⟩, HRR, HL0, HB0⟩
 case round =>
  clear HRR HL0 HB0
  obtain ⟨xs, p, rfl, HP, HXP, HF, HRR, HO, HB⟩ := hrel
  obtain ⟨wr, hwr⟩ := name_world HO
  subst hwr
  have hp := HP.out
  have hxp := HXP.out
  obtain ⟨f', ef⟩ : ∃ f', gk = f' + 1 := ⟨gk - 1, by have := HF.out; omega⟩
  subst ef
  obtain ⟨⟨⟨kd, sq, id, did, ds⟩, n, g⟩, hz⟩ : ∃ z, lNext b p (((xs.length : Nat) : Int) + 1) = z := ⟨_, rfl⟩
  have hbd := lNext_bound b p (((xs.length : Nat) : Int) + 1)
  rw [hz] at hbd
  have HBD : z1o (g = true → (p : Int) < n ∧ n ≤ b.length) := z1o.mk hbd
  have HST : z1o (lStep b p xs.length = if g = true then some (toS47 (kd, sq, id, did, ds), n.toNat) else none) := z1o.mk (by unfold lStep; rw [hz])
  have HZ := z1o.mk hz
  clear hz hbd
  obtain ⟨Ax, cx, ex⟩ := Kd.S_slice HO.out
  subst ex
  cases g with
  | false =>
   have h2 := HST.out
   rw [if_neg (by simp)] at h2
   have h3 := HRR.out
   rw [runLog_none h2] at h3
   subst h3
   clear HST HRR h2 HBD
   go_wp2_with fail
   go_at_call 88
   refine (lNext_p HZ.out (Kd.C_below HR.out HB.out) HC.out HIB.out hl hp).mono ?_
   rintro e w1 ⟨v1, rfl, hS, hB1⟩
   have HB1 := z1o.mk (za HB.out hB1)
   have HO1 := z1o.mk (Kd.S_below HO.out hB1)
   obtain ⟨A1, c1, e1⟩ := Kd.S_slice hS
   subst e1
   clear hS hB1 HB HO
   go_wp2_with fail
   go_ret3
   exact ⟨_, rfl, Kd.S_alloc HO1.out _, z2 HB1.out _⟩
  | true =>
   have h2 := HST.out
   rw [if_pos rfl] at h2
   obtain ⟨n0, n1⟩ := HBD.out rfl
   have h3 := HRR.out
   rw [runLog_some h2] at h3
   have HR2 := z1o.mk h3
   clear HST HRR h2 h3 HBD
   go_wp2_with fail
   go_at_call 88
   refine (lNext_p HZ.out (Kd.C_below HR.out HB.out) HC.out HIB.out hl hp).mono ?_
   rintro e w1 ⟨v1, rfl, hS, hB1⟩
   have HB1 := z1o.mk (za HB.out hB1)
   have HW := z1o.mk hB1.size
   have HO0 := z1o.mk (Kd.S_mono (Kd.S_bound HO.out) (fun k_ hk => hk.2.2.1))
   have HO1 := z1o.mk (Kd.S_below HO0.out hB1)
   have HS1 := z1o.mk (Kd.S_span hS HB.out.size)
   obtain ⟨A1, c1, e1⟩ := Kd.S_slice hS
   subst e1
   clear hS hB1 HB HO
   have hc0_ : ∀ j, (w1.alloc (.cells #[.int .i64 kd, .int .i64 sq, .string id, .string did, .slice A1 ds.length c1] 47)).cell? ⟨w1.heap.size, j, none⟩ = #[Value.int .i64 kd, .int .i64 sq, .string id, .string did, .slice A1 ds.length c1][j]? := fun j => z6 (blk_new w1 _) j
   have OKP := z1o.mk (show ∀ k_, (wr.heap.size ≤ k_ ∧ k_ < w1.heap.size) → True ∧ some k_ ≠ (Value.slice Ax xs.length cx).ownBlock from fun k_ hk => ⟨trivial, fun e_ => by have := (Kd.S_R HO1.out).1 k_ e_.symm; have := hk.1; omega⟩)
   have HOA : z1o (Kd.S kD47 47 (w1.alloc (.cells #[.int .i64 kd, .int .i64 sq, .string id, .string did, .slice A1 ds.length c1] 47)) w.heap.size (fun k_ => True ∧ ¬ (wr.heap.size ≤ k_ ∧ k_ < w1.heap.size)) (.slice Ax xs.length cx) xs) := z1o.mk (Kd.S_mono (Kd.S_alloc HO1.out _) (fun k_ hk => ⟨trivial, fun h_ => by have := h_.1; omega⟩))
   have HMA := z1o.mk (kD47_mkM (w1.alloc (.cells #[.int .i64 kd, .int .i64 sq, .string id, .string did, .slice A1 ds.length c1] 47)) w.heap.size (fun k_ => wr.heap.size ≤ k_ ∧ k_ < w1.heap.size) (toS47 (kd, sq, id, did, ds)) (v4 := .slice A1 ds.length c1) (Kd.S_alloc HS1.out _))
   have HBA := z1o.mk (z2 HB1.out (.cells #[.int .i64 kd, .int .i64 sq, .string id, .string did, .slice A1 ds.length c1] 47))
   go_wp2_with (first | ((with_reducible refine zr (b := .append) (xs := #[.tmp 29, .tmp 31]) rfl ?_); (try (refine zu (by rfl) ?_; dsimp only)); at_builtin; refine Kd.S_append kD47 (w0 := w) w.heap.size rfl (.tmp 29) (.tmp 31) 54 47 (.agg #[(.int .i64 0), (.int .i64 0), (.string ⟨#[]⟩), (.string ⟨#[]⟩), (.slice none 0 0)]) 72 rfl Try.underlying54 info47 rfl (by decide) (by omega) (.slice Ax xs.length cx) xs (toS47 (kd, sq, id, did, ds)) [.int .i64 kd, .int .i64 sq, .string id, .string did, .slice A1 ds.length c1] (fun _ => True) (fun k_ => wr.heap.size ≤ k_ ∧ k_ < w1.heap.size) rfl (show Value.slice (some ⟨w1.heap.size + 1, 0, none⟩) 1 1 = _ from congrArg (fun n_ => Value.slice (some ⟨n_, 0, none⟩) 1 1) (size_al w1 _)) ?aP ?aQ ?aF ?aO ?aB ?aS ?aL ?_; (case aP => exact HMA.out); (case aQ => exact OKP.out); (case aF => exact fun _ _ => trivial); (case aO => exact HOA.out); (case aB => exact HBA.out); (case aS => exact HBA.out.size); (case aL => omega); intro v2 w2 ho hb hg hat; (have HO2 := z1o.mk ho); (have HB2 := z1o.mk hb); (clear ho hb hg hat OKP HOA HMA HBA)))
   go_roundg f'
   case measure => omega
   case rel => exact ⟨_, n.toNat, by rw [show ((n.toNat : Nat) : Int) = n from by omega], ⟨by omega⟩, ⟨by rw [ul, List.length_singleton]; omega⟩, ⟨by have := HF.out; omega⟩, HR2, HO2, HB2⟩
def cntR (x : S47) : Nat := 4 + cntVS x.f3.f1
noncomputable def mkR1 (m : Int) (x : S47) : S47 := ⟨m, m + 1, mkText (m + 1 + 1), ⟨mkText (m + 1 + 1 + 1), mkV (m + 1 + 1 + 1 + 1) x.f3.f1⟩⟩
noncomputable def mkR : Int → List S47 → List S47
 | _, [] => []
 | m, x :: r => mkR1 m x :: mkR (m + cntR x) r
def cntRS (xs : List S47) : Nat := (xs.map cntR).sum
theorem cntRS_cons (x : S47) (xs : List S47) : cntRS (x :: xs) = cntR x + cntRS xs := by simp [cntRS]
theorem markText_p (m : Int) (w : World) (hb : m ≤ 9223372036854775807) : Calls Try.prog 85 #[.int .i64 m] w fun e w' => e = .returned (.string (mkText m)) ∧ Below w.heap.size w w' := by
 obtain ⟨K, e⟩ := markText_ev m hb
 exact z19.calls K m _ w (e K (um _))
theorem markValueS_p (P0_ : Nat → Prop) (u : Value) (l0 : List S84) (m : Int) (w0 w : World) (h0 : 0 ≤ m) (h1 : m + cntVS l0 ≤ 4611686018427387903) (h2 : l0.length ≤ 4611686018427387903) (hB : Below w0.heap.size w0 w) (ho0 : Kd.S k84 84 w w0.heap.size P0_ u l0) :
  Calls Try.prog 56 #[u, .int .i64 m] w fun e w' => e = .returned (.int .i64 (m + cntVS l0)) ∧ Kd.S k84 84 w' w0.heap.size P0_ u (mkV m l0) ∧ Below w0.heap.size w0 w' ∧ Kept w w' P0_ := by
 obtain ⟨K, e⟩ := markValueS_ev l0 m h0 h1 h2
 exact z1n.calls K P0_ u l0 m _ _ w0 w hB ho0 (e K (um _))
theorem H_one {α : Type} {d : Kd α} {e g n cap : Nat} {W : World} {base : Nat} {ok oki : Nat → Prop} {xs : List α} {i : Int} {c : List Value} (h : Kd.H d e W base ok (.slice (some ⟨g, 0, none⟩) n cap) xs i oki c) (h0 : 0 ≤ i) (h1 : i < n) (j : Nat) (v : Value) (hv : v.oneCell' = true) (hj : j + 1 ≤ d.sz) (c' : List Value) (hc : c.take j ++ [v] ++ c.drop (j + 1) = c') :
  Kd.H d e (W.setCell ⟨g, i.toNat * d.sz + j, none⟩ v) base ok (.slice (some ⟨g, 0, none⟩) n cap) xs i oki c' := by
 subst hc
 exact (Kd.H_seg h h0 h1 (seg := [v]) (j := j) hj (by intro q hq; rw [List.mem_singleton] at hq; subst hq; exact hv)).1
set_option maxHeartbeats 8000000 in
set_option maxRecDepth 100000 in
theorem markRecordS_p (P0_ : Nat → Prop) (u : Value) (l0 : List S47) (m0 : Int) (w0 w : World) (h0 : 0 ≤ m0) (h1 : m0 + cntRS l0 ≤ 4611686018427387903) (h2 : l0.length ≤ 1048576) (h3 : ∀ x ∈ l0, x.f3.f1.length ≤ 1048576) (hB : Below w0.heap.size w0 w) (ho0 : Kd.S kD47 47 w w0.heap.size P0_ u l0) :
  Calls Try.prog 46 #[u, .int .i64 m0] w fun e w' => e = .returned (.int .i64 (m0 + cntRS l0)) ∧ Kd.S kD47 47 w' w0.heap.size P0_ u (mkR m0 l0) ∧ Below w0.heap.size w0 w' ∧ Kept w w' P0_ := by
 have hu47 := Try.underlying47
 have hu31 := Try.underlying31
 obtain ⟨Au, cu, eu⟩ := Kd.S_slice ho0
 subst eu
 obtain ⟨N, hN⟩ : ∃ N, N = l0.length := ⟨_, rfl⟩
 rw [← hN] at ho0 ⊢
 have HNN := z1o.mk hN
 clear hN
 have HO0 := z1o.mk ho0
 have HK0 := z1o.mk (Kept.refl w P0_)
 have HB0 := z1o.mk hB
 have H1 := z1o.mk h1
 have H2 := z1o.mk h2
 have H3 := z1o.mk h3
 clear ho0 hB h1 h2 h3
 obtain ⟨r1, er1⟩ : ∃ r1, r1 = m0 + cntRS l0 := ⟨_, rfl⟩
 obtain ⟨r2, er2⟩ : ∃ r2, r2 = mkR m0 l0 := ⟨_, rfl⟩
 rw [← er1, ← er2]
 have ER1 := z1o.mk er1
 have ER2 := z1o.mk er2
 clear er1 er2
 go_enter Try.func46, Try.ntmps46
 go_wp2
 go_loopg [1, 5] (l0.length + 1) (fun kq v1 v5 w' => ∃ (dn rs : List S47) (m : Int), v1 = .int .i64 m ∧ v5 = .int .i64 (dn.length : Int) ∧ z1o (dn.length + rs.length = l0.length) ∧ z1o (rs.length + 1 ≤ kq) ∧ z1o (0 ≤ m) ∧ z1o (r1 = m + cntRS rs) ∧ z1o (r2 = dn ++ mkR m rs) ∧ z1o (∀ x ∈ rs, x.f3.f1.length ≤ 1048576) ∧ z1o (Kd.S kD47 47 w' w0.heap.size P0_ (.slice Au N cu) (dn ++ rs)) ∧ z1o (Kept w w' P0_) ∧ z1o (Below w0.heap.size w0 w'))
 case atStart => exact ⟨[], l0, m0, rfl, rfl, ⟨by simp⟩, ⟨um _⟩, ⟨h0⟩, ER1, ER2, H3, HO0, HK0, HB0⟩
 case round =>
  clear HO0 HK0 HB0 ER2 H3
  obtain ⟨dn, rs, m, rfl, rfl, HL, HQ, HM, HE1, HE2, HV, HO, HK, HB⟩ := hrel
  obtain ⟨wr, hwr⟩ := name_world HO
  subst hwr
  cases rs with
  | nil =>
   have e1 := HE1.out
   have e2 := HE2.out
   have c3b : decide ((dn.length : Int) < (N : Int)) = false := decide_eq_false (by have := HL.out; have := HNN.out; simp only [List.length_nil] at *; omega)
   have c3c : decide (dn.length < N) = false := decide_eq_false (by have := HL.out; have := HNN.out; simp only [List.length_nil] at *; omega)
   have f1 := z1o.mk (show m = r1 by rw [e1]; simp [cntRS])
   have f2 := z1o.mk (show dn ++ [] = r2 by rw [e2]; rfl)
   clear e1 e2 HE1 HE2 ER1
   go_wp2
   go_ret
   exact ⟨congrArg (fun z_ => Ending.returned (.int .i64 z_)) f1.out, by rw [← f2.out]; exact HO.out, HB.out, HK.out⟩
  | cons x rs =>
   obtain ⟨k1, ek⟩ : ∃ k1, gk = k1 + 1 := ⟨gk - 1, by have := HQ.out; simp only [List.length_cons] at this; omega⟩
   subst ek
   have hll : (dn ++ x :: rs).length = l0.length := by have := HL.out; rw [ul]; exact this
   have hi : dn.length < (dn ++ x :: rs).length := by rw [ul, List.length_cons]; omega
   have hx : x.f3.f1.length ≤ 1048576 := HV.out x (by simp)
   have hcx : cntR x = 4 + cntVS x.f3.f1 := rfl
   have hcc : r1 = m + cntR x + cntRS rs := by have := HE1.out; rw [cntRS_cons] at this; omega
   have hm0 := HM.out
   have hm1 : m + 4 + cntVS x.f3.f1 ≤ 4611686018427387903 := by have := ER1.out; have := H1.out; omega
   obtain ⟨g, cap, eu, gb, gl, cl, HG⟩ := Kd.S_form HO.out (by omega)
   injection eu with e1_ e2_ e3_
   subst e1_
   subst e3_
   rw [← e2_] at hi hll
   clear e2_
   have GB := z1o.mk gb
   have OKG := z1o.mk ((Kd.S_R HO.out).1 g rfl)
   have hlz := H2.out
   have LL := z1o.mk hll
   have HX := z1o.mk hx
   have HCC := z1o.mk hcc
   clear gb gl HG hll hx hcx hcc
   have hmm : m ≤ 4611686018427387903 - 4 := by omega
   have HM1 := z1o.mk hm1
   have HI := z1o.mk hi
   clear hm1
   have hz : (dn ++ x :: rs).getD ((dn.length : Int)).toNat z47 = x := mid_getD z47
   obtain ⟨oki, ce, hcl, hM, hcc, hfr, hoki, hH⟩ := Kd.S_elem HO.out z47 (dn.length : Int) (Int.natCast_nonneg _) (by omega)
   rw [hz] at hM
   obtain ⟨v4, rfl, g4⟩ := kD47_openM hM
   obtain ⟨A4, c4, e4⟩ := Kd.S_slice g4
   subst e4
   rw [Int.toNat_natCast] at hcc hfr
   have hz5 : kD47.sz = 5 := rfl
   rw [hz5] at hcc hfr
   have hf0 : wr.frozen? ⟨g, dn.length * 5, none⟩ = false := hfr 0
   have hf1 : wr.frozen? ⟨g, dn.length * 5 + 1, none⟩ = false := hfr 1
   have hx0 : wr.cell? ⟨g, dn.length * 5, none⟩ = some (.int .i64 x.f0) := hcc 0 _ rfl
   have hx1 : wr.cell? ⟨g, dn.length * 5 + 1, none⟩ = some (.int .i64 x.f1) := hcc 1 _ rfl
   have HH0 := z1o.mk hH
   have G4 := z1o.mk g4
   have HOK := z1o.mk hoki
   clear hfr hcc hH g4 hM hoki hz5 hcl hz
   have hil : ((dn.length : Int) < (N : Int)) = True := eq_true (by have := HI.out; omega)
   have hdl : dn.length ≤ 1048576 := by have := HI.out; have := LL.out; omega
   have PI : 0 ≤ (dn.length : Int) := Int.natCast_nonneg _
   have QI := z1o.mk (show (dn.length : Int) < (N : Int) by have := HI.out; omega)
   have PI' := z1o.mk PI
   clear PI
   go_wp2_with fail
   go_at_call 85
   have HHa : Kd.H kD47 47 (wr.setCell ⟨g, dn.length * 5, none⟩ (.int .i64 m)) w0.heap.size P0_ (.slice (some ⟨g, 0, none⟩) N cu) (dn ++ x :: rs) (dn.length : Int) oki [.int .i64 m, .int .i64 x.f1, .string x.f2, .string x.f3.f0, .slice A4 x.f3.f1.length c4] := H_one HH0.out PI'.out QI.out 0 (.int .i64 m) rfl (by decide) _ rfl
   have HHb : Kd.H kD47 47 ((wr.setCell ⟨g, dn.length * 5, none⟩ (.int .i64 m)).setCell ⟨g, dn.length * 5 + 1, none⟩ (.int .i64 (m + 1))) w0.heap.size P0_ (.slice (some ⟨g, 0, none⟩) N cu) (dn ++ x :: rs) (dn.length : Int) oki [.int .i64 m, .int .i64 (m + 1), .string x.f2, .string x.f3.f0, .slice A4 x.f3.f1.length c4] := H_one HHa PI'.out QI.out 1 (.int .i64 (m + 1)) rfl (by decide) _ rfl
   have HB1 : Below w0.heap.size w0 ((wr.setCell ⟨g, dn.length * 5, none⟩ (.int .i64 m)).setCell ⟨g, dn.length * 5 + 1, none⟩ (.int .i64 (m + 1))) := z4 (z4 HB.out GB.out) GB.out
   have HK1 : Kept w ((wr.setCell ⟨g, dn.length * 5, none⟩ (.int .i64 m)).setCell ⟨g, dn.length * 5 + 1, none⟩ (.int .i64 (m + 1))) P0_ := Kept.setCell (Kept.setCell HK.out (.inl OKG.out) _) (.inl OKG.out) _
   have G4a : Kd.S k84 84 ((wr.setCell ⟨g, dn.length * 5, none⟩ (.int .i64 m)).setCell ⟨g, dn.length * 5 + 1, none⟩ (.int .i64 (m + 1))) w0.heap.size oki (.slice A4 x.f3.f1.length c4) x.f3.f1 := Kd.S_far (p := ⟨g, dn.length * 5 + 1, none⟩) (Kd.S_far (p := ⟨g, dn.length * 5, none⟩) G4.out (fun k_ hk => (HOK.out k_ hk).2) _) (fun k_ hk => (HOK.out k_ hk).2) _
   refine (markText_p (m + 1 + 1) _ (by omega)).mono ?_
   rintro e w1 ⟨rfl, hb⟩
   have HH1 := z1o.mk (Kd.H_below HHb hb)
   have HB2 := z1o.mk (za HB1 hb)
   have HK2 := z1o.mk (Kept.below HK1 hb)
   have G41 := z1o.mk (Kd.S_below G4a hb)
   clear HHa HHb HB1 HK1 G4a hb HB HK HH0 G4 hx0 hx1 hf0 hf1
   obtain ⟨rows_, _, hraw, _, _, hcc, _⟩ := Kd.H_raw HH1.out PI'.out QI.out
   obtain ⟨_, _, _, _, hfr⟩ := Kd.R_elem hraw [] (dn.length : Int) PI'.out QI.out
   have hx2 : w1.cell? ⟨g, dn.length * 5 + 2, none⟩ = some (.string x.f2) := hcc 2 _ rfl
   have hf2 : w1.frozen? ⟨g, dn.length * 5 + 2, none⟩ = false := hfr 2
   clear hcc hfr hraw
   go_wp2_with fail
   go_at_call 85
   have HHc : Kd.H kD47 47 (w1.setCell ⟨g, dn.length * 5 + 2, none⟩ (.string (mkText (m + 1 + 1)))) w0.heap.size P0_ (.slice (some ⟨g, 0, none⟩) N cu) (dn ++ x :: rs) (dn.length : Int) oki [.int .i64 m, .int .i64 (m + 1), .string (mkText (m + 1 + 1)), .string x.f3.f0, .slice A4 x.f3.f1.length c4] := H_one HH1.out PI'.out QI.out 2 (.string (mkText (m + 1 + 1))) rfl (by decide) _ rfl
   have HB3 : Below w0.heap.size w0 (w1.setCell ⟨g, dn.length * 5 + 2, none⟩ (.string (mkText (m + 1 + 1)))) := z4 HB2.out GB.out
   have HK3 : Kept w (w1.setCell ⟨g, dn.length * 5 + 2, none⟩ (.string (mkText (m + 1 + 1)))) P0_ := Kept.setCell HK2.out (.inl OKG.out) _
   have G4b : Kd.S k84 84 (w1.setCell ⟨g, dn.length * 5 + 2, none⟩ (.string (mkText (m + 1 + 1)))) w0.heap.size oki (.slice A4 x.f3.f1.length c4) x.f3.f1 := Kd.S_far (p := ⟨g, dn.length * 5 + 2, none⟩) G41.out (fun k_ hk => (HOK.out k_ hk).2) _
   refine (markText_p (m + 1 + 1 + 1) _ (by omega)).mono ?_
   rintro e w2 ⟨rfl, hb⟩
   have HH2 := z1o.mk (Kd.H_below HHc hb)
   have HB4 := z1o.mk (za HB3 hb)
   have HK4 := z1o.mk (Kept.below HK3 hb)
   have G42 := z1o.mk (Kd.S_below G4b hb)
   clear HHc HB3 HK3 G4b hb HB2 HK2 HH1 G41 hx2 hf2
   obtain ⟨rows2, _, hraw, _, _, hcc, _⟩ := Kd.H_raw HH2.out PI'.out QI.out
   obtain ⟨_, _, _, _, hfr⟩ := Kd.R_elem hraw [] (dn.length : Int) PI'.out QI.out
   have hx3 : w2.cell? ⟨g, dn.length * 5 + 3, none⟩ = some (.string x.f3.f0) := hcc 3 _ rfl
   have hx4 : w2.cell? ⟨g, dn.length * 5 + 4, none⟩ = some (.slice A4 x.f3.f1.length c4) := hcc 4 _ rfl
   have hf3 : w2.frozen? ⟨g, dn.length * 5 + 3, none⟩ = false := hfr 3
   clear hcc hfr hraw
   go_wp2_with fail
   go_at_call 56
   have HHd : Kd.H kD47 47 (w2.setCell ⟨g, dn.length * 5 + 3, none⟩ (.string (mkText (m + 1 + 1 + 1)))) w0.heap.size P0_ (.slice (some ⟨g, 0, none⟩) N cu) (dn ++ x :: rs) (dn.length : Int) oki [.int .i64 m, .int .i64 (m + 1), .string (mkText (m + 1 + 1)), .string (mkText (m + 1 + 1 + 1)), .slice A4 x.f3.f1.length c4] := H_one HH2.out PI'.out QI.out 3 (.string (mkText (m + 1 + 1 + 1))) rfl (by decide) _ rfl
   have HB5 : Below w0.heap.size w0 (w2.setCell ⟨g, dn.length * 5 + 3, none⟩ (.string (mkText (m + 1 + 1 + 1)))) := z4 HB4.out GB.out
   have HK5 : Kept w (w2.setCell ⟨g, dn.length * 5 + 3, none⟩ (.string (mkText (m + 1 + 1 + 1)))) P0_ := Kept.setCell HK4.out (.inl OKG.out) _
   have G4c : Kd.S k84 84 (w2.setCell ⟨g, dn.length * 5 + 3, none⟩ (.string (mkText (m + 1 + 1 + 1)))) w0.heap.size oki (.slice A4 x.f3.f1.length c4) x.f3.f1 := Kd.S_far (p := ⟨g, dn.length * 5 + 3, none⟩) G42.out (fun k_ hk => (HOK.out k_ hk).2) _
   refine (markValueS_p oki _ x.f3.f1 (m + 1 + 1 + 1 + 1) w0 _ (by omega) (by have := HM1.out; omega) (by have := HX.out; omega) HB5 G4c).mono ?_
   rintro e w3 ⟨rfl, hy, hb, hkp⟩
   have HB6 := z1o.mk hb
   have HK6 := z1o.mk (Kept.then_ HK5 hkp (fun k hs => .inl (HOK.out k hs).1))
   have HH3 := Kd.H_step HHd (fun k hk hn hlt => hkp.2 k hlt hn)
   have HS := z1o.mk (Kd.H_back HH3 (x' := mkR1 m x) (kD47_mkM w3 w0.heap.size oki (mkR1 m x) (v4 := .slice A4 x.f3.f1.length c4) hy) (fun _ hk => hk))
   clear hb hkp hy HHd HB5 HK5 G4c HH3 HB4 HK4 HH2 G42 hx3 hx4 hf3
   have hset : (dn ++ x :: rs).set ((dn.length : Int)).toNat (mkR1 m x) = (dn ++ [mkR1 m x]) ++ rs := by rw [mid_set, snoc_cons]
   have HS' : z1o (Kd.S kD47 47 w3 w0.heap.size P0_ (.slice (some ⟨g, 0, none⟩) N cu) ((dn ++ [mkR1 m x]) ++ rs)) := z1o.mk (by rw [← hset]; exact HS.out)
   clear hset HS
   have HRC := z1o.mk (show cntR x = 4 + cntVS x.f3.f1 from rfl)
   go_wp2_with fail
   go_roundg k1
   case measure => omega
   case rel =>
    refine ⟨dn ++ [mkR1 m x], rs, m + 1 + 1 + 1 + 1 + (cntVS x.f3.f1 : Int), rfl, ?_, ⟨?_⟩, ⟨?_⟩, ⟨?_⟩, ⟨?_⟩, ⟨?_⟩, ⟨fun y hy => HV.out y (by simp [hy])⟩, HS', HK6, HB6⟩
    ·rw [ul, List.length_singleton]
     congr 1
    ·have := HL.out
     rw [ul, List.length_singleton]
     simp only [List.length_cons] at this
     omega
    ·have := HQ.out
     simp only [List.length_cons] at this
     omega
    ·omega
    ·have := HCC.out
     have := HRC.out
     omega
    ·have := HE2.out
     have h4 := HRC.out
     rw [this, mkR, snoc_cons, show m + (cntR x : Int) = m + 1 + 1 + 1 + 1 + (cntVS x.f3.f1 : Int) from by omega]
end Go.Proofs.Ytndjodgcemgpfaa.Q
end
section
namespace Go.Proofs.Ytndjodgcemgpfaa.Q
open Go.RowKit Go.Proofs.YtndjodgcemgpfaaW.PrintWords Go.Proofs.YtndjodgcemgpfaaW.PrintLast Go.Proofs.YtndjodgcemgpfaaW.PrintMore
attribute [local go_sem] max2_int min2_int max_two min_two max_three min_three max_four min_four
def laws_toByteS.l0 : Nat → List Int → List Int → Int → Option (List Int)
 | 0, _, _, _ => none
 | k + 1, x0, x3, x4 => if x4 < (x0.length : Int) then (if 0 ≤ x4 then (if x4 < (x3.length : Int) then (laws_toByteS.l0 k x0 (x3.set (x4 : Int).toNat (rd x0 x4)) (wrap64 (x4 + 1))) else (none)) else (none)) else (some x3)
def laws_toByteS.f (k : Nat) (l0 : List Int) : Option (List Int) := if 0 ≤ (l0.length : Int) then (if ((l0.length : Int) : Int).toNat ≤ 281474976710656 then (laws_toByteS.l0 k l0 (List.replicate ((l0.length : Int) : Int).toNat 0) 0) else (none)) else (none)
set_option maxHeartbeats 8000000 in
set_option maxRecDepth 100000 in
theorem laws_toByteS.calls (k : Nat) (A0 : Option Addr) (c0 : Nat) (l0 : List Int) (r : List Int) (w : World) (hr0 : Kd.C (Kd.int .u8) w A0 l0.length l0) (hc0 : l0.length ≤ c0) (h : laws_toByteS.f k l0 = some r) :
  Calls Try.prog 19 #[.slice A0 l0.length c0] w fun e w' => ∃ v0_ : Value, e = .returned (v0_) ∧ Kd.R (Kd.int .u8) 5 w' w.heap.size (fun _ => True) v0_ r ∧ Below w.heap.size w w' := by
 have HR0 := z1o.mk hr0
 have HC0 := z1o.mk hc0
 clear hr0 hc0
 have HB := z1o.mk (Below.refl w.heap.size w)
 have H : (if 0 ≤ (l0.length : Int) then (if ((l0.length : Int) : Int).toNat ≤ 281474976710656 then (laws_toByteS.l0 k l0 (List.replicate ((l0.length : Int) : Int).toNat 0) 0) else (none)) else (none)) = some r := h
 clear h
 by_cases c2 : 0 ≤ (l0.length : Int)
 ·rw [if_pos c2] at H
  have c2b0 := eq_true c2
  have c2b1 : decide (0 ≤ (l0.length : Int)) = true := decide_eq_true c2
  clear c2
  by_cases c3 : ((l0.length : Int) : Int).toNat ≤ 281474976710656
  ·rw [if_pos c3] at H
   have c3b0 := eq_true c3
   have c3b1 : decide (((l0.length : Int) : Int).toNat ≤ 281474976710656) = true := decide_eq_true c3
   clear c3
   obtain ⟨y371, hy371⟩ : ∃ y_ : List Int, y_ = (List.replicate ((l0.length : Int) : Int).toNat 0) := ⟨_, rfl⟩
   replace H : (laws_toByteS.l0 k l0 y371 0) = some r := by first | (rw [hy371]; with_reducible exact H) | (have H2_ := (uk _ _).symm.trans H; rw [hy371]; with_reducible exact H2_) | (have H2_ := (uk _ _).symm.trans H; with_reducible exact H2_) | with_reducible exact H | (rw [hy371]; exact H) | exact H
   have Ny371 := z1o.mk hy371
   clear hy371
   have H' := z1o.mk H
   clear H
   go_enter Try.func19, Try.ntmps19
   go_wp2_with (first | ((with_reducible refine zq (N := 7) rfl ?_); refine Kd.R_make (Kd.int .u8) _ 5 rfl (N := 7) rfl 26 _ _ rfl (l0.length : Int) rfl rfl Try.underlying26 (.int .u8 0) 1 info5 rfl (by decide) (by omega) 0 (ok := fun _ => True) (okp := fun _ => True) rfl (fun _ hk => hk) trivial (of_decide_eq_true (by first | (with_reducible assumption) | assumption)) (Nat.le_trans (Nat.mul_le_mul_right _ (of_decide_eq_true (by first | (with_reducible assumption) | assumption) : (l0.length : Int).toNat ≤ 281474976710656)) (by omega)) (Below.refl _ _) (um _) ?_; intro v372 w4 ho5 hb hg_ hnew_; clear hg_ hnew_; (first | rw [← Ny371.out] at ho5 | (simp only [Int.reduceToNat] at ho5; rw [← Ny371.out] at ho5)); have n0_ := z1o.mk (Kd.R_lower ho5 (zc y0)); have n1_ := z1o.mk (za y0 hb); clear HB; have HO373 := n0_; have HB := n1_; clear n0_ n1_; clear hb ho5))
   go_loopg [4] k (fun kq v4 w' => ∃ (x3_1 : List Int) (x4_1 : Int), v4 = .int .i64 x4_1 ∧ z1o (laws_toByteS.l0 kq l0 x3_1 x4_1 = some r) ∧ z1o (kq ≤ k) ∧ z1o (Kd.R (Kd.int .u8) 5 w' w.heap.size (fun _ => True) v372 x3_1) ∧ z1o (Below w.heap.size w w'))
   case atStart => exact ⟨(y371), (0), (by first | rfl | (simp; done) | (simp [*]; done)), H', ⟨um _⟩, ⟨by (with_reducible repeat (first | apply Kd.R_alloc | apply Kd.R_drewN | apply Kd.R_drew)); exact HO373.out⟩, ⟨y0⟩⟩
   case round =>
    clear H'
    try clear c1
    try clear c2
    try clear c2b0
    try clear c2b1
    try clear p2
    try clear c3
    try clear c3b0
    try clear c3b1
    obtain ⟨x3_1, x4_1, rfl, HA, HK1, HO_3, HB⟩ := hrel
    cases gk with
    | zero => exact absurd HA.out (by simp [laws_toByteS.l0])
    | succ k1 =>
     have H := HA.out
     clear HA
     simp only [laws_toByteS.l0] at H
     by_cases c6 : x4_1 < (l0.length : Int)
     ·rw [if_pos c6] at H
      have c6b0 : decide (x4_1 < (l0.length : Int)) = true := decide_eq_true c6
      clear c6
      by_cases c7 : 0 ≤ x4_1
      ·rw [if_pos c7] at H
       have c7b0 : decide (0 ≤ x4_1) = true := decide_eq_true c7
       clear c7
       by_cases c8 : x4_1 < (x3_1.length : Int)
       ·rw [if_pos c8] at H
        have c8b0 : decide (x4_1 < (x3_1.length : Int)) = true := decide_eq_true c8
        clear c8
        obtain ⟨y375, hy375⟩ : ∃ y_ : List Int, y_ = (x3_1.set (x4_1 : Int).toNat (rd l0 x4_1)) := ⟨_, rfl⟩
        replace H : (laws_toByteS.l0 k1 l0 y375 (wrap64 (x4_1 + 1))) = some r := by first | (rw [hy375]; with_reducible exact H) | (have H2_ := (uk _ _).symm.trans H; rw [hy375]; with_reducible exact H2_) | (have H2_ := (uk _ _).symm.trans H; with_reducible exact H2_) | with_reducible exact H | (rw [hy375]; exact H) | exact H
        have Ny375 := z1o.mk hy375
        clear hy375
        have H' := z1o.mk H
        clear H
        have p374 : 0 ≤ (x4_1 : Int) := of_decide_eq_true (by first | (with_reducible assumption) | assumption)
        have q374 : x4_1 < (l0.length : Int) := of_decide_eq_true (by first | (with_reducible assumption) | assumption)
        obtain ⟨ad374, e374, hx374_0⟩ := Kd.at_int HR0.out x4_1 p374 q374
        cases e374
        replace hx374_0 := (HB.out.cell (ua w _ hx374_0)).trans hx374_0
        replace p374 := eq_true p374
        replace q374 := eq_true q374
        have p9 : 0 ≤ (x4_1 : Int) := of_decide_eq_true (by first | (with_reducible assumption) | assumption)
        have q9 : (x4_1 : Int) < ((x3_1.length : Int) : Int) := of_decide_eq_true (by first | (with_reducible assumption) | assumption)
        obtain ⟨go9, co9, eo9, gb9, gl9, cl9, HG9⟩ := Kd.R_form HO_3.out (by omega)
        (first | cases eo9 | (injection eo9 with ea_ en_ ec_; (first | subst ea_ | (injection ea_ with ea_; subst ea_)); subst ec_; clear en_))
        have GB9 := z1o.mk gb9
        have GG9 := z1o.mk HG9
        clear gb9 gl9 HG9
        obtain ⟨hx9_0, hf9_0⟩ := Kd.R_celln 0 HO_3.out (x4_1 : Int) p9 q9
        replace p9 := eq_true p9
        replace q9 := eq_true q9
        have HP10 := Kd.R_putg HO_3.out (x4_1 : Int) (rd l0 x4_1)
        go_wp2_with (first | ((with_reducible refine zt (t := 5) (p := 20) rfl ?_); refine zw (t := 5) (p := 20) (v := ?vo_w11) (w1 := (wr.setCell ⟨go9, (x4_1 : Int).toNat, none⟩ (.int .u8 (rd l0 x4_1)))) ?hg ?ho ?hn ?hr ?_; (case ho => rfl); (case hg => rfl); (case hn => rfl); (case hr => first | (go_simp; done) | (go_simp; rfl)); intro w11 hw; have hg : wr.grownBy w11 (some go9) := (by rw [hw]; exact HP10.2); have hp_ : Kd.R (Kd.int .u8) 5 w11 w.heap.size (fun _ => True) (.slice (some ⟨go9, 0, none⟩) x3_1.length co9) y375 := (by rw [hw, Ny375.out]; exact HP10.1); clear HP10; have n0_ := z1o.mk (hp_); have n1_ := z1o.mk ((by rw [hw]; exact z4 (HB.out) GB9.out : Below w.heap.size w w11)); clear HO_3; clear HB; have HO_3 := n0_; have HB := n1_; clear n0_ n1_; clear hg hw hp_))
        go_roundg k1
        case measure => have := HK1.out; omega
        case rel => exact ⟨(y375), (wrap64 (x4_1 + 1)), (by first | rfl | (simp; done) | (simp [*]; done)), H', ⟨by have := HK1.out; omega⟩, ⟨y22⟩, ⟨y0⟩⟩
       ·rw [if_neg c8] at H
        exact absurd H (by simp)
      ·rw [if_neg c7] at H
       exact absurd H (by simp)
     ·rw [if_neg c6] at H
      have c6b0 : decide (x4_1 < (l0.length : Int)) = false := decide_eq_false c6
      clear c6
      obtain rfl := Option.some.inj H
      go_wp2
      go_ret
      exact ⟨_, by first | rfl | (simp [zm, zl] <;> rfl) | (simp [*, zm, zl] <;> rfl), y22, y0⟩
  ·rw [if_neg c3] at H
   exact absurd H (by simp)
 ·rw [if_neg c2] at H
  exact absurd H (by simp)
def z1a.l0 : Nat → List (S47) → List (S47) → Int → Option (Bool)
 | 0, _, _, _ => none
 | k + 1, x0, x1, x5 => if x5 < (x0.length : Int) then (if 0 ≤ x5 then (if x5 < (x1.length : Int) then ((z1c.f k ((rd_T47 x0 x5).f0) ((rd_T47 x0 x5).f1) ((rd_T47 x0 x5).f2) ((rd_T47 x0 x5).f3.f0) ((rd_T47 x0 x5).f3.f1) ((rd_T47 x1 x5).f0) ((rd_T47 x1 x5).f1) ((rd_T47 x1 x5).f2) ((rd_T47 x1 x5).f3.f0) ((rd_T47 x1 x5).f3.f1)).bind fun t645 => (if t645 = true then (z1a.l0 k x0 x1 (wrap64 (x5 + 1))) else (some false))) else (none)) else (none)) else (some true)
def z1a.f (k : Nat) (l0 : List (S47)) (l1 : List (S47)) : Option (Bool) := if (l0.length : Int) = (l1.length : Int) then (z1a.l0 k l0 l1 0) else (some false)
def z1a.T6 : Bool × List (List Nat × List Nat) := (true, [([], []), ([], []), ([0, 1], [0, 1]), ([2], [2]), ([], []), ([], []), ([4, 5], [4, 5]), ([6], [6]), ([3, 7], [3, 7]), ([8], [8])])
def z1a.B6 : List Nat := [0, 0, 3, 7, 0, 0, 48, 112, 255, 511]
theorem z1a.tab6 : rtab .any (opsOf Try.f45 6) = z1a.T6 := by kernel_rfl
theorem z1a.bits6 : waitsOk z1a.T6.2 z1a.B6 = true := by kernel_rfl
set_option maxHeartbeats 8000000 in
set_option maxRecDepth 100000 in
theorem z1a.calls (k : Nat) (A0 : Option Addr) (c0 : Nat) (l0 : List (S47)) (A1 : Option Addr) (c1 : Nat) (l1 : List (S47)) (r : Bool) (w : World) (hr0 : Kd.C k47 w A0 l0.length l0) (hc0 : l0.length ≤ c0) (hr1 : Kd.C k47 w A1 l1.length l1) (hc1 : l1.length ≤ c1) (h : z1a.f k l0 l1 = some r) :
  Calls Try.prog 45 #[.slice A0 l0.length c0, .slice A1 l1.length c1] w fun e w' => e = .returned (.bool r) ∧ Below w.heap.size w w' := by
 have hu47 := Try.underlying47
 have HR0 := z1o.mk hr0
 have HC0 := z1o.mk hc0
 clear hr0 hc0
 have HR1 := z1o.mk hr1
 have HC1 := z1o.mk hc1
 clear hr1 hc1
 have HB := z1o.mk (Below.refl w.heap.size w)
 have H : (if (l0.length : Int) = (l1.length : Int) then (z1a.l0 k l0 l1 0) else (some false)) = some r := h
 clear h
 by_cases c3 : (l0.length : Int) = (l1.length : Int)
 ·rw [if_pos c3] at H
  have c3b0 : ((l0.length : Int) == (l1.length : Int)) = true := beq_iff_eq.mpr c3
  have c3b1 : ((l0.length : Int) != (l1.length : Int)) = false := bne_eq_false_iff_eq.mpr c3
  have c3b2 : (l0.length == l1.length) = true := by first | simpa using c3 | (simp at c3 ⊢; omega)
  clear c3
  have H' := z1o.mk H
  clear H
  go_enter Try.func45, Try.ntmps45
  go_wp2
  go_loopg [5] k (fun kq v5 w' => ∃ (x5_1 : Int), v5 = .int .i64 x5_1 ∧ z1o (z1a.l0 kq l0 l1 x5_1 = some r) ∧ z1o (kq ≤ k) ∧ z1o (Below w.heap.size w w'))
  case atStart => exact ⟨(0), (by first | rfl | (simp; done) | (simp [*]; done)), H', ⟨um _⟩, ⟨y0⟩⟩
  case round =>
   clear H'
   try clear c1
   try clear p2
   try clear c3
   try clear c3b0
   try clear c3b1
   try clear c3b2
   obtain ⟨x5_1, rfl, HA, HK1, HB⟩ := hrel
   cases gk with
   | zero => exact absurd HA.out (by simp [z1a.l0])
   | succ k1 =>
    have H := HA.out
    clear HA
    simp only [z1a.l0] at H
    by_cases c4 : x5_1 < (l0.length : Int)
    ·rw [if_pos c4] at H
     have c4b0 : decide (x5_1 < (l0.length : Int)) = true := decide_eq_true c4
     clear c4
     by_cases c5 : 0 ≤ x5_1
     ·rw [if_pos c5] at H
      have c5b0 : decide (0 ≤ x5_1) = true := decide_eq_true c5
      clear c5
      by_cases c6 : x5_1 < (l1.length : Int)
      ·rw [if_pos c6] at H
       have c6b0 : decide (x5_1 < (l1.length : Int)) = true := decide_eq_true c6
       clear c6
       replace H := ue.mp H
       obtain ⟨t645, A70, H⟩ := H
       replace H : (if t645 = true then (z1a.l0 k1 l0 l1 (wrap64 (x5_1 + 1))) else (some false)) = some r := H
       have A7 := z1o.mk A70
       clear A70
       by_cases c8 : t645 = true
       ·subst c8
        have H1 : (z1a.l0 k1 l0 l1 (wrap64 (x5_1 + 1))) = some r := by rw [if_pos rfl] at H; exact H
        clear H
        have H := H1
        clear H1
        have H' := z1o.mk H
        clear H
        try go_wp2
        have n0_ := z1o.mk (z3 HB.out)
        clear HB
        have HB := n0_
        clear n0_
        have p643 : 0 ≤ (x5_1 : Int) := of_decide_eq_true (by first | (with_reducible assumption) | assumption)
        have q643 : x5_1 < (l0.length : Int) := of_decide_eq_true (by first | (with_reducible assumption) | assumption)
        obtain ⟨ad643, A643_4, c643_4, e643, hx643_0, hx643_1, hx643_2, hx643_3, hx643_4, hl643_4, hi643_4⟩ := at_T47 HR0.out x5_1 p643 q643
        have hw643_4 := hx643_4
        have hw643_3 := hx643_3
        have hw643_2 := hx643_2
        have hw643_1 := hx643_1
        have hw643_0 := hx643_0
        have HW643_4 := z1o.mk hx643_4
        cases e643
        replace hx643_0 := (HB.out.cell (ua w _ hx643_0)).trans hx643_0
        replace hx643_1 := (HB.out.cell (ua w _ hx643_1)).trans hx643_1
        replace hx643_2 := (HB.out.cell (ua w _ hx643_2)).trans hx643_2
        replace hx643_3 := (HB.out.cell (ua w _ hx643_3)).trans hx643_3
        replace hx643_4 := (HB.out.cell (ua w _ hx643_4)).trans hx643_4
        have HR643_4 := z1o.mk hi643_4
        have HC643_4 := z1o.mk hl643_4
        clear hi643_4 hl643_4
        replace p643 := eq_true p643
        replace q643 := eq_true q643
        have p644 : 0 ≤ (x5_1 : Int) := of_decide_eq_true (by first | (with_reducible assumption) | assumption)
        have q644 : x5_1 < (l1.length : Int) := of_decide_eq_true (by first | (with_reducible assumption) | assumption)
        obtain ⟨ad644, A644_4, c644_4, e644, hx644_0, hx644_1, hx644_2, hx644_3, hx644_4, hl644_4, hi644_4⟩ := at_T47 HR1.out x5_1 p644 q644
        have hw644_4 := hx644_4
        have hw644_3 := hx644_3
        have hw644_2 := hx644_2
        have hw644_1 := hx644_1
        have hw644_0 := hx644_0
        have HW644_4 := z1o.mk hx644_4
        cases e644
        replace hx644_0 := (HB.out.cell (ua w _ hx644_0)).trans hx644_0
        replace hx644_1 := (HB.out.cell (ua w _ hx644_1)).trans hx644_1
        replace hx644_2 := (HB.out.cell (ua w _ hx644_2)).trans hx644_2
        replace hx644_3 := (HB.out.cell (ua w _ hx644_3)).trans hx644_3
        replace hx644_4 := (HB.out.cell (ua w _ hx644_4)).trans hx644_4
        have HR644_4 := z1o.mk hi644_4
        have HC644_4 := z1o.mk hl644_4
        clear hi644_4 hl644_4
        replace p644 := eq_true p644
        replace q644 := eq_true q644
        refine start_ (n := 10) (S := fun w' => w'.cell? (ad643.add ((x5_1).toNat * 5)) = some (.int .i64 ((rd_T47 l0 x5_1).f0)) ∧ w'.cell? ⟨(ad643.add ((x5_1).toNat * 5)).block, (ad643.add ((x5_1).toNat * 5)).off + 1, none⟩ = some (.int .i64 ((rd_T47 l0 x5_1).f1)) ∧ w'.cell? ⟨(ad643.add ((x5_1).toNat * 5)).block, (ad643.add ((x5_1).toNat * 5)).off + 2, none⟩ = some (.string ((rd_T47 l0 x5_1).f2)) ∧ w'.cell? ⟨(ad643.add ((x5_1).toNat * 5)).block, (ad643.add ((x5_1).toNat * 5)).off + 3, none⟩ = some (.string ((rd_T47 l0 x5_1).f3.f0)) ∧ w'.cell? ⟨(ad643.add ((x5_1).toNat * 5)).block, (ad643.add ((x5_1).toNat * 5)).off + 4, none⟩ = some (.slice A643_4 ((rd_T47 l0 x5_1).f3.f1).length c643_4) ∧ w'.cell? (ad644.add ((x5_1).toNat * 5)) = some (.int .i64 ((rd_T47 l1 x5_1).f0)) ∧ w'.cell? ⟨(ad644.add ((x5_1).toNat * 5)).block, (ad644.add ((x5_1).toNat * 5)).off + 1, none⟩ = some (.int .i64 ((rd_T47 l1 x5_1).f1)) ∧ w'.cell? ⟨(ad644.add ((x5_1).toNat * 5)).block, (ad644.add ((x5_1).toNat * 5)).off + 2, none⟩ = some (.string ((rd_T47 l1 x5_1).f2)) ∧ w'.cell? ⟨(ad644.add ((x5_1).toNat * 5)).block, (ad644.add ((x5_1).toNat * 5)).off + 3, none⟩ = some (.string ((rd_T47 l1 x5_1).f3.f0)) ∧ w'.cell? ⟨(ad644.add ((x5_1).toNat * 5)).block, (ad644.add ((x5_1).toNat * 5)).off + 4, none⟩ = some (.slice A644_4 ((rd_T47 l1 x5_1).f3.f1).length c644_4)) (ds := []) #[false, false, false, false, false, false, false, false, false, false] (by kernel_rfl) rfl rfl ⟨((HB.out.cell (ua w _ hw643_0)).trans hw643_0), ((HB.out.cell (ua w _ hw643_1)).trans hw643_1), ((HB.out.cell (ua w _ hw643_2)).trans hw643_2), ((HB.out.cell (ua w _ hw643_3)).trans hw643_3), ((HB.out.cell (ua w _ hw643_4)).trans hw643_4), ((HB.out.cell (ua w _ hw644_0)).trans hw644_0), ((HB.out.cell (ua w _ hw644_1)).trans hw644_1), ((HB.out.cell (ua w _ hw644_2)).trans hw644_2), ((HB.out.cell (ua w _ hw644_3)).trans hw644_3), ((HB.out.cell (ua w _ hw644_4)).trans hw644_4)⟩ (fun hHeld => ?_); refine with_tabW z1a.tab6 z1a.bits6 (fun HT_ HW_ => ?_)
        generalize wr.drew = w9 at HB HR643_4 HR644_4 hx643_0 hx643_1 hx643_2 hx643_3 hx643_4 hx644_0 hx644_1 hx644_2 hx644_3 hx644_4 hHeld ⊢
        refine pure_ (i := 0) (N := some 17) (v := ?_) (a' := ?_) #[true, false, false, false, false, false, false, false, false, false] rfl rfl (any_of HT_.out (by kernel_rfl)) (fun _ _ _ h => h) (Or.inl ⟨by rfl, ?_⟩) ?_ ?_
        rotate_left
        ·intro w'
         go_simp
         with_reducible rfl
        rotate_left
        ·simp only [Act.put, ub, uc, ud, zn, zo]
         rfl
        refine pure_ (i := 1) (N := some 18) (v := ?_) (a' := ?_) #[true, true, false, false, false, false, false, false, false, false] rfl rfl (any_of HT_.out (by kernel_rfl)) (fun _ _ _ h => h) (Or.inl ⟨by rfl, ?_⟩) ?_ ?_
        rotate_left
        ·intro w'
         go_simp
         with_reducible rfl
        rotate_left
        ·simp only [Act.put, ub, uc, ud, zn, zo]
         rfl
        refine pure_ (i := 2) (N := some 19) (v := ?_) (a' := ?_) #[true, true, true, false, false, false, false, false, false, false] rfl rfl (any_of HT_.out (by kernel_rfl)) (fun _ _ _ h => h) (Or.inl ⟨by rfl, ?_⟩) ?_ ?_
        rotate_left
        ·intro w'
         go_simp
         with_reducible rfl
        rotate_left
        ·simp only [Act.put, ub, uc, ud, zn, zo]
         rfl
        refine pure_ (i := 4) (N := some 21) (v := ?_) (a' := ?_) #[true, true, true, false, true, false, false, false, false, false] rfl rfl (any_of HT_.out (by kernel_rfl)) (fun _ _ _ h => h) (Or.inl ⟨by rfl, ?_⟩) ?_ ?_
        rotate_left
        ·intro w'
         go_simp
         with_reducible rfl
        rotate_left
        ·simp only [Act.put, ub, uc, ud, zn, zo]
         rfl
        refine pure_ (i := 5) (N := some 22) (v := ?_) (a' := ?_) #[true, true, true, false, true, true, false, false, false, false] rfl rfl (any_of HT_.out (by kernel_rfl)) (fun _ _ _ h => h) (Or.inl ⟨by rfl, ?_⟩) ?_ ?_
        rotate_left
        ·intro w'
         go_simp
         with_reducible rfl
        rotate_left
        ·simp only [Act.put, ub, uc, ud, zn, zo]
         rfl
        refine pure_ (i := 6) (N := some 23) (v := ?_) (a' := ?_) #[true, true, true, false, true, true, true, false, false, false] rfl rfl (any_of HT_.out (by kernel_rfl)) (fun _ _ _ h => h) (Or.inl ⟨by rfl, ?_⟩) ?_ ?_
        rotate_left
        ·intro w'
         go_simp
         with_reducible rfl
        rotate_left
        ·simp only [Act.put, ub, uc, ud, zn, zo]
         rfl
        refine take_ (i := 3) (N := some 20) (v := ?_) (a' := ?_) #[true, true, true, true, true, true, true, false, false, false] rfl rfl (take_ofW HT_.out HW_.out (by kernel_rfl)) (fun _ _ _ h => h) (Or.inl ⟨by rfl, ?_⟩) hHeld ?_ ?_
        rotate_left
        ·rintro w' ⟨s0, s1, s2, s3, s4, s5, s6, s7, s8, s9⟩
         go_simp
         with_reducible rfl
        rotate_left
        ·simp only [Act.put, ub, uc, ud, zn, zo]
         rfl
        refine take_ (i := 7) (N := some 24) (v := ?_) (a' := ?_) #[true, true, true, true, true, true, true, true, false, false] rfl rfl (take_ofW HT_.out HW_.out (by kernel_rfl)) (fun _ _ _ h => h) (Or.inl ⟨by rfl, ?_⟩) hHeld ?_ ?_
        rotate_left
        ·rintro w' ⟨s0, s1, s2, s3, s4, s5, s6, s7, s8, s9⟩
         go_simp
         with_reducible rfl
        rotate_left
        ·simp only [Act.put, ub, uc, ud, zn, zo]
         rfl
        refine one_ (i := 8) (N := some 25) #[true, true, true, true, true, true, true, true, true, false] rfl rfl (one_of HT_.out (by kernel_rfl)) (by decide) (fun K hK => ?_)
        refine goes_ Try.func26 (by kernel_rfl) rfl #[.agg #[.int .i64 ((rd_T47 l0 x5_1).f0), .int .i64 ((rd_T47 l0 x5_1).f1), .string ((rd_T47 l0 x5_1).f2), .string ((rd_T47 l0 x5_1).f3.f0), .slice A643_4 ((rd_T47 l0 x5_1).f3.f1).length c643_4], .agg #[.int .i64 ((rd_T47 l1 x5_1).f0), .int .i64 ((rd_T47 l1 x5_1).f1), .string ((rd_T47 l1 x5_1).f2), .string ((rd_T47 l1 x5_1).f3.f0), .slice A644_4 ((rd_T47 l1 x5_1).f3.f1).length c644_4]] (by rfl) rfl rfl (by (try simp only [uh, ui, uj]); first | done | rfl | (simp only [uf, ug]; rfl)) ?_
        with_reducible refine (z1c.calls k1 ((rd_T47 l0 x5_1).f0) ((rd_T47 l0 x5_1).f1) ((rd_T47 l0 x5_1).f2) ((rd_T47 l0 x5_1).f3.f0) _ _ ((rd_T47 l0 x5_1).f3.f1) ((rd_T47 l1 x5_1).f0) ((rd_T47 l1 x5_1).f1) ((rd_T47 l1 x5_1).f2) ((rd_T47 l1 x5_1).f3.f0) _ _ ((rd_T47 l1 x5_1).f3.f1) true _ ?side1 ?side2 ?side3 ?side4 A7.out).mono ?_
        (case side1 => exact y2r)
        (case side2 => exact HC643_4.out)
        (case side3 => exact y2s)
        (case side4 => exact HC644_4.out)
        rintro e w10 ⟨rfl, hb⟩
        refine ⟨_, rfl, ?_⟩
        have n0_ := z1o.mk (za y0 hb)
        clear HB
        have HB := n0_
        clear n0_
        (try clear hb)
        (try clear hb2)
        (try clear hk)
        (try clear hi)
        refine hK.out _ _ ⟨((HB.out.cell (ua w _ hw643_0)).trans hw643_0), ((HB.out.cell (ua w _ hw643_1)).trans hw643_1), ((HB.out.cell (ua w _ hw643_2)).trans hw643_2), ((HB.out.cell (ua w _ hw643_3)).trans hw643_3), ((HB.out.cell (ua w _ hw643_4)).trans hw643_4), ((HB.out.cell (ua w _ hw644_0)).trans hw644_0), ((HB.out.cell (ua w _ hw644_1)).trans hw644_1), ((HB.out.cell (ua w _ hw644_2)).trans hw644_2), ((HB.out.cell (ua w _ hw644_3)).trans hw644_3), ((HB.out.cell (ua w _ hw644_4)).trans hw644_4)⟩ (fun hHeld => ?_)
        clear hK K
        refine norm_ (a' := ?_) ?_ ?_
        rotate_left
        ·show Act.put _ (some 25) _ = _
         simp only [Act.put, ub, uc, ud, zn, zo]
         rfl
        refine pure_ (i := 9) (N := some 26) (v := ?_) (a' := ?_) #[true, true, true, true, true, true, true, true, true, true] rfl rfl (any_of HT_.out (by kernel_rfl)) (fun _ _ _ h => h) (Or.inl ⟨by rfl, ?_⟩) ?_ ?_
        rotate_left
        ·intro w'
         go_simp
         with_reducible rfl
        rotate_left
        ·simp only [Act.put, ub, uc, ud, zn, zo]
         rfl
        refine done_ (done_of HT_.out (by kernel_rfl)) ?_
        try go_wp2
        go_roundg k1
        case measure => have := HK1.out; omega
        case rel => exact ⟨(wrap64 (x5_1 + 1)), (by first | rfl | (simp; done) | (simp [*]; done)), H', ⟨by have := HK1.out; omega⟩, ⟨y0⟩⟩
       ·replace c8 := Bool.eq_false_iff.mpr c8
        subst c8
        have H1 : (some false) = some r := by rw [if_neg (show ¬ (false = true) by decide)] at H; exact H
        clear H
        have H := H1
        clear H1
        obtain rfl := Option.some.inj H
        try go_wp2
        have n0_ := z1o.mk (z3 HB.out)
        clear HB
        have HB := n0_
        clear n0_
        have p643 : 0 ≤ (x5_1 : Int) := of_decide_eq_true (by first | (with_reducible assumption) | assumption)
        have q643 : x5_1 < (l0.length : Int) := of_decide_eq_true (by first | (with_reducible assumption) | assumption)
        obtain ⟨ad643, A643_4, c643_4, e643, hx643_0, hx643_1, hx643_2, hx643_3, hx643_4, hl643_4, hi643_4⟩ := at_T47 HR0.out x5_1 p643 q643
        have hw643_4 := hx643_4
        have hw643_3 := hx643_3
        have hw643_2 := hx643_2
        have hw643_1 := hx643_1
        have hw643_0 := hx643_0
        have HW643_4 := z1o.mk hx643_4
        cases e643
        replace hx643_0 := (HB.out.cell (ua w _ hx643_0)).trans hx643_0
        replace hx643_1 := (HB.out.cell (ua w _ hx643_1)).trans hx643_1
        replace hx643_2 := (HB.out.cell (ua w _ hx643_2)).trans hx643_2
        replace hx643_3 := (HB.out.cell (ua w _ hx643_3)).trans hx643_3
        replace hx643_4 := (HB.out.cell (ua w _ hx643_4)).trans hx643_4
        have HR643_4 := z1o.mk hi643_4
        have HC643_4 := z1o.mk hl643_4
        clear hi643_4 hl643_4
        replace p643 := eq_true p643
        replace q643 := eq_true q643
        have p644 : 0 ≤ (x5_1 : Int) := of_decide_eq_true (by first | (with_reducible assumption) | assumption)
        have q644 : x5_1 < (l1.length : Int) := of_decide_eq_true (by first | (with_reducible assumption) | assumption)
        obtain ⟨ad644, A644_4, c644_4, e644, hx644_0, hx644_1, hx644_2, hx644_3, hx644_4, hl644_4, hi644_4⟩ := at_T47 HR1.out x5_1 p644 q644
        have hw644_4 := hx644_4
        have hw644_3 := hx644_3
        have hw644_2 := hx644_2
        have hw644_1 := hx644_1
        have hw644_0 := hx644_0
        have HW644_4 := z1o.mk hx644_4
        cases e644
        replace hx644_0 := (HB.out.cell (ua w _ hx644_0)).trans hx644_0
        replace hx644_1 := (HB.out.cell (ua w _ hx644_1)).trans hx644_1
        replace hx644_2 := (HB.out.cell (ua w _ hx644_2)).trans hx644_2
        replace hx644_3 := (HB.out.cell (ua w _ hx644_3)).trans hx644_3
        replace hx644_4 := (HB.out.cell (ua w _ hx644_4)).trans hx644_4
        have HR644_4 := z1o.mk hi644_4
        have HC644_4 := z1o.mk hl644_4
        clear hi644_4 hl644_4
        replace p644 := eq_true p644
        replace q644 := eq_true q644
        refine start_ (n := 10) (S := fun w' => w'.cell? (ad643.add ((x5_1).toNat * 5)) = some (.int .i64 ((rd_T47 l0 x5_1).f0)) ∧ w'.cell? ⟨(ad643.add ((x5_1).toNat * 5)).block, (ad643.add ((x5_1).toNat * 5)).off + 1, none⟩ = some (.int .i64 ((rd_T47 l0 x5_1).f1)) ∧ w'.cell? ⟨(ad643.add ((x5_1).toNat * 5)).block, (ad643.add ((x5_1).toNat * 5)).off + 2, none⟩ = some (.string ((rd_T47 l0 x5_1).f2)) ∧ w'.cell? ⟨(ad643.add ((x5_1).toNat * 5)).block, (ad643.add ((x5_1).toNat * 5)).off + 3, none⟩ = some (.string ((rd_T47 l0 x5_1).f3.f0)) ∧ w'.cell? ⟨(ad643.add ((x5_1).toNat * 5)).block, (ad643.add ((x5_1).toNat * 5)).off + 4, none⟩ = some (.slice A643_4 ((rd_T47 l0 x5_1).f3.f1).length c643_4) ∧ w'.cell? (ad644.add ((x5_1).toNat * 5)) = some (.int .i64 ((rd_T47 l1 x5_1).f0)) ∧ w'.cell? ⟨(ad644.add ((x5_1).toNat * 5)).block, (ad644.add ((x5_1).toNat * 5)).off + 1, none⟩ = some (.int .i64 ((rd_T47 l1 x5_1).f1)) ∧ w'.cell? ⟨(ad644.add ((x5_1).toNat * 5)).block, (ad644.add ((x5_1).toNat * 5)).off + 2, none⟩ = some (.string ((rd_T47 l1 x5_1).f2)) ∧ w'.cell? ⟨(ad644.add ((x5_1).toNat * 5)).block, (ad644.add ((x5_1).toNat * 5)).off + 3, none⟩ = some (.string ((rd_T47 l1 x5_1).f3.f0)) ∧ w'.cell? ⟨(ad644.add ((x5_1).toNat * 5)).block, (ad644.add ((x5_1).toNat * 5)).off + 4, none⟩ = some (.slice A644_4 ((rd_T47 l1 x5_1).f3.f1).length c644_4)) (ds := []) #[false, false, false, false, false, false, false, false, false, false] (by kernel_rfl) rfl rfl ⟨((HB.out.cell (ua w _ hw643_0)).trans hw643_0), ((HB.out.cell (ua w _ hw643_1)).trans hw643_1), ((HB.out.cell (ua w _ hw643_2)).trans hw643_2), ((HB.out.cell (ua w _ hw643_3)).trans hw643_3), ((HB.out.cell (ua w _ hw643_4)).trans hw643_4), ((HB.out.cell (ua w _ hw644_0)).trans hw644_0), ((HB.out.cell (ua w _ hw644_1)).trans hw644_1), ((HB.out.cell (ua w _ hw644_2)).trans hw644_2), ((HB.out.cell (ua w _ hw644_3)).trans hw644_3), ((HB.out.cell (ua w _ hw644_4)).trans hw644_4)⟩ (fun hHeld => ?_); refine with_tabW z1a.tab6 z1a.bits6 (fun HT_ HW_ => ?_)
        generalize wr.drew = w11 at HB HR643_4 HR644_4 hx643_0 hx643_1 hx643_2 hx643_3 hx643_4 hx644_0 hx644_1 hx644_2 hx644_3 hx644_4 hHeld ⊢
        refine pure_ (i := 0) (N := some 17) (v := ?_) (a' := ?_) #[true, false, false, false, false, false, false, false, false, false] rfl rfl (any_of HT_.out (by kernel_rfl)) (fun _ _ _ h => h) (Or.inl ⟨by rfl, ?_⟩) ?_ ?_
        rotate_left
        ·intro w'
         go_simp
         with_reducible rfl
        rotate_left
        ·simp only [Act.put, ub, uc, ud, zn, zo]
         rfl
        refine pure_ (i := 1) (N := some 18) (v := ?_) (a' := ?_) #[true, true, false, false, false, false, false, false, false, false] rfl rfl (any_of HT_.out (by kernel_rfl)) (fun _ _ _ h => h) (Or.inl ⟨by rfl, ?_⟩) ?_ ?_
        rotate_left
        ·intro w'
         go_simp
         with_reducible rfl
        rotate_left
        ·simp only [Act.put, ub, uc, ud, zn, zo]
         rfl
        refine pure_ (i := 2) (N := some 19) (v := ?_) (a' := ?_) #[true, true, true, false, false, false, false, false, false, false] rfl rfl (any_of HT_.out (by kernel_rfl)) (fun _ _ _ h => h) (Or.inl ⟨by rfl, ?_⟩) ?_ ?_
        rotate_left
        ·intro w'
         go_simp
         with_reducible rfl
        rotate_left
        ·simp only [Act.put, ub, uc, ud, zn, zo]
         rfl
        refine pure_ (i := 4) (N := some 21) (v := ?_) (a' := ?_) #[true, true, true, false, true, false, false, false, false, false] rfl rfl (any_of HT_.out (by kernel_rfl)) (fun _ _ _ h => h) (Or.inl ⟨by rfl, ?_⟩) ?_ ?_
        rotate_left
        ·intro w'
         go_simp
         with_reducible rfl
        rotate_left
        ·simp only [Act.put, ub, uc, ud, zn, zo]
         rfl
        refine pure_ (i := 5) (N := some 22) (v := ?_) (a' := ?_) #[true, true, true, false, true, true, false, false, false, false] rfl rfl (any_of HT_.out (by kernel_rfl)) (fun _ _ _ h => h) (Or.inl ⟨by rfl, ?_⟩) ?_ ?_
        rotate_left
        ·intro w'
         go_simp
         with_reducible rfl
        rotate_left
        ·simp only [Act.put, ub, uc, ud, zn, zo]
         rfl
        refine pure_ (i := 6) (N := some 23) (v := ?_) (a' := ?_) #[true, true, true, false, true, true, true, false, false, false] rfl rfl (any_of HT_.out (by kernel_rfl)) (fun _ _ _ h => h) (Or.inl ⟨by rfl, ?_⟩) ?_ ?_
        rotate_left
        ·intro w'
         go_simp
         with_reducible rfl
        rotate_left
        ·simp only [Act.put, ub, uc, ud, zn, zo]
         rfl
        refine take_ (i := 3) (N := some 20) (v := ?_) (a' := ?_) #[true, true, true, true, true, true, true, false, false, false] rfl rfl (take_ofW HT_.out HW_.out (by kernel_rfl)) (fun _ _ _ h => h) (Or.inl ⟨by rfl, ?_⟩) hHeld ?_ ?_
        rotate_left
        ·rintro w' ⟨s0, s1, s2, s3, s4, s5, s6, s7, s8, s9⟩
         go_simp
         with_reducible rfl
        rotate_left
        ·simp only [Act.put, ub, uc, ud, zn, zo]
         rfl
        refine take_ (i := 7) (N := some 24) (v := ?_) (a' := ?_) #[true, true, true, true, true, true, true, true, false, false] rfl rfl (take_ofW HT_.out HW_.out (by kernel_rfl)) (fun _ _ _ h => h) (Or.inl ⟨by rfl, ?_⟩) hHeld ?_ ?_
        rotate_left
        ·rintro w' ⟨s0, s1, s2, s3, s4, s5, s6, s7, s8, s9⟩
         go_simp
         with_reducible rfl
        rotate_left
        ·simp only [Act.put, ub, uc, ud, zn, zo]
         rfl
        refine one_ (i := 8) (N := some 25) #[true, true, true, true, true, true, true, true, true, false] rfl rfl (one_of HT_.out (by kernel_rfl)) (by decide) (fun K hK => ?_)
        refine goes_ Try.func26 (by kernel_rfl) rfl #[.agg #[.int .i64 ((rd_T47 l0 x5_1).f0), .int .i64 ((rd_T47 l0 x5_1).f1), .string ((rd_T47 l0 x5_1).f2), .string ((rd_T47 l0 x5_1).f3.f0), .slice A643_4 ((rd_T47 l0 x5_1).f3.f1).length c643_4], .agg #[.int .i64 ((rd_T47 l1 x5_1).f0), .int .i64 ((rd_T47 l1 x5_1).f1), .string ((rd_T47 l1 x5_1).f2), .string ((rd_T47 l1 x5_1).f3.f0), .slice A644_4 ((rd_T47 l1 x5_1).f3.f1).length c644_4]] (by rfl) rfl rfl (by (try simp only [uh, ui, uj]); first | done | rfl | (simp only [uf, ug]; rfl)) ?_
        with_reducible refine (z1c.calls k1 ((rd_T47 l0 x5_1).f0) ((rd_T47 l0 x5_1).f1) ((rd_T47 l0 x5_1).f2) ((rd_T47 l0 x5_1).f3.f0) _ _ ((rd_T47 l0 x5_1).f3.f1) ((rd_T47 l1 x5_1).f0) ((rd_T47 l1 x5_1).f1) ((rd_T47 l1 x5_1).f2) ((rd_T47 l1 x5_1).f3.f0) _ _ ((rd_T47 l1 x5_1).f3.f1) false _ ?side1 ?side2 ?side3 ?side4 A7.out).mono ?_
        (case side1 => exact y2r)
        (case side2 => exact HC643_4.out)
        (case side3 => exact y2s)
        (case side4 => exact HC644_4.out)
        rintro e w12 ⟨rfl, hb⟩
        refine ⟨_, rfl, ?_⟩
        have n0_ := z1o.mk (za y0 hb)
        clear HB
        have HB := n0_
        clear n0_
        (try clear hb)
        (try clear hb2)
        (try clear hk)
        (try clear hi)
        refine hK.out _ _ ⟨((HB.out.cell (ua w _ hw643_0)).trans hw643_0), ((HB.out.cell (ua w _ hw643_1)).trans hw643_1), ((HB.out.cell (ua w _ hw643_2)).trans hw643_2), ((HB.out.cell (ua w _ hw643_3)).trans hw643_3), ((HB.out.cell (ua w _ hw643_4)).trans hw643_4), ((HB.out.cell (ua w _ hw644_0)).trans hw644_0), ((HB.out.cell (ua w _ hw644_1)).trans hw644_1), ((HB.out.cell (ua w _ hw644_2)).trans hw644_2), ((HB.out.cell (ua w _ hw644_3)).trans hw644_3), ((HB.out.cell (ua w _ hw644_4)).trans hw644_4)⟩ (fun hHeld => ?_)
        clear hK K
        refine norm_ (a' := ?_) ?_ ?_
        rotate_left
        ·show Act.put _ (some 25) _ = _
         simp only [Act.put, ub, uc, ud, zn, zo]
         rfl
        refine pure_ (i := 9) (N := some 26) (v := ?_) (a' := ?_) #[true, true, true, true, true, true, true, true, true, true] rfl rfl (any_of HT_.out (by kernel_rfl)) (fun _ _ _ h => h) (Or.inl ⟨by rfl, ?_⟩) ?_ ?_
        rotate_left
        ·intro w'
         go_simp
         with_reducible rfl
        rotate_left
        ·simp only [Act.put, ub, uc, ud, zn, zo]
         rfl
        refine done_ (done_of HT_.out (by kernel_rfl)) ?_
        try go_wp2
        go_ret
        exact ⟨by first | rfl | (simp [zm, zl] <;> rfl) | (simp [*, zm, zl] <;> rfl), y0⟩
      ·rw [if_neg c6] at H
       exact absurd H (by simp)
     ·rw [if_neg c5] at H
      exact absurd H (by simp)
    ·rw [if_neg c4] at H
     have c4b0 : decide (x5_1 < (l0.length : Int)) = false := decide_eq_false c4
     clear c4
     obtain rfl := Option.some.inj H
     go_wp2
     go_ret
     exact ⟨by first | rfl | (simp [zm, zl] <;> rfl) | (simp [*, zm, zl] <;> rfl), y0⟩
 ·rw [if_neg c3] at H
  have c3b0 : ((l0.length : Int) == (l1.length : Int)) = false := beq_eq_false_iff_ne.mpr c3
  have c3b1 : ((l0.length : Int) != (l1.length : Int)) = true := bne_iff_ne.mpr c3
  have c3b2 : (l0.length == l1.length) = false := by first | simpa using c3 | (simp at c3 ⊢; omega)
  obtain rfl := Option.some.inj H
  go_enter Try.func45, Try.ntmps45
  go_wp2
  go_ret
  exact ⟨by first | rfl | (simp [zm, zl] <;> rfl) | (simp [*, zm, zl] <;> rfl), y0⟩
def z13.l0 : Nat → List (S47) → Int → Int → Option (Int)
 | 0, _, _, _ => none
 | k + 1, x0, x1, x5 => if x5 < (x0.length : Int) then (if 0 ≤ x5 then (if ((rd_T47 x0 x5).f0) = x1 then (if ((rd_T47 x0 x5).f1) = (wrap64 (x1 + 1)) then ((z19.f k (wrap64 ((wrap64 (x1 + 1)) + 1))).bind fun t649 => (if ((rd_T47 x0 x5).f2).toList = t649.toList then ((z19.f k (wrap64 ((wrap64 ((wrap64 (x1 + 1)) + 1)) + 1))).bind fun t651 => (if ((rd_T47 x0 x5).f3.f0).toList = t651.toList then ((z14.f k ((rd_T47 x0 x5).f3.f1) (wrap64 ((wrap64 ((wrap64 ((wrap64 (x1 + 1)) + 1)) + 1)) + 1))).bind fun t653 => (if t653 < 0 then (some (-1)) else (z13.l0 k x0 t653 (wrap64 (x5 + 1))))) else (some (-1)))) else (some (-1)))) else (some (-1))) else (some (-1))) else (none)) else (some x1)
def z13.f (k : Nat) (l0 : List (S47)) (a1 : Int) : Option (Int) := z13.l0 k l0 a1 0
def z13.T10 : Bool × List (List Nat × List Nat) := (true, [([], []), ([], []), ([0, 1], [0, 1]), ([2], [2]), ([3], [3]), ([], []), ([5], [5]), ([4, 6], [4, 6])])
def z13.B10 : List Nat := [0, 0, 3, 7, 15, 0, 32, 127]
theorem z13.tab10 : rtab .any (opsOf Try.f47 10) = z13.T10 := by kernel_rfl
theorem z13.bits10 : waitsOk z13.T10.2 z13.B10 = true := by kernel_rfl
def z13.T13 : Bool × List (List Nat × List Nat) := (true, [([], []), ([], []), ([0, 1], [0, 1]), ([2], [2]), ([3], [3]), ([4], [4]), ([], []), ([6], [6]), ([5, 7], [5, 7])])
def z13.B13 : List Nat := [0, 0, 3, 7, 15, 31, 0, 64, 255]
theorem z13.tab13 : rtab .any (opsOf Try.f47 13) = z13.T13 := by kernel_rfl
theorem z13.bits13 : waitsOk z13.T13.2 z13.B13 = true := by kernel_rfl
set_option maxHeartbeats 8000000 in
set_option maxRecDepth 100000 in
theorem z13.calls (k : Nat) (A0 : Option Addr) (c0 : Nat) (l0 : List (S47)) (a1 : Int) (r : Int) (w : World) (hr0 : Kd.C k47 w A0 l0.length l0) (hc0 : l0.length ≤ c0) (h : z13.f k l0 a1 = some r) :
  Calls Try.prog 47 #[.slice A0 l0.length c0, .int .i64 a1] w fun e w' => e = .returned (.int .i64 r) ∧ Below w.heap.size w w' := by
 have HR0 := z1o.mk hr0
 have HC0 := z1o.mk hc0
 clear hr0 hc0
 have HB := z1o.mk (Below.refl w.heap.size w)
 have H : (z13.l0 k l0 a1 0) = some r := h
 clear h
 have H' := z1o.mk H
 clear H
 go_enter Try.func47, Try.ntmps47
 go_wp2
 go_loopg [1, 5] k (fun kq v1 v5 w' => ∃ (x1_1 : Int) (x5_1 : Int), v1 = .int .i64 x1_1 ∧ v5 = .int .i64 x5_1 ∧ z1o (z13.l0 kq l0 x1_1 x5_1 = some r) ∧ z1o (kq ≤ k) ∧ z1o (Below w.heap.size w w'))
 case atStart => exact ⟨(a1), (0), (by first | rfl | (simp; done) | (simp [*]; done)), (by first | rfl | (simp; done) | (simp [*]; done)), H', ⟨um _⟩, ⟨y0⟩⟩
 case round =>
  clear H'
  try clear p2
  obtain ⟨x1_1, x5_1, rfl, rfl, HA, HK1, HB⟩ := hrel
  cases gk with
  | zero => exact absurd HA.out (by simp [z13.l0])
  | succ k1 =>
   have H := HA.out
   clear HA
   simp only [z13.l0] at H
   by_cases c3 : x5_1 < (l0.length : Int)
   ·rw [if_pos c3] at H
    have c3b0 : decide (x5_1 < (l0.length : Int)) = true := decide_eq_true c3
    clear c3
    by_cases c4 : 0 ≤ x5_1
    ·rw [if_pos c4] at H
     have c4b0 : decide (0 ≤ x5_1) = true := decide_eq_true c4
     clear c4
     by_cases c5 : ((rd_T47 l0 x5_1).f0) = x1_1
     ·rw [if_pos c5] at H
      have c5b0 : (((rd_T47 l0 x5_1).f0) == x1_1) = true := beq_iff_eq.mpr c5
      have c5b1 : (((rd_T47 l0 x5_1).f0) != x1_1) = false := bne_eq_false_iff_eq.mpr c5
      clear c5
      by_cases c6 : ((rd_T47 l0 x5_1).f1) = (wrap64 (x1_1 + 1))
      ·rw [if_pos c6] at H
       have c6b0 : (((rd_T47 l0 x5_1).f1) == (wrap64 (x1_1 + 1))) = true := beq_iff_eq.mpr c6
       have c6b1 : (((rd_T47 l0 x5_1).f1) != (wrap64 (x1_1 + 1))) = false := bne_eq_false_iff_eq.mpr c6
       clear c6
       replace H := ue.mp H
       obtain ⟨t649, A70, H⟩ := H
       replace H : (if ((rd_T47 l0 x5_1).f2).toList = t649.toList then ((z19.f k1 (wrap64 ((wrap64 ((wrap64 (x1_1 + 1)) + 1)) + 1))).bind fun t651 => (if ((rd_T47 l0 x5_1).f3.f0).toList = t651.toList then ((z14.f k1 ((rd_T47 l0 x5_1).f3.f1) (wrap64 ((wrap64 ((wrap64 ((wrap64 (x1_1 + 1)) + 1)) + 1)) + 1))).bind fun t653 => (if t653 < 0 then (some (-1)) else (z13.l0 k1 l0 t653 (wrap64 (x5_1 + 1))))) else (some (-1)))) else (some (-1))) = some r := H
       have A7 := z1o.mk A70
       clear A70
       by_cases c8 : ((rd_T47 l0 x5_1).f2).toList = t649.toList
       ·rw [if_pos c8] at H
        have c8b0 : (((rd_T47 l0 x5_1).f2).toList == t649.toList) = true := beq_iff_eq.mpr c8
        have c8b1 : (((rd_T47 l0 x5_1).f2).toList != t649.toList) = false := bne_eq_false_iff_eq.mpr c8
        clear c8
        replace H := ue.mp H
        obtain ⟨t651, A90, H⟩ := H
        replace H : (if ((rd_T47 l0 x5_1).f3.f0).toList = t651.toList then ((z14.f k1 ((rd_T47 l0 x5_1).f3.f1) (wrap64 ((wrap64 ((wrap64 ((wrap64 (x1_1 + 1)) + 1)) + 1)) + 1))).bind fun t653 => (if t653 < 0 then (some (-1)) else (z13.l0 k1 l0 t653 (wrap64 (x5_1 + 1))))) else (some (-1))) = some r := H
        have A9 := z1o.mk A90
        clear A90
        by_cases c10 : ((rd_T47 l0 x5_1).f3.f0).toList = t651.toList
        ·rw [if_pos c10] at H
         have c10b0 : (((rd_T47 l0 x5_1).f3.f0).toList == t651.toList) = true := beq_iff_eq.mpr c10
         have c10b1 : (((rd_T47 l0 x5_1).f3.f0).toList != t651.toList) = false := bne_eq_false_iff_eq.mpr c10
         clear c10
         replace H := ue.mp H
         obtain ⟨t653, A110, H⟩ := H
         replace H : (if t653 < 0 then (some (-1)) else (z13.l0 k1 l0 t653 (wrap64 (x5_1 + 1)))) = some r := H
         have A11 := z1o.mk A110
         clear A110
         by_cases c12 : t653 < 0
         ·rw [if_pos c12] at H
          have c12b0 : decide (t653 < 0) = true := decide_eq_true c12
          clear c12
          obtain rfl := Option.some.inj H
          have p646 : 0 ≤ (x5_1 : Int) := of_decide_eq_true (by first | (with_reducible assumption) | assumption)
          have q646 : x5_1 < (l0.length : Int) := of_decide_eq_true (by first | (with_reducible assumption) | assumption)
          obtain ⟨ad646, A646_4, c646_4, e646, hx646_0, hx646_1, hx646_2, hx646_3, hx646_4, hl646_4, hi646_4⟩ := at_T47 HR0.out x5_1 p646 q646
          have HW646_4 := z1o.mk hx646_4
          cases e646
          replace hx646_0 := (HB.out.cell (ua w _ hx646_0)).trans hx646_0
          replace hx646_1 := (HB.out.cell (ua w _ hx646_1)).trans hx646_1
          replace hx646_2 := (HB.out.cell (ua w _ hx646_2)).trans hx646_2
          replace hx646_3 := (HB.out.cell (ua w _ hx646_3)).trans hx646_3
          replace hx646_4 := (HB.out.cell (ua w _ hx646_4)).trans hx646_4
          have HR646_4 := z1o.mk hi646_4
          have HC646_4 := z1o.mk hl646_4
          clear hi646_4 hl646_4
          replace p646 := eq_true p646
          replace q646 := eq_true q646
          have p647 : 0 ≤ (x5_1 : Int) := of_decide_eq_true (by first | (with_reducible assumption) | assumption)
          have q647 : x5_1 < (l0.length : Int) := of_decide_eq_true (by first | (with_reducible assumption) | assumption)
          obtain ⟨ad647, A647_4, c647_4, e647, hx647_0, hx647_1, hx647_2, hx647_3, hx647_4, hl647_4, hi647_4⟩ := at_T47 HR0.out x5_1 p647 q647
          have HW647_4 := z1o.mk hx647_4
          obtain rfl : ad646 = ad647 := (by injection e647)
          replace hx647_0 := (HB.out.cell (ua w _ hx647_0)).trans hx647_0
          replace hx647_1 := (HB.out.cell (ua w _ hx647_1)).trans hx647_1
          replace hx647_2 := (HB.out.cell (ua w _ hx647_2)).trans hx647_2
          replace hx647_3 := (HB.out.cell (ua w _ hx647_3)).trans hx647_3
          replace hx647_4 := (HB.out.cell (ua w _ hx647_4)).trans hx647_4
          have HR647_4 := z1o.mk hi647_4
          have HC647_4 := z1o.mk hl647_4
          clear hi647_4 hl647_4
          replace p647 := eq_true p647
          replace q647 := eq_true q647
          have ea_ := Option.some.inj (HW646_4.out.symm.trans HW647_4.out)
          injection ea_ with ea_ en_ ec_
          subst ea_
          subst ec_
          clear en_
          try go_wp2
          have n0_ := z1o.mk (z3 HB.out)
          clear HB
          have HB := n0_
          clear n0_
          have p648 : 0 ≤ (x5_1 : Int) := of_decide_eq_true (by first | (with_reducible assumption) | assumption)
          have q648 : x5_1 < (l0.length : Int) := of_decide_eq_true (by first | (with_reducible assumption) | assumption)
          obtain ⟨ad648, A648_4, c648_4, e648, hx648_0, hx648_1, hx648_2, hx648_3, hx648_4, hl648_4, hi648_4⟩ := at_T47 HR0.out x5_1 p648 q648
          have hw648_4 := hx648_4
          have hw648_3 := hx648_3
          have hw648_2 := hx648_2
          have hw648_1 := hx648_1
          have hw648_0 := hx648_0
          have HW648_4 := z1o.mk hx648_4
          obtain rfl : ad646 = ad648 := (by injection e648)
          replace hx648_0 := (HB.out.cell (ua w _ hx648_0)).trans hx648_0
          replace hx648_1 := (HB.out.cell (ua w _ hx648_1)).trans hx648_1
          replace hx648_2 := (HB.out.cell (ua w _ hx648_2)).trans hx648_2
          replace hx648_3 := (HB.out.cell (ua w _ hx648_3)).trans hx648_3
          replace hx648_4 := (HB.out.cell (ua w _ hx648_4)).trans hx648_4
          have HR648_4 := z1o.mk hi648_4
          have HC648_4 := z1o.mk hl648_4
          clear hi648_4 hl648_4
          replace p648 := eq_true p648
          replace q648 := eq_true q648
          have ea_ := Option.some.inj (HW646_4.out.symm.trans HW648_4.out)
          injection ea_ with ea_ en_ ec_
          subst ea_
          subst ec_
          clear en_
          refine start_ (n := 8) (S := fun w' => w'.cell? (ad646.add ((x5_1).toNat * 5)) = some (.int .i64 ((rd_T47 l0 x5_1).f0)) ∧ w'.cell? ⟨(ad646.add ((x5_1).toNat * 5)).block, (ad646.add ((x5_1).toNat * 5)).off + 1, none⟩ = some (.int .i64 ((rd_T47 l0 x5_1).f1)) ∧ w'.cell? ⟨(ad646.add ((x5_1).toNat * 5)).block, (ad646.add ((x5_1).toNat * 5)).off + 2, none⟩ = some (.string ((rd_T47 l0 x5_1).f2)) ∧ w'.cell? ⟨(ad646.add ((x5_1).toNat * 5)).block, (ad646.add ((x5_1).toNat * 5)).off + 3, none⟩ = some (.string ((rd_T47 l0 x5_1).f3.f0)) ∧ w'.cell? ⟨(ad646.add ((x5_1).toNat * 5)).block, (ad646.add ((x5_1).toNat * 5)).off + 4, none⟩ = some (.slice A646_4 ((rd_T47 l0 x5_1).f3.f1).length c646_4)) (ds := []) #[false, false, false, false, false, false, false, false] (by kernel_rfl) rfl rfl ⟨((HB.out.cell (ua w _ hw648_0)).trans hw648_0), ((HB.out.cell (ua w _ hw648_1)).trans hw648_1), ((HB.out.cell (ua w _ hw648_2)).trans hw648_2), ((HB.out.cell (ua w _ hw648_3)).trans hw648_3), ((HB.out.cell (ua w _ hw648_4)).trans hw648_4)⟩ (fun hHeld => ?_); refine with_tabW z13.tab10 z13.bits10 (fun HT_ HW_ => ?_)
          generalize wr.drew = w13 at HB HR648_4 hx648_0 hx648_1 hx648_2 hx648_3 hx648_4 hHeld ⊢
          refine pure_ (i := 0) (N := some 30) (v := ?_) (a' := ?_) #[true, false, false, false, false, false, false, false] rfl rfl (any_of HT_.out (by kernel_rfl)) (fun _ _ _ h => h) (Or.inl ⟨by rfl, ?_⟩) ?_ ?_
          rotate_left
          ·intro w'
           go_simp
           with_reducible rfl
          rotate_left
          ·simp only [Act.put, ub, uc, ud, zn, zo]
           rfl
          refine pure_ (i := 1) (N := some 31) (v := ?_) (a' := ?_) #[true, true, false, false, false, false, false, false] rfl rfl (any_of HT_.out (by kernel_rfl)) (fun _ _ _ h => h) (Or.inl ⟨by rfl, ?_⟩) ?_ ?_
          rotate_left
          ·intro w'
           go_simp
           with_reducible rfl
          rotate_left
          ·simp only [Act.put, ub, uc, ud, zn, zo]
           rfl
          refine pure_ (i := 2) (N := some 32) (v := ?_) (a' := ?_) #[true, true, true, false, false, false, false, false] rfl rfl (any_of HT_.out (by kernel_rfl)) (fun _ _ _ h => h) (Or.inl ⟨by rfl, ?_⟩) ?_ ?_
          rotate_left
          ·intro w'
           go_simp
           with_reducible rfl
          rotate_left
          ·simp only [Act.put, ub, uc, ud, zn, zo]
           rfl
          refine pure_ (i := 3) (N := some 33) (v := ?_) (a' := ?_) #[true, true, true, true, false, false, false, false] rfl rfl (any_of HT_.out (by kernel_rfl)) (fun _ _ _ h => h) (Or.inl ⟨by rfl, ?_⟩) ?_ ?_
          rotate_left
          ·intro w'
           go_simp
           with_reducible rfl
          rotate_left
          ·simp only [Act.put, ub, uc, ud, zn, zo]
           rfl
          refine pure_ (i := 5) (N := some 35) (v := ?_) (a' := ?_) #[true, true, true, true, false, true, false, false] rfl rfl (any_of HT_.out (by kernel_rfl)) (fun _ _ _ h => h) (Or.inl ⟨by rfl, ?_⟩) ?_ ?_
          rotate_left
          ·intro w'
           go_simp
           with_reducible rfl
          rotate_left
          ·simp only [Act.put, ub, uc, ud, zn, zo]
           rfl
          refine take_ (i := 4) (N := some 34) (v := ?_) (a' := ?_) #[true, true, true, true, true, true, false, false] rfl rfl (take_ofW HT_.out HW_.out (by kernel_rfl)) (fun _ _ _ h => h) (Or.inl ⟨by rfl, ?_⟩) hHeld ?_ ?_
          rotate_left
          ·rintro w' ⟨s0, s1, s2, s3, s4⟩
           go_simp
           with_reducible rfl
          rotate_left
          ·simp only [Act.put, ub, uc, ud, zn, zo]
           rfl
          refine one_ (i := 6) (N := some 36) #[true, true, true, true, true, true, true, false] rfl rfl (one_of HT_.out (by kernel_rfl)) (by decide) (fun K hK => ?_)
          refine goes_ Try.func85 (by kernel_rfl) rfl #[.int .i64 (wrap64 ((wrap64 (x1_1 + 1)) + 1))] (by rfl) rfl rfl (by (try simp only [uh, ui, uj]); first | done | rfl | (simp only [uf, ug]; rfl)) ?_
          with_reducible refine (z19.calls k1 (wrap64 ((wrap64 (x1_1 + 1)) + 1)) t649 _ A7.out).mono ?_
          rintro e w14 ⟨rfl, hb⟩
          refine ⟨_, rfl, ?_⟩
          have n0_ := z1o.mk (za y0 hb)
          clear HB
          have HB := n0_
          clear n0_
          (try clear hb)
          (try clear hb2)
          (try clear hk)
          (try clear hi)
          refine hK.out _ _ ⟨((HB.out.cell (ua w _ hw648_0)).trans hw648_0), ((HB.out.cell (ua w _ hw648_1)).trans hw648_1), ((HB.out.cell (ua w _ hw648_2)).trans hw648_2), ((HB.out.cell (ua w _ hw648_3)).trans hw648_3), ((HB.out.cell (ua w _ hw648_4)).trans hw648_4)⟩ (fun hHeld => ?_)
          clear hK K
          refine norm_ (a' := ?_) ?_ ?_
          rotate_left
          ·show Act.put _ (some 36) _ = _
           simp only [Act.put, ub, uc, ud, zn, zo]
           rfl
          refine pure_ (i := 7) (N := some 37) (v := ?_) (a' := ?_) #[true, true, true, true, true, true, true, true] rfl rfl (any_of HT_.out (by kernel_rfl)) (fun _ _ _ h => h) (Or.inl ⟨by rfl, ?_⟩) ?_ ?_
          rotate_left
          ·intro w'
           go_simp
           with_reducible rfl
          rotate_left
          ·simp only [Act.put, ub, uc, ud, zn, zo]
           rfl
          refine done_ (done_of HT_.out (by kernel_rfl)) ?_
          try go_wp2
          have n0_ := z1o.mk (z3 HB.out)
          clear HB
          have HB := n0_
          clear n0_
          have p650 : 0 ≤ (x5_1 : Int) := of_decide_eq_true (by first | (with_reducible assumption) | assumption)
          have q650 : x5_1 < (l0.length : Int) := of_decide_eq_true (by first | (with_reducible assumption) | assumption)
          obtain ⟨ad650, A650_4, c650_4, e650, hx650_0, hx650_1, hx650_2, hx650_3, hx650_4, hl650_4, hi650_4⟩ := at_T47 HR0.out x5_1 p650 q650
          have hw650_4 := hx650_4
          have hw650_3 := hx650_3
          have hw650_2 := hx650_2
          have hw650_1 := hx650_1
          have hw650_0 := hx650_0
          have HW650_4 := z1o.mk hx650_4
          obtain rfl : ad646 = ad650 := (by injection e650)
          replace hx650_0 := (HB.out.cell (ua w _ hx650_0)).trans hx650_0
          replace hx650_1 := (HB.out.cell (ua w _ hx650_1)).trans hx650_1
          replace hx650_2 := (HB.out.cell (ua w _ hx650_2)).trans hx650_2
          replace hx650_3 := (HB.out.cell (ua w _ hx650_3)).trans hx650_3
          replace hx650_4 := (HB.out.cell (ua w _ hx650_4)).trans hx650_4
          have HR650_4 := z1o.mk hi650_4
          have HC650_4 := z1o.mk hl650_4
          clear hi650_4 hl650_4
          replace p650 := eq_true p650
          replace q650 := eq_true q650
          have ea_ := Option.some.inj (HW646_4.out.symm.trans HW650_4.out)
          injection ea_ with ea_ en_ ec_
          subst ea_
          subst ec_
          clear en_
          refine start_ (n := 9) (S := fun w' => w'.cell? (ad646.add ((x5_1).toNat * 5)) = some (.int .i64 ((rd_T47 l0 x5_1).f0)) ∧ w'.cell? ⟨(ad646.add ((x5_1).toNat * 5)).block, (ad646.add ((x5_1).toNat * 5)).off + 1, none⟩ = some (.int .i64 ((rd_T47 l0 x5_1).f1)) ∧ w'.cell? ⟨(ad646.add ((x5_1).toNat * 5)).block, (ad646.add ((x5_1).toNat * 5)).off + 2, none⟩ = some (.string ((rd_T47 l0 x5_1).f2)) ∧ w'.cell? ⟨(ad646.add ((x5_1).toNat * 5)).block, (ad646.add ((x5_1).toNat * 5)).off + 3, none⟩ = some (.string ((rd_T47 l0 x5_1).f3.f0)) ∧ w'.cell? ⟨(ad646.add ((x5_1).toNat * 5)).block, (ad646.add ((x5_1).toNat * 5)).off + 4, none⟩ = some (.slice A646_4 ((rd_T47 l0 x5_1).f3.f1).length c646_4)) (ds := []) #[false, false, false, false, false, false, false, false, false] (by kernel_rfl) rfl rfl ⟨((HB.out.cell (ua w _ hw650_0)).trans hw650_0), ((HB.out.cell (ua w _ hw650_1)).trans hw650_1), ((HB.out.cell (ua w _ hw650_2)).trans hw650_2), ((HB.out.cell (ua w _ hw650_3)).trans hw650_3), ((HB.out.cell (ua w _ hw650_4)).trans hw650_4)⟩ (fun hHeld => ?_); refine with_tabW z13.tab13 z13.bits13 (fun HT_ HW_ => ?_)
          generalize w14.drew = w15 at HB HR650_4 hx650_0 hx650_1 hx650_2 hx650_3 hx650_4 hHeld ⊢
          refine pure_ (i := 0) (N := some 40) (v := ?_) (a' := ?_) #[true, false, false, false, false, false, false, false, false] rfl rfl (any_of HT_.out (by kernel_rfl)) (fun _ _ _ h => h) (Or.inl ⟨by rfl, ?_⟩) ?_ ?_
          rotate_left
          ·intro w'
           go_simp
           with_reducible rfl
          rotate_left
          ·simp only [Act.put, ub, uc, ud, zn, zo]
           rfl
          refine pure_ (i := 1) (N := some 41) (v := ?_) (a' := ?_) #[true, true, false, false, false, false, false, false, false] rfl rfl (any_of HT_.out (by kernel_rfl)) (fun _ _ _ h => h) (Or.inl ⟨by rfl, ?_⟩) ?_ ?_
          rotate_left
          ·intro w'
           go_simp
           with_reducible rfl
          rotate_left
          ·simp only [Act.put, ub, uc, ud, zn, zo]
           rfl
          refine pure_ (i := 2) (N := some 42) (v := ?_) (a' := ?_) #[true, true, true, false, false, false, false, false, false] rfl rfl (any_of HT_.out (by kernel_rfl)) (fun _ _ _ h => h) (Or.inl ⟨by rfl, ?_⟩) ?_ ?_
          rotate_left
          ·intro w'
           go_simp
           with_reducible rfl
          rotate_left
          ·simp only [Act.put, ub, uc, ud, zn, zo]
           rfl
          refine pure_ (i := 3) (N := some 43) (v := ?_) (a' := ?_) #[true, true, true, true, false, false, false, false, false] rfl rfl (any_of HT_.out (by kernel_rfl)) (fun _ _ _ h => h) (Or.inl ⟨by rfl, ?_⟩) ?_ ?_
          rotate_left
          ·intro w'
           go_simp
           with_reducible rfl
          rotate_left
          ·simp only [Act.put, ub, uc, ud, zn, zo]
           rfl
          refine pure_ (i := 4) (N := some 44) (v := ?_) (a' := ?_) #[true, true, true, true, true, false, false, false, false] rfl rfl (any_of HT_.out (by kernel_rfl)) (fun _ _ _ h => h) (Or.inl ⟨by rfl, ?_⟩) ?_ ?_
          rotate_left
          ·intro w'
           go_simp
           with_reducible rfl
          rotate_left
          ·simp only [Act.put, ub, uc, ud, zn, zo]
           rfl
          refine pure_ (i := 6) (N := some 46) (v := ?_) (a' := ?_) #[true, true, true, true, true, false, true, false, false] rfl rfl (any_of HT_.out (by kernel_rfl)) (fun _ _ _ h => h) (Or.inl ⟨by rfl, ?_⟩) ?_ ?_
          rotate_left
          ·intro w'
           go_simp
           with_reducible rfl
          rotate_left
          ·simp only [Act.put, ub, uc, ud, zn, zo]
           rfl
          refine take_ (i := 5) (N := some 45) (v := ?_) (a' := ?_) #[true, true, true, true, true, true, true, false, false] rfl rfl (take_ofW HT_.out HW_.out (by kernel_rfl)) (fun _ _ _ h => h) (Or.inl ⟨by rfl, ?_⟩) hHeld ?_ ?_
          rotate_left
          ·rintro w' ⟨s0, s1, s2, s3, s4⟩
           go_simp
           with_reducible rfl
          rotate_left
          ·simp only [Act.put, ub, uc, ud, zn, zo]
           rfl
          refine one_ (i := 7) (N := some 47) #[true, true, true, true, true, true, true, true, false] rfl rfl (one_of HT_.out (by kernel_rfl)) (by decide) (fun K hK => ?_)
          refine goes_ Try.func85 (by kernel_rfl) rfl #[.int .i64 (wrap64 ((wrap64 ((wrap64 (x1_1 + 1)) + 1)) + 1))] (by rfl) rfl rfl (by (try simp only [uh, ui, uj]); first | done | rfl | (simp only [uf, ug]; rfl)) ?_
          with_reducible refine (z19.calls k1 (wrap64 ((wrap64 ((wrap64 (x1_1 + 1)) + 1)) + 1)) t651 _ A9.out).mono ?_
          rintro e w16 ⟨rfl, hb⟩
          refine ⟨_, rfl, ?_⟩
          have n0_ := z1o.mk (za y0 hb)
          clear HB
          have HB := n0_
          clear n0_
          (try clear hb)
          (try clear hb2)
          (try clear hk)
          (try clear hi)
          refine hK.out _ _ ⟨((HB.out.cell (ua w _ hw650_0)).trans hw650_0), ((HB.out.cell (ua w _ hw650_1)).trans hw650_1), ((HB.out.cell (ua w _ hw650_2)).trans hw650_2), ((HB.out.cell (ua w _ hw650_3)).trans hw650_3), ((HB.out.cell (ua w _ hw650_4)).trans hw650_4)⟩ (fun hHeld => ?_)
          clear hK K
          refine norm_ (a' := ?_) ?_ ?_
          rotate_left
          ·show Act.put _ (some 47) _ = _
           simp only [Act.put, ub, uc, ud, zn, zo]
           rfl
          refine pure_ (i := 8) (N := some 48) (v := ?_) (a' := ?_) #[true, true, true, true, true, true, true, true, true] rfl rfl (any_of HT_.out (by kernel_rfl)) (fun _ _ _ h => h) (Or.inl ⟨by rfl, ?_⟩) ?_ ?_
          rotate_left
          ·intro w'
           go_simp
           with_reducible rfl
          rotate_left
          ·simp only [Act.put, ub, uc, ud, zn, zo]
           rfl
          refine done_ (done_of HT_.out (by kernel_rfl)) ?_
          have p652 : 0 ≤ (x5_1 : Int) := of_decide_eq_true (by first | (with_reducible assumption) | assumption)
          have q652 : x5_1 < (l0.length : Int) := of_decide_eq_true (by first | (with_reducible assumption) | assumption)
          obtain ⟨ad652, A652_4, c652_4, e652, hx652_0, hx652_1, hx652_2, hx652_3, hx652_4, hl652_4, hi652_4⟩ := at_T47 HR0.out x5_1 p652 q652
          have HW652_4 := z1o.mk hx652_4
          obtain rfl : ad646 = ad652 := (by injection e652)
          replace hx652_0 := (HB.out.cell (ua w _ hx652_0)).trans hx652_0
          replace hx652_1 := (HB.out.cell (ua w _ hx652_1)).trans hx652_1
          replace hx652_2 := (HB.out.cell (ua w _ hx652_2)).trans hx652_2
          replace hx652_3 := (HB.out.cell (ua w _ hx652_3)).trans hx652_3
          replace hx652_4 := (HB.out.cell (ua w _ hx652_4)).trans hx652_4
          have HR652_4 := z1o.mk hi652_4
          have HC652_4 := z1o.mk hl652_4
          clear hi652_4 hl652_4
          replace p652 := eq_true p652
          replace q652 := eq_true q652
          have ea_ := Option.some.inj (HW646_4.out.symm.trans HW652_4.out)
          injection ea_ with ea_ en_ ec_
          subst ea_
          subst ec_
          clear en_
          try go_wp2_with (first | ((with_reducible refine zp (f := 59) rfl ?_); refine goesL_ (some 58) rfl rfl Try.func59 (by kernel_rfl) rfl #[.slice A646_4 ((rd_T47 l0 x5_1).f3.f1).length c646_4, .int .i64 (wrap64 ((wrap64 ((wrap64 ((wrap64 (x1_1 + 1)) + 1)) + 1)) + 1))] rfl (by (try simp only [uh, ui, uj]); first | done | rfl | (simp only [uf, ug]; rfl)) ?_; (with_reducible refine (z14.calls k1 _ _ ((rd_T47 l0 x5_1).f3.f1) (wrap64 ((wrap64 ((wrap64 ((wrap64 (x1_1 + 1)) + 1)) + 1)) + 1)) t653 _ ?side1 ?side2 A11.out).mono ?_); (case side1 => exact y2t); (case side2 => exact HC652_4.out); rintro e w17 ⟨rfl, hb⟩; refine ⟨_, rfl, ?_⟩; have n0_ := z1o.mk (za y0 hb); clear HB; have HB := n0_; clear n0_; (try clear hb); (try clear hb2); (try clear hk); (try clear hi)))
          go_ret
          exact ⟨by first | rfl | (simp [zm, zl] <;> rfl) | (simp [*, zm, zl] <;> rfl), y0⟩
         ·rw [if_neg c12] at H
          have c12b0 : decide (t653 < 0) = false := decide_eq_false c12
          clear c12
          have H' := z1o.mk H
          clear H
          have p646 : 0 ≤ (x5_1 : Int) := of_decide_eq_true (by first | (with_reducible assumption) | assumption)
          have q646 : x5_1 < (l0.length : Int) := of_decide_eq_true (by first | (with_reducible assumption) | assumption)
          obtain ⟨ad646, A646_4, c646_4, e646, hx646_0, hx646_1, hx646_2, hx646_3, hx646_4, hl646_4, hi646_4⟩ := at_T47 HR0.out x5_1 p646 q646
          have HW646_4 := z1o.mk hx646_4
          cases e646
          replace hx646_0 := (HB.out.cell (ua w _ hx646_0)).trans hx646_0
          replace hx646_1 := (HB.out.cell (ua w _ hx646_1)).trans hx646_1
          replace hx646_2 := (HB.out.cell (ua w _ hx646_2)).trans hx646_2
          replace hx646_3 := (HB.out.cell (ua w _ hx646_3)).trans hx646_3
          replace hx646_4 := (HB.out.cell (ua w _ hx646_4)).trans hx646_4
          have HR646_4 := z1o.mk hi646_4
          have HC646_4 := z1o.mk hl646_4
          clear hi646_4 hl646_4
          replace p646 := eq_true p646
          replace q646 := eq_true q646
          have p647 : 0 ≤ (x5_1 : Int) := of_decide_eq_true (by first | (with_reducible assumption) | assumption)
          have q647 : x5_1 < (l0.length : Int) := of_decide_eq_true (by first | (with_reducible assumption) | assumption)
          obtain ⟨ad647, A647_4, c647_4, e647, hx647_0, hx647_1, hx647_2, hx647_3, hx647_4, hl647_4, hi647_4⟩ := at_T47 HR0.out x5_1 p647 q647
          have HW647_4 := z1o.mk hx647_4
          obtain rfl : ad646 = ad647 := (by injection e647)
          replace hx647_0 := (HB.out.cell (ua w _ hx647_0)).trans hx647_0
          replace hx647_1 := (HB.out.cell (ua w _ hx647_1)).trans hx647_1
          replace hx647_2 := (HB.out.cell (ua w _ hx647_2)).trans hx647_2
          replace hx647_3 := (HB.out.cell (ua w _ hx647_3)).trans hx647_3
          replace hx647_4 := (HB.out.cell (ua w _ hx647_4)).trans hx647_4
          have HR647_4 := z1o.mk hi647_4
          have HC647_4 := z1o.mk hl647_4
          clear hi647_4 hl647_4
          replace p647 := eq_true p647
          replace q647 := eq_true q647
          have ea_ := Option.some.inj (HW646_4.out.symm.trans HW647_4.out)
          injection ea_ with ea_ en_ ec_
          subst ea_
          subst ec_
          clear en_
          try go_wp2
          have n0_ := z1o.mk (z3 HB.out)
          clear HB
          have HB := n0_
          clear n0_
          have p648 : 0 ≤ (x5_1 : Int) := of_decide_eq_true (by first | (with_reducible assumption) | assumption)
          have q648 : x5_1 < (l0.length : Int) := of_decide_eq_true (by first | (with_reducible assumption) | assumption)
          obtain ⟨ad648, A648_4, c648_4, e648, hx648_0, hx648_1, hx648_2, hx648_3, hx648_4, hl648_4, hi648_4⟩ := at_T47 HR0.out x5_1 p648 q648
          have hw648_4 := hx648_4
          have hw648_3 := hx648_3
          have hw648_2 := hx648_2
          have hw648_1 := hx648_1
          have hw648_0 := hx648_0
          have HW648_4 := z1o.mk hx648_4
          obtain rfl : ad646 = ad648 := (by injection e648)
          replace hx648_0 := (HB.out.cell (ua w _ hx648_0)).trans hx648_0
          replace hx648_1 := (HB.out.cell (ua w _ hx648_1)).trans hx648_1
          replace hx648_2 := (HB.out.cell (ua w _ hx648_2)).trans hx648_2
          replace hx648_3 := (HB.out.cell (ua w _ hx648_3)).trans hx648_3
          replace hx648_4 := (HB.out.cell (ua w _ hx648_4)).trans hx648_4
          have HR648_4 := z1o.mk hi648_4
          have HC648_4 := z1o.mk hl648_4
          clear hi648_4 hl648_4
          replace p648 := eq_true p648
          replace q648 := eq_true q648
          have ea_ := Option.some.inj (HW646_4.out.symm.trans HW648_4.out)
          injection ea_ with ea_ en_ ec_
          subst ea_
          subst ec_
          clear en_
          refine start_ (n := 8) (S := fun w' => w'.cell? (ad646.add ((x5_1).toNat * 5)) = some (.int .i64 ((rd_T47 l0 x5_1).f0)) ∧ w'.cell? ⟨(ad646.add ((x5_1).toNat * 5)).block, (ad646.add ((x5_1).toNat * 5)).off + 1, none⟩ = some (.int .i64 ((rd_T47 l0 x5_1).f1)) ∧ w'.cell? ⟨(ad646.add ((x5_1).toNat * 5)).block, (ad646.add ((x5_1).toNat * 5)).off + 2, none⟩ = some (.string ((rd_T47 l0 x5_1).f2)) ∧ w'.cell? ⟨(ad646.add ((x5_1).toNat * 5)).block, (ad646.add ((x5_1).toNat * 5)).off + 3, none⟩ = some (.string ((rd_T47 l0 x5_1).f3.f0)) ∧ w'.cell? ⟨(ad646.add ((x5_1).toNat * 5)).block, (ad646.add ((x5_1).toNat * 5)).off + 4, none⟩ = some (.slice A646_4 ((rd_T47 l0 x5_1).f3.f1).length c646_4)) (ds := []) #[false, false, false, false, false, false, false, false] (by kernel_rfl) rfl rfl ⟨((HB.out.cell (ua w _ hw648_0)).trans hw648_0), ((HB.out.cell (ua w _ hw648_1)).trans hw648_1), ((HB.out.cell (ua w _ hw648_2)).trans hw648_2), ((HB.out.cell (ua w _ hw648_3)).trans hw648_3), ((HB.out.cell (ua w _ hw648_4)).trans hw648_4)⟩ (fun hHeld => ?_); refine with_tabW z13.tab10 z13.bits10 (fun HT_ HW_ => ?_)
          generalize wr.drew = w18 at HB HR648_4 hx648_0 hx648_1 hx648_2 hx648_3 hx648_4 hHeld ⊢
          refine pure_ (i := 0) (N := some 30) (v := ?_) (a' := ?_) #[true, false, false, false, false, false, false, false] rfl rfl (any_of HT_.out (by kernel_rfl)) (fun _ _ _ h => h) (Or.inl ⟨by rfl, ?_⟩) ?_ ?_
          rotate_left
          ·intro w'
           go_simp
           with_reducible rfl
          rotate_left
          ·simp only [Act.put, ub, uc, ud, zn, zo]
           rfl
          refine pure_ (i := 1) (N := some 31) (v := ?_) (a' := ?_) #[true, true, false, false, false, false, false, false] rfl rfl (any_of HT_.out (by kernel_rfl)) (fun _ _ _ h => h) (Or.inl ⟨by rfl, ?_⟩) ?_ ?_
          rotate_left
          ·intro w'
           go_simp
           with_reducible rfl
          rotate_left
          ·simp only [Act.put, ub, uc, ud, zn, zo]
           rfl
          refine pure_ (i := 2) (N := some 32) (v := ?_) (a' := ?_) #[true, true, true, false, false, false, false, false] rfl rfl (any_of HT_.out (by kernel_rfl)) (fun _ _ _ h => h) (Or.inl ⟨by rfl, ?_⟩) ?_ ?_
          rotate_left
          ·intro w'
           go_simp
           with_reducible rfl
          rotate_left
          ·simp only [Act.put, ub, uc, ud, zn, zo]
           rfl
          refine pure_ (i := 3) (N := some 33) (v := ?_) (a' := ?_) #[true, true, true, true, false, false, false, false] rfl rfl (any_of HT_.out (by kernel_rfl)) (fun _ _ _ h => h) (Or.inl ⟨by rfl, ?_⟩) ?_ ?_
          rotate_left
          ·intro w'
           go_simp
           with_reducible rfl
          rotate_left
          ·simp only [Act.put, ub, uc, ud, zn, zo]
           rfl
          refine pure_ (i := 5) (N := some 35) (v := ?_) (a' := ?_) #[true, true, true, true, false, true, false, false] rfl rfl (any_of HT_.out (by kernel_rfl)) (fun _ _ _ h => h) (Or.inl ⟨by rfl, ?_⟩) ?_ ?_
          rotate_left
          ·intro w'
           go_simp
           with_reducible rfl
          rotate_left
          ·simp only [Act.put, ub, uc, ud, zn, zo]
           rfl
          refine take_ (i := 4) (N := some 34) (v := ?_) (a' := ?_) #[true, true, true, true, true, true, false, false] rfl rfl (take_ofW HT_.out HW_.out (by kernel_rfl)) (fun _ _ _ h => h) (Or.inl ⟨by rfl, ?_⟩) hHeld ?_ ?_
          rotate_left
          ·rintro w' ⟨s0, s1, s2, s3, s4⟩
           go_simp
           with_reducible rfl
          rotate_left
          ·simp only [Act.put, ub, uc, ud, zn, zo]
           rfl
          refine one_ (i := 6) (N := some 36) #[true, true, true, true, true, true, true, false] rfl rfl (one_of HT_.out (by kernel_rfl)) (by decide) (fun K hK => ?_)
          refine goes_ Try.func85 (by kernel_rfl) rfl #[.int .i64 (wrap64 ((wrap64 (x1_1 + 1)) + 1))] (by rfl) rfl rfl (by (try simp only [uh, ui, uj]); first | done | rfl | (simp only [uf, ug]; rfl)) ?_
          with_reducible refine (z19.calls k1 (wrap64 ((wrap64 (x1_1 + 1)) + 1)) t649 _ A7.out).mono ?_
          rintro e w19 ⟨rfl, hb⟩
          refine ⟨_, rfl, ?_⟩
          have n0_ := z1o.mk (za y0 hb)
          clear HB
          have HB := n0_
          clear n0_
          (try clear hb)
          (try clear hb2)
          (try clear hk)
          (try clear hi)
          refine hK.out _ _ ⟨((HB.out.cell (ua w _ hw648_0)).trans hw648_0), ((HB.out.cell (ua w _ hw648_1)).trans hw648_1), ((HB.out.cell (ua w _ hw648_2)).trans hw648_2), ((HB.out.cell (ua w _ hw648_3)).trans hw648_3), ((HB.out.cell (ua w _ hw648_4)).trans hw648_4)⟩ (fun hHeld => ?_)
          clear hK K
          refine norm_ (a' := ?_) ?_ ?_
          rotate_left
          ·show Act.put _ (some 36) _ = _
           simp only [Act.put, ub, uc, ud, zn, zo]
           rfl
          refine pure_ (i := 7) (N := some 37) (v := ?_) (a' := ?_) #[true, true, true, true, true, true, true, true] rfl rfl (any_of HT_.out (by kernel_rfl)) (fun _ _ _ h => h) (Or.inl ⟨by rfl, ?_⟩) ?_ ?_
          rotate_left
          ·intro w'
           go_simp
           with_reducible rfl
          rotate_left
          ·simp only [Act.put, ub, uc, ud, zn, zo]
           rfl
          refine done_ (done_of HT_.out (by kernel_rfl)) ?_
          try go_wp2
          have n0_ := z1o.mk (z3 HB.out)
          clear HB
          have HB := n0_
          clear n0_
          have p650 : 0 ≤ (x5_1 : Int) := of_decide_eq_true (by first | (with_reducible assumption) | assumption)
          have q650 : x5_1 < (l0.length : Int) := of_decide_eq_true (by first | (with_reducible assumption) | assumption)
          obtain ⟨ad650, A650_4, c650_4, e650, hx650_0, hx650_1, hx650_2, hx650_3, hx650_4, hl650_4, hi650_4⟩ := at_T47 HR0.out x5_1 p650 q650
          have hw650_4 := hx650_4
          have hw650_3 := hx650_3
          have hw650_2 := hx650_2
          have hw650_1 := hx650_1
          have hw650_0 := hx650_0
          have HW650_4 := z1o.mk hx650_4
          obtain rfl : ad646 = ad650 := (by injection e650)
          replace hx650_0 := (HB.out.cell (ua w _ hx650_0)).trans hx650_0
          replace hx650_1 := (HB.out.cell (ua w _ hx650_1)).trans hx650_1
          replace hx650_2 := (HB.out.cell (ua w _ hx650_2)).trans hx650_2
          replace hx650_3 := (HB.out.cell (ua w _ hx650_3)).trans hx650_3
          replace hx650_4 := (HB.out.cell (ua w _ hx650_4)).trans hx650_4
          have HR650_4 := z1o.mk hi650_4
          have HC650_4 := z1o.mk hl650_4
          clear hi650_4 hl650_4
          replace p650 := eq_true p650
          replace q650 := eq_true q650
          have ea_ := Option.some.inj (HW646_4.out.symm.trans HW650_4.out)
          injection ea_ with ea_ en_ ec_
          subst ea_
          subst ec_
          clear en_
          refine start_ (n := 9) (S := fun w' => w'.cell? (ad646.add ((x5_1).toNat * 5)) = some (.int .i64 ((rd_T47 l0 x5_1).f0)) ∧ w'.cell? ⟨(ad646.add ((x5_1).toNat * 5)).block, (ad646.add ((x5_1).toNat * 5)).off + 1, none⟩ = some (.int .i64 ((rd_T47 l0 x5_1).f1)) ∧ w'.cell? ⟨(ad646.add ((x5_1).toNat * 5)).block, (ad646.add ((x5_1).toNat * 5)).off + 2, none⟩ = some (.string ((rd_T47 l0 x5_1).f2)) ∧ w'.cell? ⟨(ad646.add ((x5_1).toNat * 5)).block, (ad646.add ((x5_1).toNat * 5)).off + 3, none⟩ = some (.string ((rd_T47 l0 x5_1).f3.f0)) ∧ w'.cell? ⟨(ad646.add ((x5_1).toNat * 5)).block, (ad646.add ((x5_1).toNat * 5)).off + 4, none⟩ = some (.slice A646_4 ((rd_T47 l0 x5_1).f3.f1).length c646_4)) (ds := []) #[false, false, false, false, false, false, false, false, false] (by kernel_rfl) rfl rfl ⟨((HB.out.cell (ua w _ hw650_0)).trans hw650_0), ((HB.out.cell (ua w _ hw650_1)).trans hw650_1), ((HB.out.cell (ua w _ hw650_2)).trans hw650_2), ((HB.out.cell (ua w _ hw650_3)).trans hw650_3), ((HB.out.cell (ua w _ hw650_4)).trans hw650_4)⟩ (fun hHeld => ?_); refine with_tabW z13.tab13 z13.bits13 (fun HT_ HW_ => ?_)
          generalize w19.drew = w20 at HB HR650_4 hx650_0 hx650_1 hx650_2 hx650_3 hx650_4 hHeld ⊢
          refine pure_ (i := 0) (N := some 40) (v := ?_) (a' := ?_) #[true, false, false, false, false, false, false, false, false] rfl rfl (any_of HT_.out (by kernel_rfl)) (fun _ _ _ h => h) (Or.inl ⟨by rfl, ?_⟩) ?_ ?_
          rotate_left
          ·intro w'
           go_simp
           with_reducible rfl
          rotate_left
          ·simp only [Act.put, ub, uc, ud, zn, zo]
           rfl
          refine pure_ (i := 1) (N := some 41) (v := ?_) (a' := ?_) #[true, true, false, false, false, false, false, false, false] rfl rfl (any_of HT_.out (by kernel_rfl)) (fun _ _ _ h => h) (Or.inl ⟨by rfl, ?_⟩) ?_ ?_
          rotate_left
          ·intro w'
           go_simp
           with_reducible rfl
          rotate_left
          ·simp only [Act.put, ub, uc, ud, zn, zo]
           rfl
          refine pure_ (i := 2) (N := some 42) (v := ?_) (a' := ?_) #[true, true, true, false, false, false, false, false, false] rfl rfl (any_of HT_.out (by kernel_rfl)) (fun _ _ _ h => h) (Or.inl ⟨by rfl, ?_⟩) ?_ ?_
          rotate_left
          ·intro w'
           go_simp
           with_reducible rfl
          rotate_left
          ·simp only [Act.put, ub, uc, ud, zn, zo]
           rfl
          refine pure_ (i := 3) (N := some 43) (v := ?_) (a' := ?_) #[true, true, true, true, false, false, false, false, false] rfl rfl (any_of HT_.out (by kernel_rfl)) (fun _ _ _ h => h) (Or.inl ⟨by rfl, ?_⟩) ?_ ?_
          rotate_left
          ·intro w'
           go_simp
           with_reducible rfl
          rotate_left
          ·simp only [Act.put, ub, uc, ud, zn, zo]
           rfl
          refine pure_ (i := 4) (N := some 44) (v := ?_) (a' := ?_) #[true, true, true, true, true, false, false, false, false] rfl rfl (any_of HT_.out (by kernel_rfl)) (fun _ _ _ h => h) (Or.inl ⟨by rfl, ?_⟩) ?_ ?_
          rotate_left
          ·intro w'
           go_simp
           with_reducible rfl
          rotate_left
          ·simp only [Act.put, ub, uc, ud, zn, zo]
           rfl
          refine pure_ (i := 6) (N := some 46) (v := ?_) (a' := ?_) #[true, true, true, true, true, false, true, false, false] rfl rfl (any_of HT_.out (by kernel_rfl)) (fun _ _ _ h => h) (Or.inl ⟨by rfl, ?_⟩) ?_ ?_
          rotate_left
          ·intro w'
           go_simp
           with_reducible rfl
          rotate_left
          ·simp only [Act.put, ub, uc, ud, zn, zo]
           rfl
          refine take_ (i := 5) (N := some 45) (v := ?_) (a' := ?_) #[true, true, true, true, true, true, true, false, false] rfl rfl (take_ofW HT_.out HW_.out (by kernel_rfl)) (fun _ _ _ h => h) (Or.inl ⟨by rfl, ?_⟩) hHeld ?_ ?_
          rotate_left
          ·rintro w' ⟨s0, s1, s2, s3, s4⟩
           go_simp
           with_reducible rfl
          rotate_left
          ·simp only [Act.put, ub, uc, ud, zn, zo]
           rfl
          refine one_ (i := 7) (N := some 47) #[true, true, true, true, true, true, true, true, false] rfl rfl (one_of HT_.out (by kernel_rfl)) (by decide) (fun K hK => ?_)
          refine goes_ Try.func85 (by kernel_rfl) rfl #[.int .i64 (wrap64 ((wrap64 ((wrap64 (x1_1 + 1)) + 1)) + 1))] (by rfl) rfl rfl (by (try simp only [uh, ui, uj]); first | done | rfl | (simp only [uf, ug]; rfl)) ?_
          with_reducible refine (z19.calls k1 (wrap64 ((wrap64 ((wrap64 (x1_1 + 1)) + 1)) + 1)) t651 _ A9.out).mono ?_
          rintro e w21 ⟨rfl, hb⟩
          refine ⟨_, rfl, ?_⟩
          have n0_ := z1o.mk (za y0 hb)
          clear HB
          have HB := n0_
          clear n0_
          (try clear hb)
          (try clear hb2)
          (try clear hk)
          (try clear hi)
          refine hK.out _ _ ⟨((HB.out.cell (ua w _ hw650_0)).trans hw650_0), ((HB.out.cell (ua w _ hw650_1)).trans hw650_1), ((HB.out.cell (ua w _ hw650_2)).trans hw650_2), ((HB.out.cell (ua w _ hw650_3)).trans hw650_3), ((HB.out.cell (ua w _ hw650_4)).trans hw650_4)⟩ (fun hHeld => ?_)
          clear hK K
          refine norm_ (a' := ?_) ?_ ?_
          rotate_left
          ·show Act.put _ (some 47) _ = _
           simp only [Act.put, ub, uc, ud, zn, zo]
           rfl
          refine pure_ (i := 8) (N := some 48) (v := ?_) (a' := ?_) #[true, true, true, true, true, true, true, true, true] rfl rfl (any_of HT_.out (by kernel_rfl)) (fun _ _ _ h => h) (Or.inl ⟨by rfl, ?_⟩) ?_ ?_
          rotate_left
          ·intro w'
           go_simp
           with_reducible rfl
          rotate_left
          ·simp only [Act.put, ub, uc, ud, zn, zo]
           rfl
          refine done_ (done_of HT_.out (by kernel_rfl)) ?_
          have p652 : 0 ≤ (x5_1 : Int) := of_decide_eq_true (by first | (with_reducible assumption) | assumption)
          have q652 : x5_1 < (l0.length : Int) := of_decide_eq_true (by first | (with_reducible assumption) | assumption)
          obtain ⟨ad652, A652_4, c652_4, e652, hx652_0, hx652_1, hx652_2, hx652_3, hx652_4, hl652_4, hi652_4⟩ := at_T47 HR0.out x5_1 p652 q652
          have HW652_4 := z1o.mk hx652_4
          obtain rfl : ad646 = ad652 := (by injection e652)
          replace hx652_0 := (HB.out.cell (ua w _ hx652_0)).trans hx652_0
          replace hx652_1 := (HB.out.cell (ua w _ hx652_1)).trans hx652_1
          replace hx652_2 := (HB.out.cell (ua w _ hx652_2)).trans hx652_2
          replace hx652_3 := (HB.out.cell (ua w _ hx652_3)).trans hx652_3
          replace hx652_4 := (HB.out.cell (ua w _ hx652_4)).trans hx652_4
          have HR652_4 := z1o.mk hi652_4
          have HC652_4 := z1o.mk hl652_4
          clear hi652_4 hl652_4
          replace p652 := eq_true p652
          replace q652 := eq_true q652
          have ea_ := Option.some.inj (HW646_4.out.symm.trans HW652_4.out)
          injection ea_ with ea_ en_ ec_
          subst ea_
          subst ec_
          clear en_
          try go_wp2_with (first | ((with_reducible refine zp (f := 59) rfl ?_); refine goesL_ (some 58) rfl rfl Try.func59 (by kernel_rfl) rfl #[.slice A646_4 ((rd_T47 l0 x5_1).f3.f1).length c646_4, .int .i64 (wrap64 ((wrap64 ((wrap64 ((wrap64 (x1_1 + 1)) + 1)) + 1)) + 1))] rfl (by (try simp only [uh, ui, uj]); first | done | rfl | (simp only [uf, ug]; rfl)) ?_; (with_reducible refine (z14.calls k1 _ _ ((rd_T47 l0 x5_1).f3.f1) (wrap64 ((wrap64 ((wrap64 ((wrap64 (x1_1 + 1)) + 1)) + 1)) + 1)) t653 _ ?side1 ?side2 A11.out).mono ?_); (case side1 => exact y2t); (case side2 => exact HC652_4.out); rintro e w22 ⟨rfl, hb⟩; refine ⟨_, rfl, ?_⟩; have n0_ := z1o.mk (za y0 hb); clear HB; have HB := n0_; clear n0_; (try clear hb); (try clear hb2); (try clear hk); (try clear hi)))
          go_roundg k1
          case measure => have := HK1.out; omega
          case rel => exact ⟨(t653), (wrap64 (x5_1 + 1)), (by first | rfl | (simp; done) | (simp [*]; done)), (by first | rfl | (simp; done) | (simp [*]; done)), H', ⟨by have := HK1.out; omega⟩, ⟨y0⟩⟩
        ·rw [if_neg c10] at H
         have c10b0 : (((rd_T47 l0 x5_1).f3.f0).toList == t651.toList) = false := beq_eq_false_iff_ne.mpr c10
         have c10b1 : (((rd_T47 l0 x5_1).f3.f0).toList != t651.toList) = true := bne_iff_ne.mpr c10
         obtain rfl := Option.some.inj H
         have p646 : 0 ≤ (x5_1 : Int) := of_decide_eq_true (by first | (with_reducible assumption) | assumption)
         have q646 : x5_1 < (l0.length : Int) := of_decide_eq_true (by first | (with_reducible assumption) | assumption)
         obtain ⟨ad646, A646_4, c646_4, e646, hx646_0, hx646_1, hx646_2, hx646_3, hx646_4, hl646_4, hi646_4⟩ := at_T47 HR0.out x5_1 p646 q646
         have HW646_4 := z1o.mk hx646_4
         cases e646
         replace hx646_0 := (HB.out.cell (ua w _ hx646_0)).trans hx646_0
         replace hx646_1 := (HB.out.cell (ua w _ hx646_1)).trans hx646_1
         replace hx646_2 := (HB.out.cell (ua w _ hx646_2)).trans hx646_2
         replace hx646_3 := (HB.out.cell (ua w _ hx646_3)).trans hx646_3
         replace hx646_4 := (HB.out.cell (ua w _ hx646_4)).trans hx646_4
         have HR646_4 := z1o.mk hi646_4
         have HC646_4 := z1o.mk hl646_4
         clear hi646_4 hl646_4
         replace p646 := eq_true p646
         replace q646 := eq_true q646
         have p647 : 0 ≤ (x5_1 : Int) := of_decide_eq_true (by first | (with_reducible assumption) | assumption)
         have q647 : x5_1 < (l0.length : Int) := of_decide_eq_true (by first | (with_reducible assumption) | assumption)
         obtain ⟨ad647, A647_4, c647_4, e647, hx647_0, hx647_1, hx647_2, hx647_3, hx647_4, hl647_4, hi647_4⟩ := at_T47 HR0.out x5_1 p647 q647
         have HW647_4 := z1o.mk hx647_4
         obtain rfl : ad646 = ad647 := (by injection e647)
         replace hx647_0 := (HB.out.cell (ua w _ hx647_0)).trans hx647_0
         replace hx647_1 := (HB.out.cell (ua w _ hx647_1)).trans hx647_1
         replace hx647_2 := (HB.out.cell (ua w _ hx647_2)).trans hx647_2
         replace hx647_3 := (HB.out.cell (ua w _ hx647_3)).trans hx647_3
         replace hx647_4 := (HB.out.cell (ua w _ hx647_4)).trans hx647_4
         have HR647_4 := z1o.mk hi647_4
         have HC647_4 := z1o.mk hl647_4
         clear hi647_4 hl647_4
         replace p647 := eq_true p647
         replace q647 := eq_true q647
         have ea_ := Option.some.inj (HW646_4.out.symm.trans HW647_4.out)
         injection ea_ with ea_ en_ ec_
         subst ea_
         subst ec_
         clear en_
         try go_wp2
         have n0_ := z1o.mk (z3 HB.out)
         clear HB
         have HB := n0_
         clear n0_
         have p648 : 0 ≤ (x5_1 : Int) := of_decide_eq_true (by first | (with_reducible assumption) | assumption)
         have q648 : x5_1 < (l0.length : Int) := of_decide_eq_true (by first | (with_reducible assumption) | assumption)
         obtain ⟨ad648, A648_4, c648_4, e648, hx648_0, hx648_1, hx648_2, hx648_3, hx648_4, hl648_4, hi648_4⟩ := at_T47 HR0.out x5_1 p648 q648
         have hw648_4 := hx648_4
         have hw648_3 := hx648_3
         have hw648_2 := hx648_2
         have hw648_1 := hx648_1
         have hw648_0 := hx648_0
         have HW648_4 := z1o.mk hx648_4
         obtain rfl : ad646 = ad648 := (by injection e648)
         replace hx648_0 := (HB.out.cell (ua w _ hx648_0)).trans hx648_0
         replace hx648_1 := (HB.out.cell (ua w _ hx648_1)).trans hx648_1
         replace hx648_2 := (HB.out.cell (ua w _ hx648_2)).trans hx648_2
         replace hx648_3 := (HB.out.cell (ua w _ hx648_3)).trans hx648_3
         replace hx648_4 := (HB.out.cell (ua w _ hx648_4)).trans hx648_4
         have HR648_4 := z1o.mk hi648_4
         have HC648_4 := z1o.mk hl648_4
         clear hi648_4 hl648_4
         replace p648 := eq_true p648
         replace q648 := eq_true q648
         have ea_ := Option.some.inj (HW646_4.out.symm.trans HW648_4.out)
         injection ea_ with ea_ en_ ec_
         subst ea_
         subst ec_
         clear en_
         refine start_ (n := 8) (S := fun w' => w'.cell? (ad646.add ((x5_1).toNat * 5)) = some (.int .i64 ((rd_T47 l0 x5_1).f0)) ∧ w'.cell? ⟨(ad646.add ((x5_1).toNat * 5)).block, (ad646.add ((x5_1).toNat * 5)).off + 1, none⟩ = some (.int .i64 ((rd_T47 l0 x5_1).f1)) ∧ w'.cell? ⟨(ad646.add ((x5_1).toNat * 5)).block, (ad646.add ((x5_1).toNat * 5)).off + 2, none⟩ = some (.string ((rd_T47 l0 x5_1).f2)) ∧ w'.cell? ⟨(ad646.add ((x5_1).toNat * 5)).block, (ad646.add ((x5_1).toNat * 5)).off + 3, none⟩ = some (.string ((rd_T47 l0 x5_1).f3.f0)) ∧ w'.cell? ⟨(ad646.add ((x5_1).toNat * 5)).block, (ad646.add ((x5_1).toNat * 5)).off + 4, none⟩ = some (.slice A646_4 ((rd_T47 l0 x5_1).f3.f1).length c646_4)) (ds := []) #[false, false, false, false, false, false, false, false] (by kernel_rfl) rfl rfl ⟨((HB.out.cell (ua w _ hw648_0)).trans hw648_0), ((HB.out.cell (ua w _ hw648_1)).trans hw648_1), ((HB.out.cell (ua w _ hw648_2)).trans hw648_2), ((HB.out.cell (ua w _ hw648_3)).trans hw648_3), ((HB.out.cell (ua w _ hw648_4)).trans hw648_4)⟩ (fun hHeld => ?_); refine with_tabW z13.tab10 z13.bits10 (fun HT_ HW_ => ?_)
         generalize wr.drew = w23 at HB HR648_4 hx648_0 hx648_1 hx648_2 hx648_3 hx648_4 hHeld ⊢
         refine pure_ (i := 0) (N := some 30) (v := ?_) (a' := ?_) #[true, false, false, false, false, false, false, false] rfl rfl (any_of HT_.out (by kernel_rfl)) (fun _ _ _ h => h) (Or.inl ⟨by rfl, ?_⟩) ?_ ?_
         rotate_left
         ·intro w'
          go_simp
          with_reducible rfl
         rotate_left
         ·simp only [Act.put, ub, uc, ud, zn, zo]
          rfl
         refine pure_ (i := 1) (N := some 31) (v := ?_) (a' := ?_) #[true, true, false, false, false, false, false, false] rfl rfl (any_of HT_.out (by kernel_rfl)) (fun _ _ _ h => h) (Or.inl ⟨by rfl, ?_⟩) ?_ ?_
         rotate_left
         ·intro w'
          go_simp
          with_reducible rfl
         rotate_left
         ·simp only [Act.put, ub, uc, ud, zn, zo]
          rfl
         refine pure_ (i := 2) (N := some 32) (v := ?_) (a' := ?_) #[true, true, true, false, false, false, false, false] rfl rfl (any_of HT_.out (by kernel_rfl)) (fun _ _ _ h => h) (Or.inl ⟨by rfl, ?_⟩) ?_ ?_
         rotate_left
         ·intro w'
          go_simp
          with_reducible rfl
         rotate_left
         ·simp only [Act.put, ub, uc, ud, zn, zo]
          rfl
         refine pure_ (i := 3) (N := some 33) (v := ?_) (a' := ?_) #[true, true, true, true, false, false, false, false] rfl rfl (any_of HT_.out (by kernel_rfl)) (fun _ _ _ h => h) (Or.inl ⟨by rfl, ?_⟩) ?_ ?_
         rotate_left
         ·intro w'
          go_simp
          with_reducible rfl
         rotate_left
         ·simp only [Act.put, ub, uc, ud, zn, zo]
          rfl
         refine pure_ (i := 5) (N := some 35) (v := ?_) (a' := ?_) #[true, true, true, true, false, true, false, false] rfl rfl (any_of HT_.out (by kernel_rfl)) (fun _ _ _ h => h) (Or.inl ⟨by rfl, ?_⟩) ?_ ?_
         rotate_left
         ·intro w'
          go_simp
          with_reducible rfl
         rotate_left
         ·simp only [Act.put, ub, uc, ud, zn, zo]
          rfl
         refine take_ (i := 4) (N := some 34) (v := ?_) (a' := ?_) #[true, true, true, true, true, true, false, false] rfl rfl (take_ofW HT_.out HW_.out (by kernel_rfl)) (fun _ _ _ h => h) (Or.inl ⟨by rfl, ?_⟩) hHeld ?_ ?_
         rotate_left
         ·rintro w' ⟨s0, s1, s2, s3, s4⟩
          go_simp
          with_reducible rfl
         rotate_left
         ·simp only [Act.put, ub, uc, ud, zn, zo]
          rfl
         refine one_ (i := 6) (N := some 36) #[true, true, true, true, true, true, true, false] rfl rfl (one_of HT_.out (by kernel_rfl)) (by decide) (fun K hK => ?_)
         refine goes_ Try.func85 (by kernel_rfl) rfl #[.int .i64 (wrap64 ((wrap64 (x1_1 + 1)) + 1))] (by rfl) rfl rfl (by (try simp only [uh, ui, uj]); first | done | rfl | (simp only [uf, ug]; rfl)) ?_
         with_reducible refine (z19.calls k1 (wrap64 ((wrap64 (x1_1 + 1)) + 1)) t649 _ A7.out).mono ?_
         rintro e w24 ⟨rfl, hb⟩
         refine ⟨_, rfl, ?_⟩
         have n0_ := z1o.mk (za y0 hb)
         clear HB
         have HB := n0_
         clear n0_
         (try clear hb)
         (try clear hb2)
         (try clear hk)
         (try clear hi)
         refine hK.out _ _ ⟨((HB.out.cell (ua w _ hw648_0)).trans hw648_0), ((HB.out.cell (ua w _ hw648_1)).trans hw648_1), ((HB.out.cell (ua w _ hw648_2)).trans hw648_2), ((HB.out.cell (ua w _ hw648_3)).trans hw648_3), ((HB.out.cell (ua w _ hw648_4)).trans hw648_4)⟩ (fun hHeld => ?_)
         clear hK K
         refine norm_ (a' := ?_) ?_ ?_
         rotate_left
         ·show Act.put _ (some 36) _ = _
          simp only [Act.put, ub, uc, ud, zn, zo]
          rfl
         refine pure_ (i := 7) (N := some 37) (v := ?_) (a' := ?_) #[true, true, true, true, true, true, true, true] rfl rfl (any_of HT_.out (by kernel_rfl)) (fun _ _ _ h => h) (Or.inl ⟨by rfl, ?_⟩) ?_ ?_
         rotate_left
         ·intro w'
          go_simp
          with_reducible rfl
         rotate_left
         ·simp only [Act.put, ub, uc, ud, zn, zo]
          rfl
         refine done_ (done_of HT_.out (by kernel_rfl)) ?_
         try go_wp2
         have n0_ := z1o.mk (z3 HB.out)
         clear HB
         have HB := n0_
         clear n0_
         have p650 : 0 ≤ (x5_1 : Int) := of_decide_eq_true (by first | (with_reducible assumption) | assumption)
         have q650 : x5_1 < (l0.length : Int) := of_decide_eq_true (by first | (with_reducible assumption) | assumption)
         obtain ⟨ad650, A650_4, c650_4, e650, hx650_0, hx650_1, hx650_2, hx650_3, hx650_4, hl650_4, hi650_4⟩ := at_T47 HR0.out x5_1 p650 q650
         have hw650_4 := hx650_4
         have hw650_3 := hx650_3
         have hw650_2 := hx650_2
         have hw650_1 := hx650_1
         have hw650_0 := hx650_0
         have HW650_4 := z1o.mk hx650_4
         obtain rfl : ad646 = ad650 := (by injection e650)
         replace hx650_0 := (HB.out.cell (ua w _ hx650_0)).trans hx650_0
         replace hx650_1 := (HB.out.cell (ua w _ hx650_1)).trans hx650_1
         replace hx650_2 := (HB.out.cell (ua w _ hx650_2)).trans hx650_2
         replace hx650_3 := (HB.out.cell (ua w _ hx650_3)).trans hx650_3
         replace hx650_4 := (HB.out.cell (ua w _ hx650_4)).trans hx650_4
         have HR650_4 := z1o.mk hi650_4
         have HC650_4 := z1o.mk hl650_4
         clear hi650_4 hl650_4
         replace p650 := eq_true p650
         replace q650 := eq_true q650
         have ea_ := Option.some.inj (HW646_4.out.symm.trans HW650_4.out)
         injection ea_ with ea_ en_ ec_
         subst ea_
         subst ec_
         clear en_
         refine start_ (n := 9) (S := fun w' => w'.cell? (ad646.add ((x5_1).toNat * 5)) = some (.int .i64 ((rd_T47 l0 x5_1).f0)) ∧ w'.cell? ⟨(ad646.add ((x5_1).toNat * 5)).block, (ad646.add ((x5_1).toNat * 5)).off + 1, none⟩ = some (.int .i64 ((rd_T47 l0 x5_1).f1)) ∧ w'.cell? ⟨(ad646.add ((x5_1).toNat * 5)).block, (ad646.add ((x5_1).toNat * 5)).off + 2, none⟩ = some (.string ((rd_T47 l0 x5_1).f2)) ∧ w'.cell? ⟨(ad646.add ((x5_1).toNat * 5)).block, (ad646.add ((x5_1).toNat * 5)).off + 3, none⟩ = some (.string ((rd_T47 l0 x5_1).f3.f0)) ∧ w'.cell? ⟨(ad646.add ((x5_1).toNat * 5)).block, (ad646.add ((x5_1).toNat * 5)).off + 4, none⟩ = some (.slice A646_4 ((rd_T47 l0 x5_1).f3.f1).length c646_4)) (ds := []) #[false, false, false, false, false, false, false, false, false] (by kernel_rfl) rfl rfl ⟨((HB.out.cell (ua w _ hw650_0)).trans hw650_0), ((HB.out.cell (ua w _ hw650_1)).trans hw650_1), ((HB.out.cell (ua w _ hw650_2)).trans hw650_2), ((HB.out.cell (ua w _ hw650_3)).trans hw650_3), ((HB.out.cell (ua w _ hw650_4)).trans hw650_4)⟩ (fun hHeld => ?_); refine with_tabW z13.tab13 z13.bits13 (fun HT_ HW_ => ?_)
         generalize w24.drew = w25 at HB HR650_4 hx650_0 hx650_1 hx650_2 hx650_3 hx650_4 hHeld ⊢
         refine pure_ (i := 0) (N := some 40) (v := ?_) (a' := ?_) #[true, false, false, false, false, false, false, false, false] rfl rfl (any_of HT_.out (by kernel_rfl)) (fun _ _ _ h => h) (Or.inl ⟨by rfl, ?_⟩) ?_ ?_
         rotate_left
         ·intro w'
          go_simp
          with_reducible rfl
         rotate_left
         ·simp only [Act.put, ub, uc, ud, zn, zo]
          rfl
         refine pure_ (i := 1) (N := some 41) (v := ?_) (a' := ?_) #[true, true, false, false, false, false, false, false, false] rfl rfl (any_of HT_.out (by kernel_rfl)) (fun _ _ _ h => h) (Or.inl ⟨by rfl, ?_⟩) ?_ ?_
         rotate_left
         ·intro w'
          go_simp
          with_reducible rfl
         rotate_left
         ·simp only [Act.put, ub, uc, ud, zn, zo]
          rfl
         refine pure_ (i := 2) (N := some 42) (v := ?_) (a' := ?_) #[true, true, true, false, false, false, false, false, false] rfl rfl (any_of HT_.out (by kernel_rfl)) (fun _ _ _ h => h) (Or.inl ⟨by rfl, ?_⟩) ?_ ?_
         rotate_left
         ·intro w'
          go_simp
          with_reducible rfl
         rotate_left
         ·simp only [Act.put, ub, uc, ud, zn, zo]
          rfl
         refine pure_ (i := 3) (N := some 43) (v := ?_) (a' := ?_) #[true, true, true, true, false, false, false, false, false] rfl rfl (any_of HT_.out (by kernel_rfl)) (fun _ _ _ h => h) (Or.inl ⟨by rfl, ?_⟩) ?_ ?_
         rotate_left
         ·intro w'
          go_simp
          with_reducible rfl
         rotate_left
         ·simp only [Act.put, ub, uc, ud, zn, zo]
          rfl
         refine pure_ (i := 4) (N := some 44) (v := ?_) (a' := ?_) #[true, true, true, true, true, false, false, false, false] rfl rfl (any_of HT_.out (by kernel_rfl)) (fun _ _ _ h => h) (Or.inl ⟨by rfl, ?_⟩) ?_ ?_
         rotate_left
         ·intro w'
          go_simp
          with_reducible rfl
         rotate_left
         ·simp only [Act.put, ub, uc, ud, zn, zo]
          rfl
         refine pure_ (i := 6) (N := some 46) (v := ?_) (a' := ?_) #[true, true, true, true, true, false, true, false, false] rfl rfl (any_of HT_.out (by kernel_rfl)) (fun _ _ _ h => h) (Or.inl ⟨by rfl, ?_⟩) ?_ ?_
         rotate_left
         ·intro w'
          go_simp
          with_reducible rfl
         rotate_left
         ·simp only [Act.put, ub, uc, ud, zn, zo]
          rfl
         refine take_ (i := 5) (N := some 45) (v := ?_) (a' := ?_) #[true, true, true, true, true, true, true, false, false] rfl rfl (take_ofW HT_.out HW_.out (by kernel_rfl)) (fun _ _ _ h => h) (Or.inl ⟨by rfl, ?_⟩) hHeld ?_ ?_
         rotate_left
         ·rintro w' ⟨s0, s1, s2, s3, s4⟩
          go_simp
          with_reducible rfl
         rotate_left
         ·simp only [Act.put, ub, uc, ud, zn, zo]
          rfl
         refine one_ (i := 7) (N := some 47) #[true, true, true, true, true, true, true, true, false] rfl rfl (one_of HT_.out (by kernel_rfl)) (by decide) (fun K hK => ?_)
         refine goes_ Try.func85 (by kernel_rfl) rfl #[.int .i64 (wrap64 ((wrap64 ((wrap64 (x1_1 + 1)) + 1)) + 1))] (by rfl) rfl rfl (by (try simp only [uh, ui, uj]); first | done | rfl | (simp only [uf, ug]; rfl)) ?_
         with_reducible refine (z19.calls k1 (wrap64 ((wrap64 ((wrap64 (x1_1 + 1)) + 1)) + 1)) t651 _ A9.out).mono ?_
         rintro e w26 ⟨rfl, hb⟩
         refine ⟨_, rfl, ?_⟩
         have n0_ := z1o.mk (za y0 hb)
         clear HB
         have HB := n0_
         clear n0_
         (try clear hb)
         (try clear hb2)
         (try clear hk)
         (try clear hi)
         refine hK.out _ _ ⟨((HB.out.cell (ua w _ hw650_0)).trans hw650_0), ((HB.out.cell (ua w _ hw650_1)).trans hw650_1), ((HB.out.cell (ua w _ hw650_2)).trans hw650_2), ((HB.out.cell (ua w _ hw650_3)).trans hw650_3), ((HB.out.cell (ua w _ hw650_4)).trans hw650_4)⟩ (fun hHeld => ?_)
         clear hK K
         refine norm_ (a' := ?_) ?_ ?_
         rotate_left
         ·show Act.put _ (some 47) _ = _
          simp only [Act.put, ub, uc, ud, zn, zo]
          rfl
         refine pure_ (i := 8) (N := some 48) (v := ?_) (a' := ?_) #[true, true, true, true, true, true, true, true, true] rfl rfl (any_of HT_.out (by kernel_rfl)) (fun _ _ _ h => h) (Or.inl ⟨by rfl, ?_⟩) ?_ ?_
         rotate_left
         ·intro w'
          go_simp
          with_reducible rfl
         rotate_left
         ·simp only [Act.put, ub, uc, ud, zn, zo]
          rfl
         refine done_ (done_of HT_.out (by kernel_rfl)) ?_
         try go_wp2
         go_ret
         exact ⟨by first | rfl | (simp [zm, zl] <;> rfl) | (simp [*, zm, zl] <;> rfl), y0⟩
       ·rw [if_neg c8] at H
        have c8b0 : (((rd_T47 l0 x5_1).f2).toList == t649.toList) = false := beq_eq_false_iff_ne.mpr c8
        have c8b1 : (((rd_T47 l0 x5_1).f2).toList != t649.toList) = true := bne_iff_ne.mpr c8
        obtain rfl := Option.some.inj H
        have p646 : 0 ≤ (x5_1 : Int) := of_decide_eq_true (by first | (with_reducible assumption) | assumption)
        have q646 : x5_1 < (l0.length : Int) := of_decide_eq_true (by first | (with_reducible assumption) | assumption)
        obtain ⟨ad646, A646_4, c646_4, e646, hx646_0, hx646_1, hx646_2, hx646_3, hx646_4, hl646_4, hi646_4⟩ := at_T47 HR0.out x5_1 p646 q646
        have HW646_4 := z1o.mk hx646_4
        cases e646
        replace hx646_0 := (HB.out.cell (ua w _ hx646_0)).trans hx646_0
        replace hx646_1 := (HB.out.cell (ua w _ hx646_1)).trans hx646_1
        replace hx646_2 := (HB.out.cell (ua w _ hx646_2)).trans hx646_2
        replace hx646_3 := (HB.out.cell (ua w _ hx646_3)).trans hx646_3
        replace hx646_4 := (HB.out.cell (ua w _ hx646_4)).trans hx646_4
        have HR646_4 := z1o.mk hi646_4
        have HC646_4 := z1o.mk hl646_4
        clear hi646_4 hl646_4
        replace p646 := eq_true p646
        replace q646 := eq_true q646
        have p647 : 0 ≤ (x5_1 : Int) := of_decide_eq_true (by first | (with_reducible assumption) | assumption)
        have q647 : x5_1 < (l0.length : Int) := of_decide_eq_true (by first | (with_reducible assumption) | assumption)
        obtain ⟨ad647, A647_4, c647_4, e647, hx647_0, hx647_1, hx647_2, hx647_3, hx647_4, hl647_4, hi647_4⟩ := at_T47 HR0.out x5_1 p647 q647
        have HW647_4 := z1o.mk hx647_4
        obtain rfl : ad646 = ad647 := (by injection e647)
        replace hx647_0 := (HB.out.cell (ua w _ hx647_0)).trans hx647_0
        replace hx647_1 := (HB.out.cell (ua w _ hx647_1)).trans hx647_1
        replace hx647_2 := (HB.out.cell (ua w _ hx647_2)).trans hx647_2
        replace hx647_3 := (HB.out.cell (ua w _ hx647_3)).trans hx647_3
        replace hx647_4 := (HB.out.cell (ua w _ hx647_4)).trans hx647_4
        have HR647_4 := z1o.mk hi647_4
        have HC647_4 := z1o.mk hl647_4
        clear hi647_4 hl647_4
        replace p647 := eq_true p647
        replace q647 := eq_true q647
        have ea_ := Option.some.inj (HW646_4.out.symm.trans HW647_4.out)
        injection ea_ with ea_ en_ ec_
        subst ea_
        subst ec_
        clear en_
        try go_wp2
        have n0_ := z1o.mk (z3 HB.out)
        clear HB
        have HB := n0_
        clear n0_
        have p648 : 0 ≤ (x5_1 : Int) := of_decide_eq_true (by first | (with_reducible assumption) | assumption)
        have q648 : x5_1 < (l0.length : Int) := of_decide_eq_true (by first | (with_reducible assumption) | assumption)
        obtain ⟨ad648, A648_4, c648_4, e648, hx648_0, hx648_1, hx648_2, hx648_3, hx648_4, hl648_4, hi648_4⟩ := at_T47 HR0.out x5_1 p648 q648
        have hw648_4 := hx648_4
        have hw648_3 := hx648_3
        have hw648_2 := hx648_2
        have hw648_1 := hx648_1
        have hw648_0 := hx648_0
        have HW648_4 := z1o.mk hx648_4
        obtain rfl : ad646 = ad648 := (by injection e648)
        replace hx648_0 := (HB.out.cell (ua w _ hx648_0)).trans hx648_0
        replace hx648_1 := (HB.out.cell (ua w _ hx648_1)).trans hx648_1
        replace hx648_2 := (HB.out.cell (ua w _ hx648_2)).trans hx648_2
        replace hx648_3 := (HB.out.cell (ua w _ hx648_3)).trans hx648_3
        replace hx648_4 := (HB.out.cell (ua w _ hx648_4)).trans hx648_4
        have HR648_4 := z1o.mk hi648_4
        have HC648_4 := z1o.mk hl648_4
        clear hi648_4 hl648_4
        replace p648 := eq_true p648
        replace q648 := eq_true q648
        have ea_ := Option.some.inj (HW646_4.out.symm.trans HW648_4.out)
        injection ea_ with ea_ en_ ec_
        subst ea_
        subst ec_
        clear en_
        refine start_ (n := 8) (S := fun w' => w'.cell? (ad646.add ((x5_1).toNat * 5)) = some (.int .i64 ((rd_T47 l0 x5_1).f0)) ∧ w'.cell? ⟨(ad646.add ((x5_1).toNat * 5)).block, (ad646.add ((x5_1).toNat * 5)).off + 1, none⟩ = some (.int .i64 ((rd_T47 l0 x5_1).f1)) ∧ w'.cell? ⟨(ad646.add ((x5_1).toNat * 5)).block, (ad646.add ((x5_1).toNat * 5)).off + 2, none⟩ = some (.string ((rd_T47 l0 x5_1).f2)) ∧ w'.cell? ⟨(ad646.add ((x5_1).toNat * 5)).block, (ad646.add ((x5_1).toNat * 5)).off + 3, none⟩ = some (.string ((rd_T47 l0 x5_1).f3.f0)) ∧ w'.cell? ⟨(ad646.add ((x5_1).toNat * 5)).block, (ad646.add ((x5_1).toNat * 5)).off + 4, none⟩ = some (.slice A646_4 ((rd_T47 l0 x5_1).f3.f1).length c646_4)) (ds := []) #[false, false, false, false, false, false, false, false] (by kernel_rfl) rfl rfl ⟨((HB.out.cell (ua w _ hw648_0)).trans hw648_0), ((HB.out.cell (ua w _ hw648_1)).trans hw648_1), ((HB.out.cell (ua w _ hw648_2)).trans hw648_2), ((HB.out.cell (ua w _ hw648_3)).trans hw648_3), ((HB.out.cell (ua w _ hw648_4)).trans hw648_4)⟩ (fun hHeld => ?_); refine with_tabW z13.tab10 z13.bits10 (fun HT_ HW_ => ?_)
        generalize wr.drew = w27 at HB HR648_4 hx648_0 hx648_1 hx648_2 hx648_3 hx648_4 hHeld ⊢
        refine pure_ (i := 0) (N := some 30) (v := ?_) (a' := ?_) #[true, false, false, false, false, false, false, false] rfl rfl (any_of HT_.out (by kernel_rfl)) (fun _ _ _ h => h) (Or.inl ⟨by rfl, ?_⟩) ?_ ?_
        rotate_left
        ·intro w'
         go_simp
         with_reducible rfl
        rotate_left
        ·simp only [Act.put, ub, uc, ud, zn, zo]
         rfl
        refine pure_ (i := 1) (N := some 31) (v := ?_) (a' := ?_) #[true, true, false, false, false, false, false, false] rfl rfl (any_of HT_.out (by kernel_rfl)) (fun _ _ _ h => h) (Or.inl ⟨by rfl, ?_⟩) ?_ ?_
        rotate_left
        ·intro w'
         go_simp
         with_reducible rfl
        rotate_left
        ·simp only [Act.put, ub, uc, ud, zn, zo]
         rfl
        refine pure_ (i := 2) (N := some 32) (v := ?_) (a' := ?_) #[true, true, true, false, false, false, false, false] rfl rfl (any_of HT_.out (by kernel_rfl)) (fun _ _ _ h => h) (Or.inl ⟨by rfl, ?_⟩) ?_ ?_
        rotate_left
        ·intro w'
         go_simp
         with_reducible rfl
        rotate_left
        ·simp only [Act.put, ub, uc, ud, zn, zo]
         rfl
        refine pure_ (i := 3) (N := some 33) (v := ?_) (a' := ?_) #[true, true, true, true, false, false, false, false] rfl rfl (any_of HT_.out (by kernel_rfl)) (fun _ _ _ h => h) (Or.inl ⟨by rfl, ?_⟩) ?_ ?_
        rotate_left
        ·intro w'
         go_simp
         with_reducible rfl
        rotate_left
        ·simp only [Act.put, ub, uc, ud, zn, zo]
         rfl
        refine pure_ (i := 5) (N := some 35) (v := ?_) (a' := ?_) #[true, true, true, true, false, true, false, false] rfl rfl (any_of HT_.out (by kernel_rfl)) (fun _ _ _ h => h) (Or.inl ⟨by rfl, ?_⟩) ?_ ?_
        rotate_left
        ·intro w'
         go_simp
         with_reducible rfl
        rotate_left
        ·simp only [Act.put, ub, uc, ud, zn, zo]
         rfl
        refine take_ (i := 4) (N := some 34) (v := ?_) (a' := ?_) #[true, true, true, true, true, true, false, false] rfl rfl (take_ofW HT_.out HW_.out (by kernel_rfl)) (fun _ _ _ h => h) (Or.inl ⟨by rfl, ?_⟩) hHeld ?_ ?_
        rotate_left
        ·rintro w' ⟨s0, s1, s2, s3, s4⟩
         go_simp
         with_reducible rfl
        rotate_left
        ·simp only [Act.put, ub, uc, ud, zn, zo]
         rfl
        refine one_ (i := 6) (N := some 36) #[true, true, true, true, true, true, true, false] rfl rfl (one_of HT_.out (by kernel_rfl)) (by decide) (fun K hK => ?_)
        refine goes_ Try.func85 (by kernel_rfl) rfl #[.int .i64 (wrap64 ((wrap64 (x1_1 + 1)) + 1))] (by rfl) rfl rfl (by (try simp only [uh, ui, uj]); first | done | rfl | (simp only [uf, ug]; rfl)) ?_
        with_reducible refine (z19.calls k1 (wrap64 ((wrap64 (x1_1 + 1)) + 1)) t649 _ A7.out).mono ?_
        rintro e w28 ⟨rfl, hb⟩
        refine ⟨_, rfl, ?_⟩
        have n0_ := z1o.mk (za y0 hb)
        clear HB
        have HB := n0_
        clear n0_
        (try clear hb)
        (try clear hb2)
        (try clear hk)
        (try clear hi)
        refine hK.out _ _ ⟨((HB.out.cell (ua w _ hw648_0)).trans hw648_0), ((HB.out.cell (ua w _ hw648_1)).trans hw648_1), ((HB.out.cell (ua w _ hw648_2)).trans hw648_2), ((HB.out.cell (ua w _ hw648_3)).trans hw648_3), ((HB.out.cell (ua w _ hw648_4)).trans hw648_4)⟩ (fun hHeld => ?_)
        clear hK K
        refine norm_ (a' := ?_) ?_ ?_
        rotate_left
        ·show Act.put _ (some 36) _ = _
         simp only [Act.put, ub, uc, ud, zn, zo]
         rfl
        refine pure_ (i := 7) (N := some 37) (v := ?_) (a' := ?_) #[true, true, true, true, true, true, true, true] rfl rfl (any_of HT_.out (by kernel_rfl)) (fun _ _ _ h => h) (Or.inl ⟨by rfl, ?_⟩) ?_ ?_
        rotate_left
        ·intro w'
         go_simp
         with_reducible rfl
        rotate_left
        ·simp only [Act.put, ub, uc, ud, zn, zo]
         rfl
        refine done_ (done_of HT_.out (by kernel_rfl)) ?_
        try go_wp2
        go_ret
        exact ⟨by first | rfl | (simp [zm, zl] <;> rfl) | (simp [*, zm, zl] <;> rfl), y0⟩
      ·rw [if_neg c6] at H
       have c6b0 : (((rd_T47 l0 x5_1).f1) == (wrap64 (x1_1 + 1))) = false := beq_eq_false_iff_ne.mpr c6
       have c6b1 : (((rd_T47 l0 x5_1).f1) != (wrap64 (x1_1 + 1))) = true := bne_iff_ne.mpr c6
       obtain rfl := Option.some.inj H
       have p646 : 0 ≤ (x5_1 : Int) := of_decide_eq_true (by first | (with_reducible assumption) | assumption)
       have q646 : x5_1 < (l0.length : Int) := of_decide_eq_true (by first | (with_reducible assumption) | assumption)
       obtain ⟨ad646, A646_4, c646_4, e646, hx646_0, hx646_1, hx646_2, hx646_3, hx646_4, hl646_4, hi646_4⟩ := at_T47 HR0.out x5_1 p646 q646
       have HW646_4 := z1o.mk hx646_4
       cases e646
       replace hx646_0 := (HB.out.cell (ua w _ hx646_0)).trans hx646_0
       replace hx646_1 := (HB.out.cell (ua w _ hx646_1)).trans hx646_1
       replace hx646_2 := (HB.out.cell (ua w _ hx646_2)).trans hx646_2
       replace hx646_3 := (HB.out.cell (ua w _ hx646_3)).trans hx646_3
       replace hx646_4 := (HB.out.cell (ua w _ hx646_4)).trans hx646_4
       have HR646_4 := z1o.mk hi646_4
       have HC646_4 := z1o.mk hl646_4
       clear hi646_4 hl646_4
       replace p646 := eq_true p646
       replace q646 := eq_true q646
       have p647 : 0 ≤ (x5_1 : Int) := of_decide_eq_true (by first | (with_reducible assumption) | assumption)
       have q647 : x5_1 < (l0.length : Int) := of_decide_eq_true (by first | (with_reducible assumption) | assumption)
       obtain ⟨ad647, A647_4, c647_4, e647, hx647_0, hx647_1, hx647_2, hx647_3, hx647_4, hl647_4, hi647_4⟩ := at_T47 HR0.out x5_1 p647 q647
       have HW647_4 := z1o.mk hx647_4
       obtain rfl : ad646 = ad647 := (by injection e647)
       replace hx647_0 := (HB.out.cell (ua w _ hx647_0)).trans hx647_0
       replace hx647_1 := (HB.out.cell (ua w _ hx647_1)).trans hx647_1
       replace hx647_2 := (HB.out.cell (ua w _ hx647_2)).trans hx647_2
       replace hx647_3 := (HB.out.cell (ua w _ hx647_3)).trans hx647_3
       replace hx647_4 := (HB.out.cell (ua w _ hx647_4)).trans hx647_4
       have HR647_4 := z1o.mk hi647_4
       have HC647_4 := z1o.mk hl647_4
       clear hi647_4 hl647_4
       replace p647 := eq_true p647
       replace q647 := eq_true q647
       have ea_ := Option.some.inj (HW646_4.out.symm.trans HW647_4.out)
       injection ea_ with ea_ en_ ec_
       subst ea_
       subst ec_
       clear en_
       go_wp2
       go_ret
       exact ⟨by first | rfl | (simp [zm, zl] <;> rfl) | (simp [*, zm, zl] <;> rfl), y0⟩
     ·rw [if_neg c5] at H
      have c5b0 : (((rd_T47 l0 x5_1).f0) == x1_1) = false := beq_eq_false_iff_ne.mpr c5
      have c5b1 : (((rd_T47 l0 x5_1).f0) != x1_1) = true := bne_iff_ne.mpr c5
      obtain rfl := Option.some.inj H
      have p646 : 0 ≤ (x5_1 : Int) := of_decide_eq_true (by first | (with_reducible assumption) | assumption)
      have q646 : x5_1 < (l0.length : Int) := of_decide_eq_true (by first | (with_reducible assumption) | assumption)
      obtain ⟨ad646, A646_4, c646_4, e646, hx646_0, hx646_1, hx646_2, hx646_3, hx646_4, hl646_4, hi646_4⟩ := at_T47 HR0.out x5_1 p646 q646
      have HW646_4 := z1o.mk hx646_4
      cases e646
      replace hx646_0 := (HB.out.cell (ua w _ hx646_0)).trans hx646_0
      replace hx646_1 := (HB.out.cell (ua w _ hx646_1)).trans hx646_1
      replace hx646_2 := (HB.out.cell (ua w _ hx646_2)).trans hx646_2
      replace hx646_3 := (HB.out.cell (ua w _ hx646_3)).trans hx646_3
      replace hx646_4 := (HB.out.cell (ua w _ hx646_4)).trans hx646_4
      have HR646_4 := z1o.mk hi646_4
      have HC646_4 := z1o.mk hl646_4
      clear hi646_4 hl646_4
      replace p646 := eq_true p646
      replace q646 := eq_true q646
      go_wp2
      go_ret
      exact ⟨by first | rfl | (simp [zm, zl] <;> rfl) | (simp [*, zm, zl] <;> rfl), y0⟩
    ·rw [if_neg c4] at H
     exact absurd H (by simp)
   ·rw [if_neg c3] at H
    have c3b0 : decide (x5_1 < (l0.length : Int)) = false := decide_eq_false c3
    clear c3
    obtain rfl := Option.some.inj H
    go_wp2
    go_ret
    exact ⟨by first | rfl | (simp [zm, zl] <;> rfl) | (simp [*, zm, zl] <;> rfl), y0⟩
end Go.Proofs.Ytndjodgcemgpfaa.Q
end
section
namespace Go.Proofs.Ytndjodgcemgpfaa.Q
open Go.RowKit Go.Proofs.YtndjodgcemgpfaaW.PrintWords Go.Proofs.YtndjodgcemgpfaaW.PrintLast Go.Proofs.YtndjodgcemgpfaaW.PrintMore
theorem readLog_w {A : Option Addr} {c : Nat} {b : List Int} {w : World} {rs : List S47} {p : Nat} (hR : runLog (oStep b) (b.length + 1) 0 [] = (rs, p)) (hr : Kd.C (Kd.int .u8) w A b.length b) (hc : b.length ≤ c) (hb : IsB b) (hl : b.length ≤ 1048576) :
  Calls Try.prog 29 #[.slice A b.length c] w fun e w' => ∃ v : Value, e = .returned (.tuple #[v, .int .i64 (p : Int), .int .i64 0]) ∧ Kd.S kD47 47 w' w.heap.size (fun _ => True) v rs ∧ Below w.heap.size w w' := readLog_all A c b w hr hc hb hl (rs, p) hR
theorem sreadLog_w {A : Option Addr} {c : Nat} {b : List Int} {w : World} {rs : List S47} {p : Nat} (hR : runLog (lStep b) (b.length + 1) 0 [] = (rs, p)) (hr : Kd.C (Kd.int .u8) w A b.length b) (hc : b.length ≤ c) (hb : IsB b) (hl : b.length ≤ 1048576) :
  Calls Try.prog 44 #[.slice A b.length c] w fun e w' => ∃ v : Value, e = .returned (.tuple #[v, .int .i64 (p : Int), .int .i64 0]) ∧ Kd.S kD47 47 w' w.heap.size (fun _ => True) v rs ∧ Below w.heap.size w w' := sreadLog_all A c b w hr hc hb hl (rs, p) hR
theorem markRecordS_w (P0_ : Nat → Prop) (u : Value) (rs rs' : List S47) (m : Int) (w0 w : World) (h : (m = 1 + (cntRS rs : Int) ∧ rs' = mkR 1 rs) ∧ 1 + (cntRS rs : Int) ≤ 4611686018427387903 ∧ rs.length ≤ 1048576 ∧ ∀ x ∈ rs, x.f3.f1.length ≤ 1048576) (ho0 : Kd.S kD47 47 w w0.heap.size P0_ u rs) (hB : Below w0.heap.size w0 w) :
  Calls Try.prog 46 #[u, .int .i64 1] w fun e w' => e = .returned (.int .i64 m) ∧ Kd.S kD47 47 w' w0.heap.size P0_ u rs' ∧ Below w0.heap.size w0 w' ∧ Kept w w' P0_ := by
 obtain ⟨⟨h1, h2⟩, h3, h4, h5⟩ := h
 rw [h1, h2]
 exact markRecordS_p P0_ u rs 1 w0 w (by omega) h3 h4 h5 hB ho0
set_option maxHeartbeats 8000000 in
set_option maxRecDepth 100000 in
theorem laws_FnExactReadLog.walk (k : Nat) (A : Option Addr) (c : Nat) (b : List Int) (w : World) (hr : Kd.C (Kd.int .u8) w A b.length b) (hc : b.length ≤ c) (hl : b.length ≤ 1048576)
  (rs : List S47) (p : Nat) (k1 m : Int) (b' : List Int) (rs' : List S47)
  (h1 : laws_toByteS.f k b = some b) (h2 : runLog (lStep b) (b.length + 1) 0 [] = (rs, p)) (h3 : runLog (oStep b) (b.length + 1) 0 [] = (rs, p)) (h4 : z1a.f k rs rs = some true) (h5 : laws_eqByteS.f k b b = some true) (h6 : laws_markByteS.f k b 1 = some (k1, b')) (h7 : (m = 1 + (cntRS rs : Int) ∧ rs' = mkR 1 rs) ∧ 1 + (cntRS rs : Int) ≤ 4611686018427387903 ∧ rs.length ≤ 1048576 ∧ ∀ x ∈ rs, x.f3.f1.length ≤ 1048576) (h8 : z13.f k rs' 1 = some m) (h9 : IsB b) (hk1 : 0 ≤ k1) (hm : 0 ≤ m) :
  Calls Try.prog 8 #[.slice A b.length c] w fun e w' => e = .returned (.bool true) ∧ Below w.heap.size w w' := by
 have HR := z1o.mk hr
 have HC := z1o.mk hc
 have H1 := z1o.mk h1
 have H2 := z1o.mk h2
 have H3 := z1o.mk h3
 have H4 := z1o.mk h4
 have H5 := z1o.mk h5
 have H6 := z1o.mk h6
 have H7 := z1o.mk h7
 have H8 := z1o.mk h8
 have H9 := z1o.mk h9
 have hl' : decide (1048576 < (b.length : Int)) = false := decide_eq_false (by omega)
 have HL := z1o.mk hl
 clear hr hc hl h1 h2 h3 h4 h5 h6 h7 h8 h9
 have hk1' : decide (k1 < 0) = false := decide_eq_false (by omega)
 have hm' : decide (m < 0) = false := decide_eq_false (by omega)
 have HB := z1o.mk (Below.refl w.heap.size w)
 go_enter Try.func8, Try.ntmps8
 go_wp2_with fail
 go_at_call 19
 refine (laws_toByteS.calls k _ _ b b _ (Kd.C_below HR.out HB.out) HC.out H1.out).mono ?_
 rintro e w2 ⟨v1, rfl, ho0, hb⟩
 have HB3 := z1o.mk (za HB.out hb)
 have Z4 := z1o.mk (show w.heap.size ≤ w2.heap.size from by have := hb.size; simpa using this)
 have O_t1_5 := z1o.mk (Kd.R_mono (ok' := fun k_ => w.heap.size ≤ k_ ∧ k_ < w2.heap.size) (Kd.R_span ho0 HB.out.size) (fun k_ hk_ => by simpa using hk_))
 obtain ⟨A6, c7, e8⟩ := Kd.R_slice O_t1_5.out
 subst e8
 clear HB  hb ho0
 go_wp2_with fail
 go_at_call 44
 refine (sreadLog_w H2.out (Kd.R_reads' O_t1_5.out).2.2 (by have h_ := Kd.R_reads' O_t1_5.out; have := h_.1; have := h_.2.1; omega) H9.out HL.out).mono ?_
 rintro e w10 ⟨v9, rfl, ho0, hb⟩
 have HB11 := z1o.mk (za HB3.out hb)
 have O_t1_12 := z1o.mk (Kd.R_below O_t1_5.out hb)
 have Z13 := z1o.mk (show w2.heap.size ≤ w10.heap.size from by have := hb.size; simpa using this)
 have O_w0_14 := z1o.mk (Kd.S_mono (ok' := fun k_ => w2.heap.size ≤ k_ ∧ k_ < w10.heap.size) (Kd.S_span ho0 HB3.out.size) (fun k_ hk_ => by simpa using hk_))
 obtain ⟨A15, c16, e17⟩ := Kd.S_slice O_w0_14.out
 subst e17
 clear HB3 O_t1_5 hb ho0
 go_wp2_with fail
 go_at_call 19
 refine (laws_toByteS.calls k _ _ b b _ (Kd.C_below HR.out HB11.out) HC.out H1.out).mono ?_
 rintro e w19 ⟨v18, rfl, ho0, hb⟩
 have HB20 := z1o.mk (za HB11.out hb)
 have O_t1_21 := z1o.mk (Kd.R_below O_t1_12.out hb)
 have O_w0_22 := z1o.mk (Kd.S_below O_w0_14.out hb)
 have Z23 := z1o.mk (show w10.heap.size ≤ w19.heap.size from by have := hb.size; simpa using this)
 have O_x0_24 := z1o.mk (Kd.R_mono (ok' := fun k_ => w10.heap.size ≤ k_ ∧ k_ < w19.heap.size) (Kd.R_span ho0 HB11.out.size) (fun k_ hk_ => by simpa using hk_))
 obtain ⟨A25, c26, e27⟩ := Kd.R_slice O_x0_24.out
 subst e27
 clear HB11 O_t1_12 O_w0_14 hb ho0
 go_wp2_with fail
 go_at_call 29
 refine (readLog_w H3.out (Kd.R_reads' O_x0_24.out).2.2 (by have h_ := Kd.R_reads' O_x0_24.out; have := h_.1; have := h_.2.1; omega) H9.out HL.out).mono ?_
 rintro e w29 ⟨v28, rfl, ho0, hb⟩
 have HB30 := z1o.mk (za HB20.out hb)
 have O_t1_31 := z1o.mk (Kd.R_below O_t1_21.out hb)
 have O_w0_32 := z1o.mk (Kd.S_below O_w0_22.out hb)
 have O_x0_33 := z1o.mk (Kd.R_below O_x0_24.out hb)
 have Z34 := z1o.mk (show w19.heap.size ≤ w29.heap.size from by have := hb.size; simpa using this)
 have O_g0_35 := z1o.mk (Kd.S_mono (ok' := fun k_ => w19.heap.size ≤ k_ ∧ k_ < w29.heap.size) (Kd.S_span ho0 HB20.out.size) (fun k_ hk_ => by simpa using hk_))
 obtain ⟨A36, c37, e38⟩ := Kd.S_slice O_g0_35.out
 subst e38
 clear HB20 O_t1_21 O_w0_22 O_x0_24 hb ho0
 go_wp2_with fail
 go_at_call 45
 refine (z1a.calls k _ _ rs _ _ rs true _ (kD47_C (Kd.S_reads' O_g0_35.out).2.2) (by have h_ := Kd.S_reads' O_g0_35.out; have := h_.1; have := h_.2.1; omega) (kD47_C (Kd.S_reads' O_w0_32.out).2.2) (by have h_ := Kd.S_reads' O_w0_32.out; have := h_.1; have := h_.2.1; omega) H4.out).mono ?_
 rintro e w39 ⟨rfl, hb⟩
 have HB40 := z1o.mk (za HB30.out hb)
 have O_t1_41 := z1o.mk (Kd.R_below O_t1_31.out hb)
 have O_w0_42 := z1o.mk (Kd.S_below O_w0_32.out hb)
 have O_x0_43 := z1o.mk (Kd.R_below O_x0_33.out hb)
 have O_g0_44 := z1o.mk (Kd.S_below O_g0_35.out hb)
 have Z45 := z1o.mk (show w29.heap.size ≤ w39.heap.size from by have := hb.size; simpa using this)
 clear HB30 O_t1_31 O_w0_32 O_x0_33 O_g0_35 hb 
 go_wp2_with fail
 go_at_call 19
 refine (laws_toByteS.calls k _ _ b b _ (Kd.C_below HR.out HB40.out) HC.out H1.out).mono ?_
 rintro e w47 ⟨v46, rfl, ho0, hb⟩
 have HB48 := z1o.mk (za HB40.out hb)
 have O_t1_49 := z1o.mk (Kd.R_below O_t1_41.out hb)
 have O_w0_50 := z1o.mk (Kd.S_below O_w0_42.out hb)
 have O_x0_51 := z1o.mk (Kd.R_below O_x0_43.out hb)
 have O_g0_52 := z1o.mk (Kd.S_below O_g0_44.out hb)
 have Z53 := z1o.mk (show w39.heap.size ≤ w47.heap.size from by have := hb.size; simpa using this)
 have O_t2_54 := z1o.mk (Kd.R_mono (ok' := fun k_ => w39.heap.size ≤ k_ ∧ k_ < w47.heap.size) (Kd.R_span ho0 HB40.out.size) (fun k_ hk_ => by simpa using hk_))
 obtain ⟨A55, c56, e57⟩ := Kd.R_slice O_t2_54.out
 subst e57
 clear HB40 O_t1_41 O_w0_42 O_x0_43 O_g0_44 hb ho0
 go_wp2_with fail
 go_at_call 13
 refine (laws_eqByteS.calls k _ _ b _ _ b true _ (Kd.R_reads' O_x0_51.out).2.2 (by have h_ := Kd.R_reads' O_x0_51.out; have := h_.1; have := h_.2.1; omega) (Kd.R_reads' O_t2_54.out).2.2 (by have h_ := Kd.R_reads' O_t2_54.out; have := h_.1; have := h_.2.1; omega) H5.out).mono ?_
 rintro e w58 ⟨rfl, hd⟩
 have hb := hd.below
 have HB59 := z1o.mk (za HB48.out hb)
 have O_t1_60 := z1o.mk (Kd.R_below O_t1_49.out hb)
 have O_w0_61 := z1o.mk (Kd.S_below O_w0_50.out hb)
 have O_x0_62 := z1o.mk (Kd.R_below O_x0_51.out hb)
 have O_g0_63 := z1o.mk (Kd.S_below O_g0_52.out hb)
 have O_t2_64 := z1o.mk (Kd.R_below O_t2_54.out hb)
 have Z65 := z1o.mk (show w47.heap.size ≤ w58.heap.size from by have := hb.size; simpa using this)
 clear HB48 O_t1_49 O_w0_50 O_x0_51 O_g0_52 O_t2_54 hb  hd
 go_wp2_with fail
 go_at_call 16
 refine (laws_markByteS.calls k (fun k_ => w10.heap.size ≤ k_ ∧ k_ < w19.heap.size) _ b 1 k1 b' w _ HB59.out O_x0_62.out H6.out).mono ?_
 rintro e w66 ⟨rfl, hy, hb, hk⟩
 have HB67 := z1o.mk hb
 have Z68 := z1o.mk (show w58.heap.size ≤ w66.heap.size from by have := hk.1; simpa using this)
 have O_t1_69 := z1o.mk (Kd.R_kept O_t1_60.out hk (fun k_ h1_ h2_ => by have := Z4.out; have := Z13.out; have := Z23.out; have := Z34.out; have := Z45.out; have := Z53.out; have := Z65.out; have := h1_.1; have := h1_.2; have := h2_.1; have := h2_.2; omega))
 have O_w0_70 := z1o.mk (Kd.S_kept O_w0_61.out hk (fun k_ h1_ h2_ => by have := Z4.out; have := Z13.out; have := Z23.out; have := Z34.out; have := Z45.out; have := Z53.out; have := Z65.out; have := h1_.1; have := h1_.2; have := h2_.1; have := h2_.2; omega))
 have O_g0_71 := z1o.mk (Kd.S_kept O_g0_63.out hk (fun k_ h1_ h2_ => by have := Z4.out; have := Z13.out; have := Z23.out; have := Z34.out; have := Z45.out; have := Z53.out; have := Z65.out; have := h1_.1; have := h1_.2; have := h2_.1; have := h2_.2; omega))
 have O_t2_72 := z1o.mk (Kd.R_kept O_t2_64.out hk (fun k_ h1_ h2_ => by have := Z4.out; have := Z13.out; have := Z23.out; have := Z34.out; have := Z45.out; have := Z53.out; have := Z65.out; have := h1_.1; have := h1_.2; have := h2_.1; have := h2_.2; omega))
 have O_x0_73 := z1o.mk (Kd.R_reok rfl hy (fun k_ e_ => O_x0_62.out.1 k_ e_))
 clear HB59 O_t1_60 O_w0_61 O_g0_63 O_t2_64 O_x0_62 hy hb hk
 go_wp2_with fail
 go_at_call 45
 refine (z1a.calls k _ _ rs _ _ rs true _ (kD47_C (Kd.S_reads' O_g0_71.out).2.2) (by have h_ := Kd.S_reads' O_g0_71.out; have := h_.1; have := h_.2.1; omega) (kD47_C (Kd.S_reads' O_w0_70.out).2.2) (by have h_ := Kd.S_reads' O_w0_70.out; have := h_.1; have := h_.2.1; omega) H4.out).mono ?_
 rintro e w74 ⟨rfl, hb⟩
 have HB75 := z1o.mk (za HB67.out hb)
 have O_t1_76 := z1o.mk (Kd.R_below O_t1_69.out hb)
 have O_w0_77 := z1o.mk (Kd.S_below O_w0_70.out hb)
 have O_x0_78 := z1o.mk (Kd.R_below O_x0_73.out hb)
 have O_g0_79 := z1o.mk (Kd.S_below O_g0_71.out hb)
 have O_t2_80 := z1o.mk (Kd.R_below O_t2_72.out hb)
 have Z81 := z1o.mk (show w66.heap.size ≤ w74.heap.size from by have := hb.size; simpa using this)
 clear HB67 O_t1_69 O_w0_70 O_x0_73 O_g0_71 O_t2_72 hb 
 go_wp2_with fail
 go_at_call 46
 refine (markRecordS_w (fun k_ => w19.heap.size ≤ k_ ∧ k_ < w29.heap.size) _ rs rs' m w _ H7.out O_g0_79.out HB75.out).mono ?_
 rintro e w82 ⟨rfl, hy, hb, hk⟩
 have HB83 := z1o.mk hb
 have Z84 := z1o.mk (show w74.heap.size ≤ w82.heap.size from by have := hk.1; simpa using this)
 have O_t1_85 := z1o.mk (Kd.R_kept O_t1_76.out hk (fun k_ h1_ h2_ => by have := Z4.out; have := Z13.out; have := Z23.out; have := Z34.out; have := Z45.out; have := Z53.out; have := Z65.out; have := Z68.out; have := Z81.out; have := h1_.1; have := h1_.2; have := h2_.1; have := h2_.2; omega))
 have O_w0_86 := z1o.mk (Kd.S_kept O_w0_77.out hk (fun k_ h1_ h2_ => by have := Z4.out; have := Z13.out; have := Z23.out; have := Z34.out; have := Z45.out; have := Z53.out; have := Z65.out; have := Z68.out; have := Z81.out; have := h1_.1; have := h1_.2; have := h2_.1; have := h2_.2; omega))
 have O_x0_87 := z1o.mk (Kd.R_kept O_x0_78.out hk (fun k_ h1_ h2_ => by have := Z4.out; have := Z13.out; have := Z23.out; have := Z34.out; have := Z45.out; have := Z53.out; have := Z65.out; have := Z68.out; have := Z81.out; have := h1_.1; have := h1_.2; have := h2_.1; have := h2_.2; omega))
 have O_t2_88 := z1o.mk (Kd.R_kept O_t2_80.out hk (fun k_ h1_ h2_ => by have := Z4.out; have := Z13.out; have := Z23.out; have := Z34.out; have := Z45.out; have := Z53.out; have := Z65.out; have := Z68.out; have := Z81.out; have := h1_.1; have := h1_.2; have := h2_.1; have := h2_.2; omega))
 have O_g0_89 := z1o.mk (hy)
 clear HB75 O_t1_76 O_w0_77 O_x0_78 O_t2_80 O_g0_79 hy hb hk
 go_wp2_with fail
 go_at_call 47
 refine calls_of_args (args' := #[.slice A36 rs'.length c37, .int .i64 1]) (by first | rfl | (rw [show rs'.length = rs.length from (Kd.S_reads' O_g0_89.out).1.symm])) ?_
 refine (z13.calls k _ _ rs' 1 m _ (kD47_C (Kd.S_reads' O_g0_89.out).2.2) (by have h_ := Kd.S_reads' O_g0_89.out; have := h_.1; have := h_.2.1; omega) H8.out).mono ?_
 rintro e w90 ⟨rfl, hb⟩
 have HB91 := z1o.mk (za HB83.out hb)
 have O_t1_92 := z1o.mk (Kd.R_below O_t1_85.out hb)
 have O_w0_93 := z1o.mk (Kd.S_below O_w0_86.out hb)
 have O_x0_94 := z1o.mk (Kd.R_below O_x0_87.out hb)
 have O_g0_95 := z1o.mk (Kd.S_below O_g0_89.out hb)
 have O_t2_96 := z1o.mk (Kd.R_below O_t2_88.out hb)
 have Z97 := z1o.mk (show w82.heap.size ≤ w90.heap.size from by have := hb.size; simpa using this)
 clear HB83 O_t1_85 O_w0_86 O_x0_87 O_g0_89 O_t2_88 hb 
 go_wp2_with fail
 go_at_call 19
 refine (laws_toByteS.calls k _ _ b b _ (Kd.C_below HR.out HB91.out) HC.out H1.out).mono ?_
 rintro e w99 ⟨v98, rfl, ho0, hb⟩
 have HB100 := z1o.mk (za HB91.out hb)
 have O_t1_101 := z1o.mk (Kd.R_below O_t1_92.out hb)
 have O_w0_102 := z1o.mk (Kd.S_below O_w0_93.out hb)
 have O_x0_103 := z1o.mk (Kd.R_below O_x0_94.out hb)
 have O_g0_104 := z1o.mk (Kd.S_below O_g0_95.out hb)
 have O_t2_105 := z1o.mk (Kd.R_below O_t2_96.out hb)
 have Z106 := z1o.mk (show w90.heap.size ≤ w99.heap.size from by have := hb.size; simpa using this)
 have O_t3_107 := z1o.mk (Kd.R_mono (ok' := fun k_ => w90.heap.size ≤ k_ ∧ k_ < w99.heap.size) (Kd.R_span ho0 HB91.out.size) (fun k_ hk_ => by simpa using hk_))
 obtain ⟨A108, c109, e110⟩ := Kd.R_slice O_t3_107.out
 subst e110
 clear HB91 O_t1_92 O_w0_93 O_x0_94 O_g0_95 O_t2_96 hb ho0
 go_wp2_with fail
 go_at_call 29
 refine (readLog_w H3.out (Kd.R_reads' O_t3_107.out).2.2 (by have h_ := Kd.R_reads' O_t3_107.out; have := h_.1; have := h_.2.1; omega) H9.out HL.out).mono ?_
 rintro e w112 ⟨v111, rfl, ho0, hb⟩
 have HB113 := z1o.mk (za HB100.out hb)
 have O_t1_114 := z1o.mk (Kd.R_below O_t1_101.out hb)
 have O_w0_115 := z1o.mk (Kd.S_below O_w0_102.out hb)
 have O_x0_116 := z1o.mk (Kd.R_below O_x0_103.out hb)
 have O_g0_117 := z1o.mk (Kd.S_below O_g0_104.out hb)
 have O_t2_118 := z1o.mk (Kd.R_below O_t2_105.out hb)
 have O_t3_119 := z1o.mk (Kd.R_below O_t3_107.out hb)
 have Z120 := z1o.mk (show w99.heap.size ≤ w112.heap.size from by have := hb.size; simpa using this)
 have O_h0_121 := z1o.mk (Kd.S_mono (ok' := fun k_ => w99.heap.size ≤ k_ ∧ k_ < w112.heap.size) (Kd.S_span ho0 HB100.out.size) (fun k_ hk_ => by simpa using hk_))
 obtain ⟨A122, c123, e124⟩ := Kd.S_slice O_h0_121.out
 subst e124
 clear HB100 O_t1_101 O_w0_102 O_x0_103 O_g0_104 O_t2_105 O_t3_107 hb ho0
 go_wp2_with fail
 go_at_call 45
 refine (z1a.calls k _ _ rs _ _ rs true _ (kD47_C (Kd.S_reads' O_h0_121.out).2.2) (by have h_ := Kd.S_reads' O_h0_121.out; have := h_.1; have := h_.2.1; omega) (kD47_C (Kd.S_reads' O_w0_115.out).2.2) (by have h_ := Kd.S_reads' O_w0_115.out; have := h_.1; have := h_.2.1; omega) H4.out).mono ?_
 rintro e w125 ⟨rfl, hb⟩
 have HB126 := z1o.mk (za HB113.out hb)
 have O_t1_127 := z1o.mk (Kd.R_below O_t1_114.out hb)
 have O_w0_128 := z1o.mk (Kd.S_below O_w0_115.out hb)
 have O_x0_129 := z1o.mk (Kd.R_below O_x0_116.out hb)
 have O_g0_130 := z1o.mk (Kd.S_below O_g0_117.out hb)
 have O_t2_131 := z1o.mk (Kd.R_below O_t2_118.out hb)
 have O_t3_132 := z1o.mk (Kd.R_below O_t3_119.out hb)
 have O_h0_133 := z1o.mk (Kd.S_below O_h0_121.out hb)
 have Z134 := z1o.mk (show w112.heap.size ≤ w125.heap.size from by have := hb.size; simpa using this)
 clear HB113 O_t1_114 O_w0_115 O_x0_116 O_g0_117 O_t2_118 O_t3_119 O_h0_121 hb 
 go_wp2_with fail
 go_at_call 47
 refine calls_of_args (args' := #[.slice A36 rs'.length c37, .int .i64 1]) (by first | rfl | (rw [show rs'.length = rs.length from (Kd.S_reads' O_g0_130.out).1.symm])) ?_
 refine (z13.calls k _ _ rs' 1 m _ (kD47_C (Kd.S_reads' O_g0_130.out).2.2) (by have h_ := Kd.S_reads' O_g0_130.out; have := h_.1; have := h_.2.1; omega) H8.out).mono ?_
 rintro e w135 ⟨rfl, hb⟩
 have HB136 := z1o.mk (za HB126.out hb)
 have O_t1_137 := z1o.mk (Kd.R_below O_t1_127.out hb)
 have O_w0_138 := z1o.mk (Kd.S_below O_w0_128.out hb)
 have O_x0_139 := z1o.mk (Kd.R_below O_x0_129.out hb)
 have O_g0_140 := z1o.mk (Kd.S_below O_g0_130.out hb)
 have O_t2_141 := z1o.mk (Kd.R_below O_t2_131.out hb)
 have O_t3_142 := z1o.mk (Kd.R_below O_t3_132.out hb)
 have O_h0_143 := z1o.mk (Kd.S_below O_h0_133.out hb)
 have Z144 := z1o.mk (show w125.heap.size ≤ w135.heap.size from by have := hb.size; simpa using this)
 clear HB126 O_t1_127 O_w0_128 O_x0_129 O_g0_130 O_t2_131 O_t3_132 O_h0_133 hb 
 go_wp2_with fail
 go_ret
 exact ⟨rfl, HB136.out⟩
noncomputable def recP (r : RecT) : List Int := if r.1 = 1 then partL r.1 r.2.1.toNat (docL r.2.2.2.1 r.2.2.2.2) else partL r.1 r.2.1.toNat (bytesOf r.2.2.1)
theorem recB_eq (r : RecT) : recB r = recL (recP r) := by
 unfold recB recP
 split <;> rfl
open Classical in
theorem recOk_iff {kind seq : Int} {id did : ByteArray} {ds : List S84} : recOk kind seq id did ds = true ↔ ((1 ≤ seq ∧ seq ≤ 4611686018427387903) ∧ ((kind = 1 ∧ id.toList = [] ∧ OkId did ∧ FitD did ds) ∨ (kind = 2 ∧ OkId id ∧ did.toList = [] ∧ ds.length = 0))) := by
 unfold recOk
 exact decide_eq_true_iff
theorem recR_of_ok {kind seq : Int} {id did : ByteArray} {ds : List S84} (h : recOk kind seq id did ds = true) : recR kind seq id did ds = finR (recP (kind, seq, id, did, ds)) := by
 have h2 := recOk_iff.1 h
 unfold recR recP
 rw [if_pos h2.1]
 rcases h2.2 with ⟨rfl, h3⟩ | ⟨rfl, h3⟩
 ·rw [if_pos rfl, if_pos h3]
  rfl
 ·rw [if_neg (by decide), if_pos rfl, if_pos h3, if_neg (show ¬ (2 : Int) = 1 by decide)]
theorem recR_of_not {kind seq : Int} {id did : ByteArray} {ds : List S84} (h : ¬ recOk kind seq id did ds = true) : recR kind seq id did ds = ([], 1) := by
 unfold recR
 by_cases h1 : 1 ≤ seq ∧ seq ≤ 4611686018427387903
 ·rw [if_pos h1]
  by_cases k1 : kind = 1
  ·rw [if_pos k1]
   by_cases h2 : id.toList = [] ∧ OkId did ∧ FitD did ds
   ·exact absurd (recOk_iff.2 ⟨h1, Or.inl ⟨k1, h2⟩⟩) h
   ·rw [if_neg h2]
  ·rw [if_neg k1]
   by_cases k2 : kind = 2
   ·rw [if_pos k2]
    by_cases h2 : OkId id ∧ did.toList = [] ∧ ds.length = 0
    ·exact absurd (recOk_iff.2 ⟨h1, Or.inr ⟨k2, h2⟩⟩) h
    ·rw [if_neg h2]
   ·rw [if_neg k2]
 ·rw [if_neg h1]
theorem partAt_drop (b : List Int) (p n q : Nat) (h : p ≤ q) : partAt (b.drop p) n (q - p) = partAt b n q := by
 unfold partAt
 rw [List.take_drop, List.drop_drop]
 congr 2
 ·congr 1
  omega
 ·omega
theorem getB_recL {b part : List Int} (h1 : (recL part).length ≤ 1048576) (h2 : recL part = b.take (recL part).length) : getB b 0 = some (part.length, (putL part.length).length) := by
 have h3 : b = putL part.length ++ (part ++ fourL (sumL part) ++ b.drop (recL part).length) := by
  conv => lhs; rw [← List.take_append_drop (recL part).length b, ← h2]
  unfold recL
  simp only [List.append_assoc]
 rw [h3]
 have := recL_length part
 exact getB_put part.length (by omega) _
theorem fin_eq (b : List Int) (hl : b.length ≤ 1048576) (p n q : Nat) (hg : getB b p = some (n, q)) (h1 : Roomy b n q) (r : RecT) (cnt : Nat) (hs : r.2.1 = (cnt : Int) + 1) :
  (if (oFin (b.drop p) r).2 = 0 ∨ (oFin (b.drop p) r).1.2.1 ≠ (cnt : Int) + 1 then none else some (toS47 (oFin (b.drop p) r).1, p + (oFin (b.drop p) r).2.toNat)) =
  (if (lFin b p (q + n + 4) r).2.2 = true then some (toS47 (lFin b p (q + n + 4) r).1, (lFin b p (q + n + 4) r).2.1.toNat) else none) := by
 obtain ⟨kind, seq, id, did, ds⟩ := r
 have hle := getB_le b p hg
 have hpq : p < q := hle.2.1
 have hrm := h1.2
 have hdl : (b.drop p).length = b.length - p := uf
 have hg0 : getB (b.drop p) 0 = some (n, q - p) := by rw [getB_drop, hg]; rfl
 have hslice : (b.take (q + n + 4)).drop p = (b.drop p).take (q + n + 4 - p) := by rw [List.take_drop]; congr 2; omega
 by_cases hok : recOk kind seq id did ds = true
 ·have hR := recR_of_ok hok
  have hB : recB (kind, seq, id, did, ds) = recL (recP (kind, seq, id, did, ds)) := recB_eq _
  by_cases hq : recB (kind, seq, id, did, ds) = (b.take (q + n + 4)).drop p
  ·have hL : lFin b p (q + n + 4) (kind, seq, id, did, ds) = ((kind, seq, id, did, ds), ((q + n + 4 : Nat) : Int), true) := if_pos ⟨hok, hq⟩
   have hlen : (recL (recP (kind, seq, id, did, ds))).length = q + n + 4 - p := by rw [← hB, hq, hslice, ug, hdl]; omega
   have hR2 : recR kind seq id did ds = (recL (recP (kind, seq, id, did, ds)), 0) := by rw [hR]; unfold finR; rw [if_pos (by omega)]
   have hO : oFin (b.drop p) (kind, seq, id, did, ds) = ((kind, seq, id, did, ds), ((q + n + 4 - p : Nat) : Int)) := by
    rw [oFin_d hR2 (by rw [hlen, hdl]; omega) (by rw [hlen, ← hslice, ← hq, hB]), hlen]
   rw [hL, hO, if_pos rfl, if_neg (by
    rintro (hh | hh)
    ·have hh' : ((q + n + 4 - p : Nat) : Int) = 0 := hh
     omega
    ·exact hh hs)]
   show some (_, p + (((q + n + 4 - p : Nat) : Int)).toNat) = some (_, (((q + n + 4 : Nat) : Int)).toNat)
   rw [Int.toNat_natCast, Int.toNat_natCast]
   congr 2
   omega
  ·have hL : lFin b p (q + n + 4) (kind, seq, id, did, ds) = ((kind, seq, id, did, ds), 0, false) := if_neg (fun hh => hq hh.2)
   have hO : oFin (b.drop p) (kind, seq, id, did, ds) = (zRec, 0) := by
    by_cases hf : (recL (recP (kind, seq, id, did, ds))).length ≤ 1048576
    ·have hR2 : recR kind seq id did ds = (recL (recP (kind, seq, id, did, ds)), 0) := by rw [hR]; unfold finR; rw [if_pos hf]
     refine oFin_a hR2 (Or.inr ?_)
     by_cases hlt : (b.drop p).length < (recL (recP (kind, seq, id, did, ds))).length
     ·exact Or.inl hlt
     ·refine Or.inr (fun he => hq ?_)
      have h3 := getB_recL hf he
      rw [hg0] at h3
      injection h3 with h3
      injection h3 with h4 h5
      have h6 := recL_length (recP (kind, seq, id, did, ds))
      rw [hB, he, hslice]
      congr 1
      omega
    ·have hR2 : recR kind seq id did ds = ([], 2) := by rw [hR]; unfold finR; rw [if_neg hf]
     exact oFin_a hR2 (Or.inl (by decide))
   rw [hL, hO, if_pos (Or.inl rfl), if_neg (by simp)]
 ·have hO : oFin (b.drop p) (kind, seq, id, did, ds) = (zRec, 0) := oFin_a (recR_of_not hok) (Or.inl (by decide))
  have hL : lFin b p (q + n + 4) (kind, seq, id, did, ds) = ((kind, seq, id, did, ds), 0, false) := if_neg (fun hh => hok hh.1)
  rw [hL, hO, if_pos (Or.inl rfl), if_neg (by simp)]
theorem oFin_seq (b : List Int) (r : RecT) : (oFin b r).2 = 0 ∨ (oFin b r).1 = r := by
 unfold oFin
 split
 ·exact Or.inr rfl
 ·exact Or.inl rfl
theorem step_eq (b : List Int) (hl : b.length ≤ 1048576) (p cnt : Nat) (hp : p ≤ b.length) : oStep b p cnt = lStep b p cnt := by
 have hzo : ∀ {x : RecT × Int}, oRec (b.drop p) = x → (x.2 = 0 ∨ x.1.2.1 ≠ (cnt : Int) + 1) → oStep b p cnt = none := fun hx h => by unfold oStep; rw [hx]; exact if_pos h
 have hzl : ∀ {r : RecT} {n : Int}, lNext b p ((cnt : Int) + 1) = (r, n, false) → lStep b p cnt = none := fun hx => by unfold lStep; rw [hx]; exact if_neg (by simp)
 cases hg : getB b p with
 | none =>
  have hg0 : getB (b.drop p) 0 = none := by rw [getB_drop, hg]; rfl
  rw [hzo (oRec_none hg0) (Or.inl rfl), hzl (r := zRec) (n := 0) (by unfold lNext; rw [hg])]
 | some x =>
  obtain ⟨n, q⟩ := x
  have hle := getB_le b p hg
  have hpq : p < q := hle.2.1
  have hql : q ≤ b.length := hle.2.2
  have hg0 : getB (b.drop p) 0 = some (n, q - p) := by rw [getB_drop, hg]; rfl
  have hpt := partAt_drop b p n q (by omega)
  by_cases h1 : Roomy b n q
  ·have h1' : Roomy (b.drop p) n (q - p) := ⟨h1.1, by have := h1.2; rw [uf]; omega⟩
   cases h4 : getB (partAt b n q) 1 with
   | none =>
    rw [hzo (oRec_noseq hg0 h1' (by rw [hpt]; exact h4)) (Or.inl rfl)]
    symm
    refine hzl (r := (rd (partAt b n q) 0, 0, ⟨#[]⟩, ⟨#[]⟩, [])) (n := 0) ?_
    unfold lNext; rw [hg]; show (if _ then _ else _) = _; rw [if_pos h1, h4]
   | some y =>
    obtain ⟨seq, k⟩ := y
    have h4' : getB (partAt (b.drop p) n (q - p)) 1 = some (seq, k) := by rw [hpt]; exact h4
    have hlN : lNext b p ((cnt : Int) + 1) = if (seq : Int) = (cnt : Int) + 1 then (if (lBody (partAt b n q) ((cnt : Int) + 1) k).2 = true then lFin b p (q + n + 4) (lBody (partAt b n q) ((cnt : Int) + 1) k).1 else ((lBody (partAt b n q) ((cnt : Int) + 1) k).1, 0, false)) else ((rd (partAt b n q) 0, 0, ⟨#[]⟩, ⟨#[]⟩, []), 0, false) := by
     unfold lNext; rw [hg]; show (if _ then _ else _) = _; rw [if_pos h1, h4]
    by_cases h5 : (seq : Int) = (cnt : Int) + 1
    ·rw [if_pos h5] at hlN
     cases h6 : oBody (partAt b n q) seq k with
     | none =>
      rw [hzo (oRec_nobody hg0 h1' h4' (by rw [hpt]; exact h6)) (Or.inl rfl)]
      have hb2 : ¬ (lBody (partAt b n q) ((cnt : Int) + 1) k).2 = true := by
       unfold oBody at h6
       unfold lBody
       by_cases k1 : rd (partAt b n q) 0 = 1
       ·rw [if_pos k1] at h6 ⊢
        split at h6
        ·simp at h6
        ·rename_i hc
         rw [if_neg hc]
         simp
       ·rw [if_neg k1] at h6
        split at h6 <;> simp at h6
      rw [if_neg hb2] at hlN
      exact (hzl hlN).symm
     | some r =>
      have hO : oRec (b.drop p) = oFin (b.drop p) r := oRec_some hg0 h1' h4' (by rw [hpt]; exact h6)
      by_cases k12 : rd (partAt b n q) 0 = 1 ∨ rd (partAt b n q) 0 = 2
      ·have hb2 : lBody (partAt b n q) ((cnt : Int) + 1) k = (r, true) := by
        rw [← h5]
        unfold oBody at h6
        unfold lBody
        by_cases k1 : rd (partAt b n q) 0 = 1
        ·rw [if_pos k1] at h6 ⊢
         split at h6
         ·rename_i hc
          rw [if_pos hc]
          injection h6 with h6
          rw [h6]
         ·simp at h6
        ·rw [if_neg k1] at h6 ⊢
         rw [if_pos (k12.resolve_left k1)] at h6
         injection h6 with h6
         rw [h6]
       have hseq : r.2.1 = (cnt : Int) + 1 := by
        rw [← h5]
        unfold oBody at h6
        split at h6
        ·split at h6
         ·injection h6 with h6
          rw [← h6]
         ·simp at h6
        ·split at h6
         ·injection h6 with h6
          rw [← h6]
         ·injection h6 with h6
          rw [← h6]
       rw [hb2] at hlN
       rw [if_pos rfl] at hlN
       unfold oStep lStep
       rw [hO, hlN]
       exact fin_eq b hl p n q hg h1 r cnt hseq
      ·have k1 : ¬ rd (partAt b n q) 0 = 1 := fun h => k12 (Or.inl h)
       have k2 : ¬ rd (partAt b n q) 0 = 2 := fun h => k12 (Or.inr h)
       have hr : r = (rd (partAt b n q) 0, (seq : Int), ⟨#[]⟩, ⟨#[]⟩, []) := by
        unfold oBody at h6
        rw [if_neg k1, if_neg k2] at h6
        injection h6 with h6
        exact h6.symm
       have hO2 : oFin (b.drop p) r = (zRec, 0) := by
        rw [hr]
        exact oFin_a (recR_odd ⟨k1, k2⟩) (Or.inl (by decide))
       rw [hzo (hO.trans hO2) (Or.inl rfl)]
       have hb2 : lBody (partAt b n q) ((cnt : Int) + 1) k = ((rd (partAt b n q) 0, (cnt : Int) + 1, strOfNums ((partAt b n q).drop k), ⟨#[]⟩, []), true) := by
        unfold lBody; rw [if_neg k1]
       rw [hb2] at hlN
       rw [if_pos rfl] at hlN
       have hF : lFin b p (q + n + 4) (rd (partAt b n q) 0, (cnt : Int) + 1, strOfNums ((partAt b n q).drop k), ⟨#[]⟩, []) = ((rd (partAt b n q) 0, (cnt : Int) + 1, strOfNums ((partAt b n q).drop k), ⟨#[]⟩, []), 0, false) := by
        refine if_neg (fun hh => ?_)
        rcases (recOk_iff.1 hh.1).2 with h | h
        ·exact k1 h.1
        ·exact k2 h.1
       exact (hzl (hlN.trans hF)).symm
    ·rw [if_neg h5] at hlN
     rw [hzl hlN]
     cases h6 : oBody (partAt b n q) seq k with
     | none => exact hzo (oRec_nobody hg0 h1' h4' (by rw [hpt]; exact h6)) (Or.inl rfl)
     | some r =>
      refine hzo (oRec_some hg0 h1' h4' (by rw [hpt]; exact h6)) ?_
      rcases oFin_seq (b.drop p) r with h7 | h7
      ·exact Or.inl h7
      ·refine Or.inr ?_
       rw [h7]
       have hseq : r.2.1 = (seq : Int) := by
        unfold oBody at h6
        split at h6
        ·split at h6
         ·injection h6 with h6
          rw [← h6]
         ·simp at h6
        ·split at h6
         ·injection h6 with h6
          rw [← h6]
         ·injection h6 with h6
          rw [← h6]
       rw [hseq]
       exact h5
  ·have h1' : ¬ Roomy (b.drop p) n (q - p) := fun h => h1 ⟨h.1, by have := h.2; rw [uf] at this; omega⟩
   rw [hzo (oRec_small hg0 h1') (Or.inl rfl)]
   symm
   refine hzl (r := zRec) (n := 0) ?_
   unfold lNext; rw [hg]; exact if_neg h1
theorem toByteS_l0 (xs : List Int) (hl : xs.length ≤ 1048576) : ∀ (rest pre : List Int), xs = pre ++ rest →
  Ev (fun k => laws_toByteS.l0 k xs (pre ++ List.replicate rest.length 0) (pre.length : Int)) xs := by
 intro rest
 induction rest with
 | nil =>
  intro pre he
  refine Ev.step (fun k => laws_toByteS.l0.eq_2 _ _ _ k) (Ev.ite_neg (by rw [he]; exact end_lt) (Ev.eq (Ev.now _) (by rw [he]; rfl)))
 | cons x rest ih =>
  intro pre he
  have hm : ((pre.length : Int)) < (xs.length : Int) := by rw [he]; exact mid_lt
  have hr : rd xs (pre.length : Int) = x := by rw [he]; exact mid_getD 0
  refine Ev.step (fun k => laws_toByteS.l0.eq_2 _ _ _ k) (Ev.ite_pos hm (Ev.ite_pos (by omega) (Ev.ite_pos (by simp; omega) ?_)))
  rw [hr, wrap_next (x := x) (by omega), List.length_cons, List.replicate_succ, mid_set, snoc_cons]
  exact ih (pre ++ [x]) (by rw [he, snoc_cons])
theorem toByteS_ev (xs : List Int) (hl : xs.length ≤ 1048576) : Ev (fun k => laws_toByteS.f k xs) xs := by
 unfold laws_toByteS.f
 refine Ev.ite_pos (by omega) (Ev.ite_pos (by omega) ?_)
 rw [Int.toNat_natCast]
 exact toByteS_l0 xs hl xs [] rfl
theorem cntVS_small (xs : List S84) (h : ∀ x ∈ xs, x.f1.length ≤ 4096 ∧ x.f2.length ≤ 4096) : cntVS xs ≤ 8193 * xs.length := by
 induction xs with
 | nil => simp [cntVS]
 | cons x xs ih =>
  rw [cntVS_cons, List.length_cons]
  have h1 := h x (by simp)
  have h2 := ih (fun y hy => h y (by simp [hy]))
  have e : cntV x = 1 + x.f1.length + x.f2.length := rfl
  omega
end Go.Proofs.Ytndjodgcemgpfaa.Q
end
