/- A part of the proof: the texts Qllog, packed. -/
import Derived.Test.YtndjodgcemgpfaaKd9

open List renaming length_drop → uf, length_append → ul
set_option linter.unusedVariables false
set_option linter.unusedSimpArgs false
section
namespace Go.Proofs.Ytndjodgcemgpfaa.Q
open Go.RowKit Go.Proofs.YtndjodgcemgpfaaW.PrintWords Go.Proofs.YtndjodgcemgpfaaW.PrintLast Go.Proofs.YtndjodgcemgpfaaW.PrintMore
def OkR (x : S47) : Prop := FitD x.f3.f0 x.f3.f1
theorem oBody_fit {part : List Int} {seq k : Nat} {r : RecT} (h : oBody part seq k = some r) : FitD r.2.2.2.1 r.2.2.2.2 := by
 unfold oBody at h
 split at h
 ·split at h
  ·injection h with h
   rw [← h]
   exact rdR_fit _
  ·simp at h
 ·split at h
  ·injection h with h
   rw [← h]
   exact fitD_nil
  ·injection h with h
   rw [← h]
   exact fitD_nil
theorem zRec_fit : FitD zRec.2.2.2.1 zRec.2.2.2.2 := fitD_nil
theorem oFin_fit (b : List Int) {r : RecT} (h : FitD r.2.2.2.1 r.2.2.2.2) : FitD (oFin b r).1.2.2.2.1 (oFin b r).1.2.2.2.2 := by
 unfold oFin
 split
 ·exact h
 ·exact zRec_fit
theorem oRec_fit (b : List Int) : FitD (oRec b).1.2.2.2.1 (oRec b).1.2.2.2.2 := by
 cases hg : getB b 0 with
 | none => rw [oRec_none hg]; exact zRec_fit
 | some x =>
  obtain ⟨n, q⟩ := x
  by_cases h1 : Roomy b n q
  ·cases h4 : getB (partAt b n q) 1 with
   | none => rw [oRec_noseq hg h1 h4]; exact zRec_fit
   | some y =>
    obtain ⟨seq, k⟩ := y
    cases h5 : oBody (partAt b n q) seq k with
    | none => rw [oRec_nobody hg h1 h4 h5]; exact zRec_fit
    | some r => rw [oRec_some hg h1 h4 h5]; exact oFin_fit b (oBody_fit h5)
  ·rw [oRec_small hg h1]; exact zRec_fit
theorem oStep_some {b : List Int} {p cnt : Nat} {x : S47 × Nat} (hp : p ≤ b.length) (h : oStep b p cnt = some x) : p < x.2 ∧ x.2 ≤ b.length ∧ OkR x.1 := by
 have hb := oRec_bound (b.drop p)
 have hf := oRec_fit (b.drop p)
 rw [uf] at hb
 unfold oStep at h
 split at h
 ·simp at h
 ·rename_i hn
  injection h with h
  rw [← h]
  have h0 : ¬ (oRec (b.drop p)).2 = 0 := fun hh => hn (Or.inl hh)
  exact ⟨by show p < p + (oRec (b.drop p)).2.toNat; omega, by show p + (oRec (b.drop p)).2.toNat ≤ _; omega, hf⟩
theorem run_ok (b : List Int) : ∀ (f p : Nat) (out : List S47), p ≤ b.length → out.length ≤ p → (∀ x ∈ out, OkR x) →
  (runLog (oStep b) f p out).2 ≤ b.length ∧ (runLog (oStep b) f p out).1.length ≤ (runLog (oStep b) f p out).2 ∧ ∀ x ∈ (runLog (oStep b) f p out).1, OkR x
 | 0, p, out, hp, ho, hx => ⟨hp, ho, hx⟩
 | f + 1, p, out, hp, ho, hx => by
  cases h : oStep b p out.length with
  | none => rw [runLog_none h]; exact ⟨hp, ho, hx⟩
  | some x =>
   rw [runLog_some h]
   have h2 := oStep_some hp h
   refine run_ok b f x.2 (out ++ [x.1]) h2.2.1 (by rw [ul, List.length_singleton]; omega) (fun y hy => ?_)
   rcases List.mem_append.1 hy with hy | hy
   ·exact hx y hy
   ·rw [List.mem_singleton.1 hy]
    exact h2.2.2
theorem run_eq (b : List Int) (hl : b.length ≤ 1048576) : ∀ (f p : Nat) (out : List S47), p ≤ b.length → runLog (oStep b) f p out = runLog (lStep b) f p out
 | 0, p, out, hp => rfl
 | f + 1, p, out, hp => by
  cases h : oStep b p out.length with
  | none => rw [runLog_none h, runLog_none (by rw [← step_eq b hl p _ hp]; exact h)]
  | some x =>
   rw [runLog_some h, runLog_some (x := x) (by rw [← step_eq b hl p _ hp]; exact h)]
   exact run_eq b hl f x.2 _ (oStep_some hp h).2.1
theorem okR_len {x : S47} (h : OkR x) : x.f3.f1.length ≤ 4096 ∧ ∀ y ∈ x.f3.f1, LenV84 y := ⟨h.2.1, fun y hy => ⟨by have := (h.2.2 y hy).2.1; omega, by have := (h.2.2 y hy).2.2.1; omega⟩⟩
theorem okR_cnt {x : S47} (h : OkR x) : cntR x ≤ 33558532 := by
 have h1 := cntVS_small x.f3.f1 (fun y hy => ⟨(h.2.2 y hy).2.1, (h.2.2 y hy).2.2.1⟩)
 have h2 := h.2.1
 have e : cntR x = 4 + cntVS x.f3.f1 := rfl
 omega
theorem cntRS_le : ∀ (xs : List S47), (∀ x ∈ xs, OkR x) → cntRS xs ≤ xs.length * 33558532
 | [], _ => by simp [cntRS]
 | x :: xs, h => by
  rw [cntRS_cons, List.length_cons, Nat.add_mul]
  have h1 := okR_cnt (h x (by simp))
  have h2 := cntRS_le xs (fun y hy => h y (by simp [hy]))
  omega
theorem eqRecord_ev (x : S47) (h : OkR x) : Ev (fun k => z1c.f k x.f0 x.f1 x.f2 x.f3.f0 x.f3.f1 x.f0 x.f1 x.f2 x.f3.f0 x.f3.f1) true := by
 have hx := okR_len h
 exact Ev.ite_pos rfl (Ev.ite_pos rfl (Ev.ite_pos rfl (Ev.bind (eqDoc_ev x.f3.f0 x.f3.f1 (by omega) hx.2) (Ev.ite_pos rfl (Ev.now _)))))
theorem eqRecordS_l0 (xs : List S47) (hl : xs.length ≤ 4611686018427387903) (hv : ∀ x ∈ xs, OkR x) : ∀ (rest pre : List S47), xs = pre ++ rest → Ev (fun k => z1a.l0 k xs xs (pre.length : Int)) true
 | [], pre, hx => by
  subst hx
  exact Ev.step (fun k => z1a.l0.eq_2 _ _ _ k) (Ev.ite_neg end_lt (Ev.now _))
 | x :: rest, pre, hx => by
  have hm : ((pre.length : Int)) < (xs.length : Int) := by rw [hx]; exact mid_lt
  have hr : rd_T47 xs (pre.length : Int) = x := by rw [hx]; exact mid_getD z47
  refine Ev.step (fun k => z1a.l0.eq_2 _ _ _ k) (Ev.ite_pos hm (Ev.ite_pos (by omega) (Ev.ite_pos hm ?_)))
  rw [hr]
  refine Ev.bind (eqRecord_ev x (hv x (by rw [hx]; simp))) (Ev.ite_pos rfl ?_)
  rw [wrap_next (x := x) (by have := hl; omega)]
  exact eqRecordS_l0 xs hl hv rest (pre ++ [x]) (by rw [hx, snoc_cons])
theorem eqRecordS_ev (xs : List S47) (hl : xs.length ≤ 4611686018427387903) (hv : ∀ x ∈ xs, OkR x) : Ev (fun k => z1a.f k xs xs) true :=
 Ev.ite_pos rfl (eqRecordS_l0 xs hl hv xs [] rfl)
theorem heldRecordS_l0 (xs : List S47) : ∀ (rest pre : List S47) (m : Int), xs = pre ++ mkR m rest → 0 ≤ m → m + cntRS rest ≤ 4611686018427387903 → rest.length + pre.length ≤ 4611686018427387903 → (∀ x ∈ rest, x.f3.f1.length ≤ 4096) →
  Ev (fun k => z13.l0 k xs m (pre.length : Int)) (m + cntRS rest)
 | [], pre, m, hx, h0, h1, h2, h3 => by
  subst hx
  exact Ev.step (fun k => z13.l0.eq_2 _ _ _ k) (Ev.ite_neg end_lt (Ev.eq (Ev.now _) (by simp [cntRS])))
 | x :: rest, pre, m, hx, h0, h1, h2, h3 => by
  rw [cntRS_cons] at h1
  have hc : cntR x = 4 + cntVS x.f3.f1 := rfl
  simp only [List.length_cons] at h2
  have hx' : xs = pre ++ mkR1 m x :: mkR (m + cntR x) rest := hx
  have hm : ((pre.length : Int)) < (xs.length : Int) := by rw [hx']; exact mid_lt
  have hr : rd_T47 xs (pre.length : Int) = mkR1 m x := by rw [hx']; exact mid_getD z47
  refine Ev.step (fun k => z13.l0.eq_2 _ _ _ k) (Ev.ite_pos hm (Ev.ite_pos (by omega) ?_))
  rw [hr, z1s (x := m + 1) (by omega) (by omega), z1s (x := m + 1 + 1) (by omega) (by omega), z1s (x := m + 1 + 1 + 1) (by omega) (by omega), z1s (x := m + 1 + 1 + 1 + 1) (by omega) (by omega), wrap_next (x := mkR1 m x) (by omega)]
  refine Ev.ite_pos rfl (Ev.ite_pos rfl (Ev.bind (markText_ev (m + 1 + 1) (by omega)) (Ev.ite_pos rfl (Ev.bind (markText_ev (m + 1 + 1 + 1) (by omega)) (Ev.ite_pos rfl (Ev.bind (heldValueS_ev x.f3.f1 (m + 1 + 1 + 1 + 1) (by omega) (by omega) (by have := h3 x (by simp); omega)) (Ev.ite_neg (by omega) ?_)))))))
  refine Ev.eq (heldRecordS_l0 xs rest (pre ++ [mkR1 m x]) (m + 1 + 1 + 1 + 1 + cntVS x.f3.f1) ?_ (by omega) (by omega) (by simp; omega) (fun y hy => h3 y (by simp [hy]))) ?_
  ·rw [hx', snoc_cons, show m + (cntR x : Int) = m + 1 + 1 + 1 + 1 + (cntVS x.f3.f1 : Int) from by omega]
  ·rw [cntRS_cons]
   omega
theorem heldRecordS_ev (xs : List S47) (m : Int) (h0 : 0 ≤ m) (h1 : m + cntRS xs ≤ 4611686018427387903) (h2 : xs.length ≤ 1048576) (h3 : ∀ x ∈ xs, x.f3.f1.length ≤ 4096) : Ev (fun k => z13.f k (mkR m xs) m) (m + cntRS xs) :=
 heldRecordS_l0 _ xs [] m rfl h0 h1 (by simp; omega) h3
set_option maxHeartbeats 2000000 in
set_option maxRecDepth 100000 in
theorem laws_FnExactReadLog.walk0 (A : Option Addr) (c : Nat) (b : List Int) (w : World) (hl : ¬ b.length ≤ 1048576) :
  Calls Try.prog 8 #[.slice A b.length c] w fun e w' => e = .returned (.bool true) ∧ Below w.heap.size w w' := by
 have hl' : decide (1048576 < (b.length : Int)) = true := decide_eq_true (by omega)
 go_enter Try.func8, Try.ntmps8
 go_wp2_with fail
 go_ret
 exact ⟨rfl, Below.refl _ _⟩
theorem laws_FnExactReadLog.true_ (A : Option Addr) (c : Nat) (b : List Int) (w : World) (hr : Kd.C (Kd.int .u8) w A b.length b) (hc : b.length ≤ c) (hwf : ∀ y ∈ b, (Lit.int .u8 y).wf = true) :
  Calls Try.prog 8 #[.slice A b.length c] w fun e w' => e = .returned (.bool true) ∧ Below w.heap.size w w' := by
 by_cases hl : b.length ≤ 1048576
 ·have hb : IsB b := fun y hy => by
   have h := hwf y hy
   simp [Lit.wf, IntKind.min, IntKind.max, IntKind.signed, IntKind.bits] at h
   omega
  have hok := run_ok b (b.length + 1) 0 [] (Nat.zero_le _) (Nat.zero_le _) (fun x hx => by simp at hx)
  have heq := run_eq b hl (b.length + 1) 0 [] (Nat.zero_le _)
  obtain ⟨⟨rs, p⟩, hz⟩ : ∃ z, runLog (oStep b) (b.length + 1) 0 [] = z := ⟨_, rfl⟩
  rw [hz] at hok heq
  obtain ⟨k1, k2, k3⟩ : p ≤ b.length ∧ rs.length ≤ p ∧ ∀ x ∈ rs, OkR x := hok
  have hcn := cntRS_le rs k3
  obtain ⟨K1, e1⟩ := toByteS_ev b hl
  obtain ⟨K4, e4⟩ := eqRecordS_ev rs (by omega) k3
  obtain ⟨K5, e5⟩ := eqByteS_ev b (by omega)
  obtain ⟨K6, e6⟩ := markByteS_ev b 1 (by omega) (by omega)
  obtain ⟨K8, e8⟩ := heldRecordS_ev rs 1 (by omega) (by omega) (by omega) (fun x hx => (k3 x hx).2.1)
  have hk : ∃ k, K1 ≤ k ∧ K4 ≤ k ∧ K5 ≤ k ∧ K6 ≤ k ∧ K8 ≤ k := ⟨K1 + K4 + K5 + K6 + K8, by omega, by omega, by omega, by omega, by omega⟩
  obtain ⟨k, b1, b4, b5, b6, b8⟩ := hk
  exact laws_FnExactReadLog.walk k A c b w hr hc hl rs p _ _ _ _ (e1 k b1) heq.symm hz (e4 k b4) (e5 k b5) (e6 k b6) ⟨⟨rfl, rfl⟩, by omega, by omega, fun x hx => by have := (k3 x hx).2.1; omega⟩ (e8 k b8) hb (by omega) (by omega)
 ·exact laws_FnExactReadLog.walk0 A c b w hl
end Go.Proofs.Ytndjodgcemgpfaa.Q
end
