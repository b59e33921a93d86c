/-
  TimerPlays: whatever the conf and the script are, the law's Go text returns true: value, smooth time and deviation are the reference's, bit by bit. No condition.
-/
import Derived.Test.YtpgaohmmjjgboaaPair
import Derived.Deep.LoopGhost
namespace Go.Proofs.Ytpgaohmmjjgboaa
open Go.RowKit Ieee Fl

theorem same_true {s s' : Nat} {st : Option Nat} (h : match st with | none => IsNan s ∧ IsNan s' | some p => s = p ∧ s' = p ∧ p < 2 ^ 64) (W : World) :
    Calls Try.prog 12 #[.float .f64 s, .float .f64 s'] W fun e w' => e = .returned (.bool true) ∧ w' = W := by
  cases st with
  | none => exact (same_nan s s' h.1.1 h.2.1 W).mono fun _ _ ⟨h1, h2⟩ => ⟨h1, h2.symm⟩
  | some p =>
    obtain ⟨rfl, rfl, hp⟩ := h
    exact (same_eq _ hp W).mono fun _ _ ⟨h1, h2⟩ => ⟨h1, h2.symm⟩

/-- both timers have the same numbers -/
theorem tk_same {w w2 : World} {b b2 ty ty2 L M L2 M2 st v v2} (h1 : Tk w b ty L M st v) (h2 : Tk w2 b2 ty2 L2 M2 st v2) (hst : OkS st) :
    ∃ s d s' d', Tm w b ty L M s d v ∧ Tm w2 b2 ty2 L2 M2 s' d' v2 ∧ (∀ W, Calls Try.prog 12 #[.float .f64 s, .float .f64 s'] W fun e w' => e = .returned (.bool true) ∧ w' = W) ∧
      (∀ W, Calls Try.prog 12 #[.float .f64 d, .float .f64 d'] W fun e w' => e = .returned (.bool true) ∧ w' = W) := by
  obtain ⟨s, d, hT, hk⟩ := h1
  obtain ⟨s', d', hT', hk'⟩ := h2
  refine ⟨s, d, s', d', hT, hT', ?_, ?_⟩
  · cases st with
    | none => exact same_true (st := none) ⟨hk.1, hk'.1⟩
    | some p =>
      have hi := INF_lt
      have := Bd_lt (hst p rfl).1
      exact same_true (st := some p.1) ⟨hk.1, hk'.1, by omega⟩
  · cases st with
    | none => exact same_true (st := none) ⟨hk.2, hk'.2⟩
    | some p =>
      have hi := INF_lt
      have := Bd_lt (hst p rfl).2
      exact same_true (st := some p.2) ⟨hk.2, hk'.2, by omega⟩

/-- the script's cells -/
def Script (w : World) (sb so len : Nat) (dos : Nat → Int) (ns : Nat → Nat) : Prop :=
  sb < w.heap.size ∧ ∀ k, k < len → w.cell? ⟨sb, so + k * 2, none⟩ = some (.int .i64 (dos k)) ∧ w.cell? ⟨sb, so + k * 2 + 1, none⟩ = some (.int .u64 (ns k : Int))

theorem Script.kept {w w' : World} {sb so len : Nat} {dos : Nat → Int} {ns : Nat → Nat} (h : Script w sb so len dos ns) (hg : w.grownBy w' none) : Script w' sb so len dos ns := by
  refine ⟨Nat.lt_of_lt_of_le h.1 hg.size, fun k hk => ?_⟩
  obtain ⟨h1, h2⟩ := h.2 k hk
  exact ⟨(World.cell?_of_block (hg.block sb h.1 (by simp))).trans h1, (World.cell?_of_block (hg.block sb h.1 (by simp))).trans h2⟩

/-- what holds of the world at a round's head -/
def PlayRel (w wr : World) (bt br : Nat) (L M : Int) : Prop :=
  ∃ st v, Tk wr bt 54 L M st v ∧ Tk wr br 38 L M st v ∧ OkS st ∧ L ≤ v ∧ v ≤ M ∧ w.grownBy wr none

def Done (w : World) (e : Ending) (w' : World) : Prop := e = .returned (.bool true) ∧ w.grownBy w' none

set_option maxHeartbeats 2000000 in
set_option maxRecDepth 100000 in
theorem plays_loop (a : Option Addr) (len cap : Nat) (L M : Int) (dos : Nat → Int) (ns : Nat → Nat) (w : World) (hlen : len ≤ 300) (hm : May L M)
    (ha : len = 0 ∨ ∃ sb so, a = some ⟨sb, so, none⟩ ∧ Script w sb so len dos ns) :
    Calls Try.prog 3 #[.agg #[.int .u64 L, .int .u64 M], .slice a len cap] w (Done w) := by
  have hM := hm
  obtain ⟨m1, m2, m3⟩ := hM
  go_enter Try.func3, Try.ntmps3
  go_wp2_with fail
  obtain ⟨p, hp⟩ : ∃ p, p = w.heap.size := ⟨_, rfl⟩
  rw [← hp]
  have hP : (w.alloc (.cells #[.int .u64 L, .int .u64 M] 24)).heap[p]? = some (.cells #[.int .u64 L, .int .u64 M] 24 (0, 0)) := by rw [hp]; exact box_at w _
  have hG : w.grownBy (w.alloc (.cells #[.int .u64 L, .int .u64 M] 24)) none := g_alloc (World.grownBy.refl _ _) _
  generalize w.alloc (.cells #[.int .u64 L, .int .u64 M] 24) = W1 at *
  clear hp
  refine (new_yes _ L M hm).mono ?_
  rintro e w2 ⟨bt, s, rfl, hbt, hs, hs2, hT, g2⟩
  have hP2 : w2.heap[p]? = some (.cells #[.int .u64 L, .int .u64 M] 24 (0, 0)) := (g2.block p (lt_of hP) (by simp)).trans hP
  have hG2 := g_trans hG g2
  have hTk : Tk w2 bt 54 L M none (clamp L M 1000) := ⟨s, s, hT, ⟨hs, hs2⟩, ⟨hs, hs2⟩⟩
  have hbt' : w.heap.size ≤ bt := Nat.le_trans hG.size hbt
  have hbt2 := lt_of hT.out
  have c0 := cell_of hP2 0 _ rfl
  have c1 := cell_of hP2 1 _ rfl
  clear hs hs2 hT hP hG g2 hbt
  go_wp2_with fail
  refine (rnew_yes _ L M hm).mono ?_
  rintro e w3 ⟨br, s', d', rfl, hbr, hs', hd', hR, g3⟩
  have hRk : Tk w3 br 38 L M none (clamp L M 1000) := ⟨s', d', hR, hs', hd'⟩
  have hTk3 := hTk.kept g3 (by simp)
  have hG3 := g_trans hG2 g3
  have hne : bt ≠ br := by omega
  have hbr' : w.heap.size ≤ br := Nat.le_trans hG2.size hbr
  have hv := clamp_le m2 1000
  clear c0 c1 hs' hd' hR hTk hG2 hP2 g3 hbr hbt2
  go_wp2_with fail
  go_loopw [8] (fun i wr => ∃ k : Nat, k ≤ len ∧ i = .int .i64 k ∧ PlayRel w wr bt br L M) (fun i _ => len - (intOf i).toNat)
  case atStart => exact ⟨0, Nat.zero_le _, rfl, none, _, hTk3, hRk, (fun _ h => by cases h), hv.1, hv.2, hG3⟩
  case round =>
    obtain ⟨k, hk, rfl, st, v, hA, hB, hst, hv1, hv2, hg⟩ := hrel
    clear hTk3 hRk hG3 hv
    obtain ⟨s, d, s', d', hT, hR, hsame1, hsame2⟩ := tk_same hA hB hst
    have S1 := Lib.hid hsame1
    have S2 := Lib.hid hsame2
    clear hsame1 hsame2
    have hval : ∀ W, Tm W bt 54 L M s d v → Calls Try.prog 11 #[.pointer (some ⟨bt, 0, none⟩)] W fun e w' => e = .returned (.int .u64 v) ∧ w' = W := fun W h => (value_any W bt L M s d v h).mono fun _ _ ⟨h1, h2⟩ => ⟨h1, h2.symm⟩
    have HV := Lib.hid hval
    clear hval
    go_wp2_with fail
    refine (smooth_any _ _ _ _ _ _ _ hT).mono ?_
    rintro e w' ⟨rfl, n1, rfl⟩
    have hT2 : Tm (wr.drewN n1) bt 54 L M s d v := hT.drewN _
    have hR2 : Tm (wr.drewN n1) br 38 L M s' d' v := hR.drewN _
    have hA2 : Tk (wr.drewN n1) bt 54 L M st v := hA.drewN _
    have hB2 : Tk (wr.drewN n1) br 38 L M st v := hB.drewN _
    have hg2 : w.grownBy (wr.drewN n1) none := g_drewN hg _
    clear hT hR hA hB hg
    generalize wr.drewN n1 = W2 at *
    have c2 := cell_of hR2 2 _ rfl
    have c3 := cell_of hR2 3 _ rfl
    have c4 := cell_of hR2 4 _ rfl
    go_wp2_with fail
    go_quiet ((first | (go_at_call 11; exact Calls.quiet_of_same (HV.out _ hT2)) | (go_at_call 12; first | (with_reducible exact Calls.quiet_of_same (S1.out _)) | (with_reducible exact Calls.quiet_of_same (S2.out _)))))
    have hA3 : Tk (W2.drewN nq) bt 54 L M st v := hA2.drewN _
    have hB3 : Tk (W2.drewN nq) br 38 L M st v := hB2.drewN _
    have hg3 : w.grownBy (W2.drewN nq) none := g_drewN hg2 _
    clear hT2 hR2 hA2 hB2 hg2 c2 c3 c4
    generalize W2.drewN nq = W3 at *
    by_cases hkl : k < len
    · have e1 : ((k : Int) == (len : Int)) = false := by rw [beq_eq_false_iff_ne]; omega
      rcases ha with h0 | ⟨sb, so, ha, hsc⟩
      · omega
      subst ha
      obtain ⟨q1, q2⟩ := (hsc.kept hg3).2 k hkl
      have hsl := (hsc.kept hg3).1
      generalize hdo : dos k = dk at *
      generalize hnk : ns k = nk at *
      by_cases hd0 : dk = 0
      · subst hd0
        go_wp2_with fail
        refine (sample_tk W3 bt L M st v nk hA3 hst).mono ?_
        rintro e w4 ⟨rfl, hA4, g4⟩
        have hB4 := hB3.kept g4 (by intro h; injection h; omega)
        have hg4 := g_new hg3 g4 hbt'
        have hne2 : sb ≠ bt := by have := hsc.1; omega
        have q3 : w4.cell? ⟨sb, so + k * 2 + 1, none⟩ = some (.int .u64 (nk : Int)) := g4.cell q2 (fun h => hne2 (Option.some.inj h))
        clear q1 q2 hg3 hB3 hA3 hne2
        go_wp2_with fail
        refine (rsample_tk w4 br L M st v nk hB4 hst).mono ?_
        rintro e w5 ⟨rfl, hB5, g5⟩
        have hA5 := hA4.kept g5 (by intro h; injection h; omega)
        have hg5 := g_new hg4 g5 hbr'
        have hst5 := OkS_smp hst nk
        have hv5 := smpV_bd m2 ⟨hv1, hv2⟩ (st := st) nk
        clear q3 hg4 hB4 hA4 g4 g5
        go_wp2_with fail
        go_roundw
        case rel => exact ⟨k + 1, by omega, by go_num, _, _, hA5, hB5, hst5, hv5.1, hv5.2, hg5⟩
        case measure => simp [intOf]; omega
      · have e2 : (dk == 0) = false := by simpa using hd0
        go_wp2_with fail
        refine (backoff_tk W3 bt L M st v hA3 (by omega) (by omega)).mono ?_
        rintro e w4 ⟨rfl, hA4, g4⟩
        have hB4 := hB3.kept g4 (by intro h; injection h; omega)
        have hg4 := g_new hg3 g4 hbt'
        clear q1 q2 hg3 hB3 hA3
        go_wp2_with fail
        refine (rbackoff_tk w4 br L M st v hB4 m1 hv1 (by omega)).mono ?_
        rintro e w5 ⟨rfl, hB5, g5⟩
        have hA5 := hA4.kept g5 (by intro h; injection h; omega)
        have hg5 := g_new hg4 g5 hbr'
        have hv5 := clamp_le m2 (2 * v)
        clear hg4 hB4 hA4 g4 g5
        go_wp2_with fail
        go_roundw
        case rel => exact ⟨k + 1, by omega, by go_num, _, _, hA5, hB5, hst, hv5.1, hv5.2, hg5⟩
        case measure => simp [intOf]; omega
    · have hkl' : k = len := by omega
      subst hkl'
      go_wp2_with fail
      refine (works_any _).mono ?_
      rintro e w6 ⟨rfl, g6⟩
      go_wp2_with fail
      go_ret
      exact ⟨rfl, g_trans hg3 g6⟩

/-- a script that is too long: the small known run alone -/
theorem plays_long (a : Option Addr) (len cap : Nat) (L M : Int) (w : World) (hlen : 300 < len) :
    Calls Try.prog 3 #[.agg #[.int .u64 L, .int .u64 M], .slice a len cap] w (Done w) := by
  go_enter Try.func3, Try.ntmps3
  go_wp2_with fail
  refine (works_any _).mono ?_
  rintro e w6 ⟨rfl, g6⟩
  go_wp2_with fail
  go_ret
  exact ⟨rfl, g_trans (g_alloc (World.grownBy.refl _ _) _) g6⟩

/-- a conf that may not be -/
theorem plays_no (a : Option Addr) (len cap : Nat) (L M : Int) (w : World) (hlen : len ≤ 300) (hm : ¬ May L M) :
    Calls Try.prog 3 #[.agg #[.int .u64 L, .int .u64 M], .slice a len cap] w (Done w) := by
  go_enter Try.func3, Try.ntmps3
  go_wp2_with fail
  obtain ⟨p, hp⟩ : ∃ p, p = w.heap.size := ⟨_, rfl⟩
  rw [← hp]
  have hP : (w.alloc (.cells #[.int .u64 L, .int .u64 M] 24)).heap[p]? = some (.cells #[.int .u64 L, .int .u64 M] 24 (0, 0)) := by rw [hp]; exact box_at w _
  have hG : w.grownBy (w.alloc (.cells #[.int .u64 L, .int .u64 M] 24)) none := g_alloc (World.grownBy.refl _ _) _
  generalize w.alloc (.cells #[.int .u64 L, .int .u64 M] 24) = W1 at *
  clear hp
  refine (new_no _ L M hm).mono ?_
  rintro e w2 ⟨rfl, g2⟩
  have hP2 : w2.heap[p]? = some (.cells #[.int .u64 L, .int .u64 M] 24 (0, 0)) := (g2.block p (lt_of hP) (by simp)).trans hP
  have hG2 := g_trans hG g2
  have c0 := cell_of hP2 0 _ rfl
  have c1 := cell_of hP2 1 _ rfl
  clear hP hG g2
  go_wp2_with fail
  refine (rnew_no _ L M hm).mono ?_
  rintro e w3 ⟨rfl, g3⟩
  have hG3 := g_trans hG2 g3
  clear c0 c1 hG2 g3
  go_wp2_with fail
  refine (works_any _).mono ?_
  rintro e w6 ⟨rfl, g6⟩
  go_wp2_with fail
  go_ret
  exact ⟨rfl, g_trans hG3 g6⟩

theorem plays_any (a : Option Addr) (len cap : Nat) (L M : Int) (dos : Nat → Int) (ns : Nat → Nat) (w : World)
    (ha : len = 0 ∨ ∃ sb so, a = some ⟨sb, so, none⟩ ∧ Script w sb so len dos ns) :
    Calls Try.prog 3 #[.agg #[.int .u64 L, .int .u64 M], .slice a len cap] w (Done w) := by
  by_cases hlen : len ≤ 300
  · by_cases hm : May L M
    · exact plays_loop a len cap L M dos ns w hlen hm ha
    · exact plays_no a len cap L M w hlen hm
  · exact plays_long a len cap L M w (by omega)

end Go.Proofs.Ytpgaohmmjjgboaa
