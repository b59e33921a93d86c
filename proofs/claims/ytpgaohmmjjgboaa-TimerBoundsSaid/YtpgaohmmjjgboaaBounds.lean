/-
  The walk of TimerBounds: a timer's value lies within its bounds whatever the script is; samples that are alike bring it to them; a pause is long enough.
-/
import Derived.Test.YtpgaohmmjjgboaaPlays
import Derived.Test.YtpgaohmmjjgboaaLong
namespace Go.Proofs.Ytpgaohmmjjgboaa
open Go.RowKit Ieee Fl

/-- what holds of the world at the first loop's head -/
def BRel (w wr : World) (pc bt : Nat) (L M : Int) : Prop :=
  ∃ st v, Tk wr bt 54 L M st v ∧ OkS st ∧ L ≤ v ∧ v ≤ M ∧ w.grownBy wr none ∧ wr.heap[pc]? = some (.cells #[.int .u64 L, .int .u64 M] 24 (0, 0))
/-- at the second's -/
def CRel (w wr : World) (pc bt : Nat) (L M : Int) (n j : Nat) : Prop :=
  ∃ st v, Tk wr bt 54 L M st v ∧ OkS st ∧ L ≤ v ∧ v ≤ M ∧ w.grownBy wr none ∧ wr.heap[pc]? = some (.cells #[.int .u64 L, .int .u64 M] 24 (0, 0)) ∧ Near n j st ∧
    (1 ≤ j → ∃ p, st = some p ∧ v = clamp L M ((RV (valR p.1 p.2) / ONE : Nat) : Int))

theorem near_none {n j : Nat} {st : Option (Nat × Nat)} (h : Near n j st) : st = none → j = 0 := by
  intro h0
  rcases Nat.eq_zero_or_pos j with h1 | h1
  · exact h1
  · exact absurd h0 (h.2 h1)

theorem crel_step {w w' : World} {pc bt : Nat} {L M : Int} {n j : Nat} {st : Option (Nat × Nat)} {v : Int} (hT : Tk w' bt 54 L M (smp st n) (smpV L M st v n)) (hst : OkS st) (hLM : L ≤ M) (hv : L ≤ v ∧ v ≤ M)
    (hg : w.grownBy w' none) (hc : w'.heap[pc]? = some (.cells #[.int .u64 L, .int .u64 M] 24 (0, 0))) (hn : n ≤ 65535) (h : Near n j st) : CRel w w' pc bt L M n (j + 1) := by
  have hs := near_step n j h hn (near_none h)
  have hv' := smpV_bd hLM hv (st := st) n
  refine ⟨_, _, hT, OkS_smp hst n, hv'.1, hv'.2, hg, hc, hs, fun _ => ?_⟩
  have hne := hs.2 (by omega)
  unfold smpV
  rw [if_neg (by omega)]
  cases he : smp st n with
  | none => exact absurd he hne
  | some p => exact ⟨p, rfl, rfl⟩

/-- the value behind the 400 samples -/
theorem crel_end {w wr : World} {pc bt : Nat} {L M : Int} {n : Nat} (h : CRel w wr pc bt L M n 400) (hn : n ≤ 65535) :
    ∃ s d v, Tm wr bt 54 L M s d v ∧ w.grownBy wr none ∧ wr.heap[pc]? = some (.cells #[.int .u64 L, .int .u64 M] 24 (0, 0)) ∧ L ≤ v ∧ v ≤ M ∧ min (max (n : Int) L) M ≤ v ∧ v ≤ min (max ((n : Int) + 3) L) M := by
  obtain ⟨st, v, ⟨s, d, hT, _⟩, _, h1, h2, hg, hc, hnear, hv⟩ := h
  obtain ⟨p, rfl, rfl⟩ := hv (by omega)
  obtain ⟨e1, e2⟩ := near_value n hnear hn
  refine ⟨s, d, _, hT, hg, hc, h1, h2, ?_, ?_⟩
  · generalize RV (valR p.1 p.2) / ONE = z at *
    unfold clamp; omega
  · generalize RV (valR p.1 p.2) / ONE = z at *
    unfold clamp; omega

theorem bounds_long (ll mm : Int) (a : Option Addr) (len cap : Nat) (n bytes : Int) (rate : Nat) (w : World) (hlen : 300 < len) :
    Calls Try.prog 5 #[.int .u16 ll, .int .u16 mm, .slice a len cap, .int .u16 n, .int .u32 bytes, .float .f64 rate] w (Done w) := by
  go_enter Try.func5, Try.ntmps5
  go_wp2_with fail
  refine (works_any _).mono ?_
  rintro e w6 ⟨rfl, g6⟩
  go_wp2_with fail
  go_ret
  exact ⟨rfl, g6⟩

set_option maxHeartbeats 4000000 in
set_option maxRecDepth 100000 in
theorem bounds_loop (ll mm : Nat) (a : Option Addr) (len cap : Nat) (n bytes rate : Nat) (dos : Nat → Int) (ns : Nat → Nat) (w : World) (hlen : len ≤ 300) (hll : ll ≤ 65535) (hmm : mm ≤ 65535) (hn : n ≤ 65535) (hby : bytes < 4294967296) (hra : rate < 2 ^ 64)
    (ha : len = 0 ∨ ∃ sb so, a = some ⟨sb, so, none⟩ ∧ Script w sb so len dos ns) :
    Calls Try.prog 5 #[.int .u16 (ll : Int), .int .u16 (mm : Int), .slice a len cap, .int .u16 (n : Int), .int .u32 (bytes : Int), .float .f64 rate] w (Done w) := by
  go_enter Try.func5, Try.ntmps5
  go_wp2_with fail
  obtain ⟨p, hp⟩ : ∃ p, p = w.heap.size := ⟨_, rfl⟩
  rw [← hp]
  generalize hL : (ll : Int) + 1 = L
  generalize hM : (ll : Int) + (mm : Int) + 1 = M
  have hm : May L M := ⟨by omega, by omega, by omega⟩
  have m1 : 1 ≤ L := by omega
  have m2 : L ≤ M := by omega
  have m3 : M ≤ 131072 := by omega
  have hP : (w.alloc (.cells #[.int .u64 L, .int .u64 M] 24)).heap[p]? = some (.cells #[.int .u64 L, .int .u64 M] 24 (0, 0)) := by rw [hp]; exact box_at w _
  have hG : w.grownBy (w.alloc (.cells #[.int .u64 L, .int .u64 M] 24)) none := g_alloc (World.grownBy.refl _ _) _
  have hpw : w.heap.size ≤ p := by omega
  generalize w.alloc (.cells #[.int .u64 L, .int .u64 M] 24) = W1 at *
  clear hp hL hM
  refine (new_yes _ L M hm).mono ?_
  rintro e w2 ⟨bt, s, rfl, hbt, hs, hs2, hT, g2⟩
  have hP2 : w2.heap[p]? = some (.cells #[.int .u64 L, .int .u64 M] 24 (0, 0)) := (g2.block p (lt_of hP) (by simp)).trans hP
  have hG2 := g_trans hG g2
  have hTk : Tk w2 bt 54 L M none (clamp L M 1000) := ⟨s, s, hT, ⟨hs, hs2⟩, ⟨hs, hs2⟩⟩
  have hbt' : w.heap.size ≤ bt := Nat.le_trans hG.size hbt
  have hpne : p ≠ bt := by have := lt_of hP; omega
  have hv := clamp_le m2 1000
  clear hs hs2 hT hP hG g2 hbt hm
  go_wp2_with fail
  go_loopw [16] (fun i wr => ∃ k : Nat, k ≤ len ∧ i = .int .i64 k ∧ BRel w wr p bt L M) (fun i _ => len - (intOf i).toNat)
  case atStart => exact ⟨0, Nat.zero_le _, rfl, none, _, hTk, (fun _ h => by cases h), hv.1, hv.2, hG2, hP2⟩
  case round =>
    obtain ⟨k, hk, rfl, st, v, hA, hst, hv1, hv2, hg, hP3⟩ := hrel
    clear hTk hG2 hP2 hv
    by_cases hkl : k < len
    · rcases ha with h0 | ⟨sb, so, ha, hsc⟩
      · omega
      subst ha
      obtain ⟨q1, q2⟩ := (hsc.kept hg).2 k hkl
      generalize hdo : dos k = dk at *
      generalize hnk : ns k = nk at *
      by_cases hd0 : dk = 0
      · subst hd0
        go_wp2_with fail
        refine (sample_tk wr bt L M st v nk hA hst).mono ?_
        rintro e w4 ⟨rfl, hA4, g4⟩
        have hg4 := g_new hg g4 hbt'
        have hP4 : w4.heap[p]? = some (.cells #[.int .u64 L, .int .u64 M] 24 (0, 0)) := (g4.block p (lt_of hP3) (fun h => hpne (Option.some.inj h))).trans hP3
        have hst4 := OkS_smp hst nk
        have hv4 := smpV_bd m2 ⟨hv1, hv2⟩ (st := st) nk
        generalize smp st nk = st4 at *
        generalize smpV L M st v nk = v4 at *
        obtain ⟨v41, v42⟩ := hv4
        clear q1 q2 hg hA hP3 hst hv1 hv2 g4
        obtain ⟨s4, d4, hT4, hk4⟩ := hA4
        have hval : ∀ W, Tm W bt 54 L M s4 d4 v4 → Calls Try.prog 11 #[.pointer (some ⟨bt, 0, none⟩)] W fun e w' => e = .returned (.int .u64 v4) ∧ w' = W := fun W h => (value_any W bt L M s4 d4 v4 h).mono fun _ _ ⟨h1, h2⟩ => ⟨h1, h2.symm⟩
        have HV := Lib.hid hval
        have HK := Lib.hid hk4
        clear hval hk4
        have c0 := cell_of hP4 0 _ rfl
        have c1 := cell_of hP4 1 _ rfl
        have t1 : decide (v4 < L) = false := by simp; omega
        go_wp2_with fail
        go_quiet ((go_at_call 11; exact Calls.quiet_of_same (HV.out _ hT4)))
        go_wp2_with fail
        go_roundw
        case rel => exact ⟨k + 1, by omega, by go_num, st4, v4, ⟨s4, d4, hT4.drewN _, HK.out⟩, hst4, v41, v42, g_drewN hg4 _, hP4⟩
        case measure => simp [intOf]; omega
      · have e2 : (dk == 0) = false := by simpa using hd0
        obtain ⟨s, d, hT, hk4⟩ := hA
        have HK := Lib.hid hk4
        clear hk4
        go_wp2_with fail
        refine (value_any wr bt L M s d v hT).mono ?_
        rintro e w' ⟨rfl, rfl⟩
        go_wp2_with fail
        refine (backoff_any wr bt L M s d v hT (by omega) (by omega)).mono ?_
        rintro e w4 ⟨rfl, hT4, g4⟩
        have hg4 := g_new hg g4 hbt'
        have hP4 : w4.heap[p]? = some (.cells #[.int .u64 L, .int .u64 M] 24 (0, 0)) := (g4.block p (lt_of hP3) (fun h => hpne (Option.some.inj h))).trans hP3
        have hv4 := clamp_le m2 (2 * v)
        have hcl : clamp L M (2 * v) = min (2 * v) M := by unfold clamp; omega
        clear q1 q2 hg hP3 g4 hT
        have c0 := cell_of hP4 0 _ rfl
        have c1 := cell_of hP4 1 _ rfl
        rw [hcl] at hT4 hv4
        clear hcl
        by_cases hmv : M < 2 * v
        · have hmin : min (2 * v) M = M := by omega
          rw [hmin] at hT4 hv4
          clear hmin
          have hval : ∀ W, Tm W bt 54 L M s d M → Calls Try.prog 11 #[.pointer (some ⟨bt, 0, none⟩)] W fun e w' => e = .returned (.int .u64 M) ∧ w' = W := fun W h => (value_any W bt L M s d M h).mono fun _ _ ⟨h1, h2⟩ => ⟨h1, h2.symm⟩
          have HV := Lib.hid hval
          clear hval
          go_wp2_with fail
          go_quiet ((go_at_call 11; exact Calls.quiet_of_same (HV.out _ hT4)))
          have hT5 : Tm (w4.drewN nq) bt 54 L M s d M := hT4.drewN _
          have hP5 : (w4.drewN nq).heap[p]? = some (.cells #[.int .u64 L, .int .u64 M] 24 (0, 0)) := hP4
          have hg5 : w.grownBy (w4.drewN nq) none := g_drewN hg4 _
          clear c0 c1 hT4 hP4 hg4
          generalize w4.drewN nq = w5 at *
          have c0 := cell_of hP5 0 _ rfl
          have c1 := cell_of hP5 1 _ rfl
          have t1 : decide (M < L) = false := by simp; omega
          go_wp2_with fail
          go_quiet ((go_at_call 11; exact Calls.quiet_of_same (HV.out _ hT5)))
          go_wp2_with fail
          go_roundw
          case rel => exact ⟨k + 1, by omega, by go_num, st, _, ⟨s, d, hT5.drewN _, HK.out⟩, hst, hv4.1, hv4.2, g_drewN hg5 _, hP5⟩
          case measure => simp [intOf]; omega
        · have hmin : min (2 * v) M = 2 * v := by omega
          rw [hmin] at hT4 hv4
          clear hmin
          have hval : ∀ W, Tm W bt 54 L M s d (2 * v) → Calls Try.prog 11 #[.pointer (some ⟨bt, 0, none⟩)] W fun e w' => e = .returned (.int .u64 (2 * v)) ∧ w' = W := fun W h => (value_any W bt L M s d (2 * v) h).mono fun _ _ ⟨h1, h2⟩ => ⟨h1, h2.symm⟩
          have HV := Lib.hid hval
          clear hval
          go_wp2_with fail
          go_quiet ((go_at_call 11; exact Calls.quiet_of_same (HV.out _ hT4)))
          have hT5 : Tm (w4.drewN nq) bt 54 L M s d (2 * v) := hT4.drewN _
          have hP5 : (w4.drewN nq).heap[p]? = some (.cells #[.int .u64 L, .int .u64 M] 24 (0, 0)) := hP4
          have hg5 : w.grownBy (w4.drewN nq) none := g_drewN hg4 _
          clear c0 c1 hT4 hP4 hg4
          generalize w4.drewN nq = w5 at *
          have c0 := cell_of hP5 0 _ rfl
          have c1 := cell_of hP5 1 _ rfl
          have t1 : decide ((2 * v) < L) = false := by simp; omega
          go_wp2_with fail
          go_quiet ((go_at_call 11; exact Calls.quiet_of_same (HV.out _ hT5)))
          go_wp2_with fail
          go_roundw
          case rel => exact ⟨k + 1, by omega, by go_num, st, _, ⟨s, d, hT5.drewN _, HK.out⟩, hst, hv4.1, hv4.2, g_drewN hg5 _, hP5⟩
          case measure => simp [intOf]; omega
    · have hkl' : k = len := by omega
      clear ha hk
      subst hkl'
      go_wp2_with fail
      obtain ⟨wo, hwo⟩ : ∃ wo : World, wo = wr := ⟨_, rfl⟩
      subst hwo
      go_loopw [18] (fun i wr => ∃ j : Nat, j ≤ 400 ∧ i = .int .i64 j ∧ CRel w wr p bt L M n j) (fun i _ => 400 - (intOf i).toNat)
      case atStart => exact ⟨0, by omega, rfl, st, v, hA, hst, hv1, hv2, hg, hP3, near_start n hst hn, fun h => absurd h (by omega)⟩
      case round =>
        obtain ⟨j, hj, rfl, hC⟩ := hrel
        clear hA hg hP3 hst hv1 hv2
        by_cases hj4 : j < 400
        · obtain ⟨st, v, hA, hst, hv1, hv2, hg, hP3, hnear, _⟩ := hC
          go_wp2_with fail
          refine (sample_tk wr bt L M st v n hA hst).mono ?_
          rintro e w4 ⟨rfl, hA4, g4⟩
          have hg4 := g_new hg g4 hbt'
          have hP4 : w4.heap[p]? = some (.cells #[.int .u64 L, .int .u64 M] 24 (0, 0)) := (g4.block p (lt_of hP3) (fun h => hpne (Option.some.inj h))).trans hP3
          have hC4 := crel_step hA4 hst m2 ⟨hv1, hv2⟩ hg4 hP4 hn hnear
          clear hA4 hg4 hP4 hA hst hg hP3 hnear g4
          go_wp2_with fail
          go_roundw
          case rel => exact ⟨j + 1, by omega, by go_num, hC4⟩
          case measure => simp [intOf]; omega
        · have hj5 : j = 400 := by omega
          subst hj5
          obtain ⟨s, d, v, hT, hg, hP3, hv1, hv2, hv3, hv4⟩ := crel_end hC hn
          clear hC hj hj4
          have c0 := cell_of hP3 0 _ rfl
          have c1 := cell_of hP3 1 _ rfl
          have hval : ∀ W, Tm W bt 54 L M s d v → Calls Try.prog 11 #[.pointer (some ⟨bt, 0, none⟩)] W fun e w' => e = .returned (.int .u64 v) ∧ w' = W := fun W h => (value_any W bt L M s d v h).mono fun _ _ ⟨h1, h2⟩ => ⟨h1, h2.symm⟩
          have HV := Lib.hid hval
          clear hval
          have cases6 : ((n : Int) + 3 < L ∧ decide (v < L) = false ∧ decide (L < v) = false) ∨ ((n : Int) < L ∧ L ≤ (n : Int) + 3 ∧ M < (n : Int) + 3 ∧ decide (v < L) = false ∧ decide (M < v) = false) ∨ ((n : Int) < L ∧ L ≤ (n : Int) + 3 ∧ (n : Int) + 3 ≤ M ∧ decide (v < L) = false ∧ decide (((n : Int) + 3) < v) = false) ∨ (L ≤ (n : Int) ∧ M < (n : Int) ∧ decide (v < M) = false ∧ decide (M < v) = false) ∨ (L ≤ (n : Int) ∧ (n : Int) ≤ M ∧ M < (n : Int) + 3 ∧ decide (v < (n : Int)) = false ∧ decide (M < v) = false) ∨ (L ≤ (n : Int) ∧ (n : Int) + 3 ≤ M ∧ decide (v < (n : Int)) = false ∧ decide (((n : Int) + 3) < v) = false) := by
            simp only [decide_eq_false_iff_not, Int.not_lt]
            omega
          clear hv3 hv4
          rcases cases6 with ⟨h1, t1, t2⟩ | ⟨h1, h2, h3, t1, t2⟩ | ⟨h1, h2, h3, t1, t2⟩ | ⟨h1, h2, t1, t2⟩ | ⟨h1, h2, h3, t1, t2⟩ | ⟨h1, h2, t1, t2⟩
          all_goals
            go_wp2_with fail
            go_quiet ((go_at_call 11; exact Calls.quiet_of_same (HV.out _ hT)))
            have hg5 : w.grownBy (wr.drewN nq) none := g_drewN hg _
            clear c0 c1 hT hP3 hg
            generalize wr.drewN nq = w5 at *
            go_wp2_with fail
            refine (pause_any (bytes : Int) rate _ (by omega) (by omega) hra).mono ?_
            rintro e w' ⟨rfl, rfl⟩
            have hpo := pause_ok bytes rate hby hra
            generalize pauseN bytes rate = pp at *
            obtain ⟨p0, p1, hpo⟩ := hpo
            rcases hpo with u | u | u | ⟨u, hp⟩ | ⟨u, hp, y, hy, ⟨x, hx, hxy⟩ | ⟨hx, hy2⟩⟩
            · go_wp2_with fail
              refine (works_any _).mono ?_
              rintro e w6 ⟨rfl, g6⟩
              go_wp2_with fail
              go_ret
              exact ⟨rfl, g_trans hg5 g6⟩
            · go_wp2_with fail
              refine (works_any _).mono ?_
              rintro e w6 ⟨rfl, g6⟩
              go_wp2_with fail
              go_ret
              exact ⟨rfl, g_trans hg5 g6⟩
            · go_wp2_with fail
              refine (works_any _).mono ?_
              rintro e w6 ⟨rfl, g6⟩
              go_wp2_with fail
              go_ret
              exact ⟨rfl, g_trans hg5 g6⟩
            · subst hp
              go_wp2_with fail
              refine (works_any _).mono ?_
              rintro e w6 ⟨rfl, g6⟩
              go_wp2_with fail
              go_ret
              exact ⟨rfl, g_trans hg5 g6⟩
            · have e1 := fun W => run_float_arith (P := Try.prog) W .mul 33 .f64 _ _ _ hy
              have e2 := fun W => run_float_arith (P := Try.prog) W .mul 33 .f64 _ _ _ hx
              unfold C999 at e1
              clear hx hy
              rcases hxy with hxy | hxy
              all_goals
                go_wp2_with fail
                refine (works_any _).mono ?_
                rintro e w6 ⟨rfl, g6⟩
                go_wp2_with fail
                go_ret
                exact ⟨rfl, g_trans hg5 g6⟩
            · have e1 := fun W => run_float_arith (P := Try.prog) W .mul 33 .f64 _ _ _ hy
              unfold C999 at e1
              obtain ⟨f, hf⟩ := run_nan .mul (.inr (.inr (.inl rfl))) 33 _ _ hx
              have e2 := fun W => (hf W).2.2
              have hxy : ∀ W, FloatKind.f64.format.order (f W) y = none := fun W => nan_order (hf W).1 (hf W).2.1
              clear hx hy hf
              go_wp2_with fail
              refine (works_any _).mono ?_
              rintro e w6 ⟨rfl, g6⟩
              go_wp2_with fail
              go_ret
              exact ⟨rfl, g_trans (g_drew hg5) g6⟩

theorem bounds_any (ll mm : Nat) (a : Option Addr) (len cap : Nat) (n bytes rate : Nat) (dos : Nat → Int) (ns : Nat → Nat) (w : World) (hll : ll ≤ 65535) (hmm : mm ≤ 65535) (hn : n ≤ 65535) (hby : bytes < 4294967296) (hra : rate < 2 ^ 64)
    (ha : len = 0 ∨ ∃ sb so, a = some ⟨sb, so, none⟩ ∧ Script w sb so len dos ns) :
    Calls Try.prog 5 #[.int .u16 (ll : Int), .int .u16 (mm : Int), .slice a len cap, .int .u16 (n : Int), .int .u32 (bytes : Int), .float .f64 rate] w (Done w) := by
  by_cases hlen : len ≤ 300
  · exact bounds_loop ll mm a len cap n bytes rate dos ns w hlen hll hmm hn hby hra ha
  · exact bounds_long ll mm a len cap n bytes rate w (by omega)

end Go.Proofs.Ytpgaohmmjjgboaa
