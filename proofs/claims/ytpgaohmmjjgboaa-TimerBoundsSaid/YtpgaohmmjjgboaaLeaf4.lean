/-
  The walks of Ceil and Pause, of the program and of the reference.
-/
import Derived.Test.YtpgaohmmjjgboaaLeaf3
namespace Go.Proofs.Ytpgaohmmjjgboaa
open Go.RowKit Ieee Fl

/- CEIL -/
theorem ceil_entry (x : Nat) (d : Datum) (hd : FloatKind.f64.decode x = d) (hn : (∃ s m p, d = .number s m p) ∨ ∃ s, d = .infinity s) :
    Extern.MathFloor.toIntegral "math.archCeil" .up #[.float .f64 x] = pure (.float .f64 (FloatKind.f64.encode (d.integral .up))) := by
  have h0 : Extern.MathFloor.toIntegral "math.archCeil" .up #[.float .f64 x] = (match FloatKind.f64.decode x with
    | .nan s t =>
      if FloatKind.f64.format.quiet t = t then pure (.float .f64 x) else do
      let kept ← choose (.extern "math.Floor,Ceil,Trunc,RoundToEven.signallingNaN kept" 2)
      pure (.float .f64 (if kept == 1 then x else FloatKind.f64.encode (.nan s (FloatKind.f64.format.quiet t))))
    | d => pure (.float .f64 (FloatKind.f64.encode (d.integral .up)))) := rfl
  rw [h0, hd]
  rcases hn with ⟨s, m, p, rfl⟩ | ⟨s, rfl⟩ <;> rfl

theorem run_ceil (k : Nat) (hk : k ≤ INF) (w : World) : (callFunc 34 #[.float .f64 (wd false k)]).run Try.prog w = .ok (.value (.float .f64 (wd false (ceilW k)))) w := by
  have h := run_callFunc_extern (e := Extern.MathFloor.toIntegral "math.archCeil" .up) Try.func34 (by kernel_rfl) (by kernel_rfl) (by kernel_rfl) (by kernel_rfl) #[.float .f64 (wd false k)] w
  rw [h]
  rcases Nat.lt_or_eq_of_le hk with h1 | h1
  · rw [ceil_entry _ _ (read_wd false h1) (.inl ⟨_, _, _, rfl⟩)]
    have he : FloatKind.f64.encode ((Datum.number false (sig k) (plc k)).integral .up) = wd false (ceilW k) := by
      simp only [Datum.integral, whole_up]
      show double.write _ = _
      rw [write_num]
      unfold ceilW
      rw [if_pos h1]; rfl
    rw [he]; simp
  · subst h1
    rw [ceil_entry _ _ (read_inf false) (.inr ⟨_, rfl⟩)]
    have he : FloatKind.f64.encode ((Datum.infinity false).integral .up) = wd false (ceilW INF) := by
      show double.write _ = _
      unfold ceilW
      rw [if_neg (by omega)]
      show double.word false double.infRung = _
      rw [inf_eq]; rfl
    rw [he]; simp

theorem ceil_any (k : Nat) (hk : k ≤ INF) (w : World) : Calls Try.prog 30 #[.float .f64 (wd false k)] w fun e w' => e = .returned (.float .f64 (wd false (ceilW k))) ∧ w = w' := by
  have h1 := run_ceil k hk
  generalize hx : wd false k = x at *
  generalize hy : wd false (ceilW k) = y at *
  clear hx hy hk
  go_enter Try.func30, Try.ntmps30
  go_wp2
  go_ret
  exact ⟨rfl, rfl⟩

/- PAUSE -/
/-- a pause: whatever the bytes and the rate are -/
def pauseN (n : Int) (r : Nat) : Int :=
  if nanB r = true ∨ n = 0 ∨ gtB r 9218868437227405311 = true then 0
  else if ge0 r = false ∨ eqB r 0 = true then 4294967296
  else match double.div (floatOfInt .f64 n) r with
    | some k => (pz k : Int)
    | none => 0

theorem RV_rep2 (e m : Nat) (h : m ≤ 2 ^ 53) : ∃ k, RV k = m * two e := RV_rep e m h
theorem two64_INF : 1 * two 1138 < RV INF := by decide +kernel
theorem ofN_lt64 {n : Nat} (h : n ≤ 18446744073709551616) : ofN n < INF := by
  obtain ⟨k, hk⟩ := RV_rep2 1138 1 (by omega)
  have h1 : ofN n ≤ k := by
    refine ofN_le ?_
    have e : two 1138 = 18446744073709551616 * ONE := by decide +kernel
    rw [hk, Nat.one_mul, e]
    exact Nat.mul_le_mul_right _ h
  have h2 : k < INF := RV_lt_iff.1 (by rw [hk]; exact two64_INF)
  omega

/-- a rate above nought, not without end: a rung -/
theorem rate_form {r : Nat} (hr : r < 2 ^ 64) (h1 : nanB r = false) (h2 : gtB r 9218868437227405311 = false) (h3 : ge0 r = true) (h4 : eqB r 0 = false) : r < INF ∧ r ≠ 0 := by
  obtain ⟨s, k, hk, rfl⟩ := wd_cases hr
  rw [nanB_wd s hk] at h1
  have h1' : ¬ INF < k := by simpa using h1
  rcases Nat.lt_or_ge k INF with h | h
  · cases s
    · refine ⟨h, ?_⟩
      intro e
      rw [e] at h4
      revert h4; decide
    · exfalso
      have hc := ge0_cases h3
      have h0 := order_wd true false h (show 0 < INF by decide)
      have h' : compare (sv true k) (sv false 0) = .gt := by
        rcases hc with h | h
        · exact Option.some.inj (h0.symm.trans h)
        · exfalso
          have : double.order (wd true k) 0 = some .eq := h
          unfold eqB at h4
          rw [this] at h4
          simp at h4
      rw [Int.compare_eq_gt] at h'
      unfold sv at h'
      simp only [Bool.false_eq_true, if_false, if_true] at h'
      have hz : RV 0 = 0 := rfl
      omega
  · exfalso
    have he : k = INF := by omega
    subst he
    cases s
    · revert h2; decide
    · revert h3; decide

/-- a rate without end -/
theorem inf_facts {r : Nat} (hr : r < 2 ^ 64) (h : gtB r 9218868437227405311 = true) : FloatKind.f64.format.order r 0 = some .gt ∧ infB r = true ∧ nanB r = false := by
  obtain ⟨s, k, hk, rfl⟩ := wd_cases hr
  rcases Nat.lt_trichotomy k INF with h1 | h1 | h1
  · exfalso
    rw [maxf_eq] at h
    unfold gtB at h
    rw [ord_gt s false h1 (by decide), decide_eq_true_iff] at h
    have h2 := RV_mono (show k ≤ INF - 1 by omega)
    unfold sv at h
    cases s <;> simp only [Bool.false_eq_true, if_false, if_true] at h <;> omega
  · subst h1
    cases s
    · exact ⟨by decide, by decide +kernel, by decide +kernel⟩
    · exfalso; revert h; decide
  · exfalso
    have h2 := nan_order (x := wd s k) (y := 9218868437227405311) (by rw [nanB_wd s hk]; simpa using h1) hr
    unfold gtB at h
    rw [h2] at h
    cases h

/-- what the quotient's ways hand back -/
theorem conv_ceil {k : Nat} (h : ceilN k < 4294967296) : floatToIntVal .f64 (wd false (ceilW k)) .u64 = some (ceilN k : Int) := by
  obtain ⟨h1, h2, h3⟩ := ceilW_small (k := k) (by omega)
  unfold floatToIntVal
  rw [toInt_wd h2, h3, Nat.mul_div_cancel _ ONE_pos]
  dsimp only
  rw [if_pos ⟨by show (0 : Int) ≤ _; omega, by show _ ≤ (18446744073709551615 : Int); omega⟩]

theorem ge_split {y : Nat} (h : (gtB y 4751297606875873280 || eqB y 4751297606875873280) = true) : FloatKind.f64.format.order y 4751297606875873280 = some .gt ∨ FloatKind.f64.format.order y 4751297606875873280 = some .eq := by
  unfold gtB eqB at h
  have h' : double.order y 4751297606875873280 = some .gt ∨ double.order y 4751297606875873280 = some .eq := by simpa using h
  exact h'
theorem ge_split_not {y : Nat} (h : (gtB y 4751297606875873280 || eqB y 4751297606875873280) = false) : FloatKind.f64.format.order y 4751297606875873280 = none ∨ FloatKind.f64.format.order y 4751297606875873280 = some .lt := by
  unfold gtB eqB at h
  show double.order y _ = none ∨ double.order y _ = some .lt
  cases ho : double.order y 4751297606875873280 with
  | none => exact .inl rfl
  | some c => rw [ho] at h; cases c <;> simp_all

theorem pause_zero (n : Int) (r : Nat) (hr : r < 2 ^ 64) (W : World) (h : nanB r = true ∨ n = 0 ∨ gtB r 9218868437227405311 = true) :
    Calls Try.prog 19 #[.int .u64 n, .float .f64 r] W fun e w' => e = .returned (.int .u64 0) ∧ W = w' := by
  cases hn : nanB r
  · have u := nan_not hn
    by_cases h0 : n = 0
    · subst h0
      clear h hn
      go_enter Try.func19, Try.ntmps19
      go_wp2_with fail
      go_ret
      exact ⟨rfl, rfl⟩
    · have h0' : (n == 0) = false := by simpa using h0
      have hg : gtB r 9218868437227405311 = true := by
        rcases h with h | h | h
        · rw [hn] at h; cases h
        · exact absurd h h0
        · exact h
      clear h hn h0
      go_enter Try.func19, Try.ntmps19
      go_wp2_with (go_at_call 29; refine (isinf1_any _ _).mono ?_; rintro e w' ⟨rfl, rfl⟩)
      go_ret
      exact ⟨rfl, rfl⟩
  · have u := nan_is hn hr
    clear h hn
    go_enter Try.func19, Try.ntmps19
    go_wp2_with fail
    go_ret
    exact ⟨rfl, rfl⟩

theorem pause_max (n : Int) (r : Nat) (W : World) (h1 : nanB r = false) (h2 : (n == 0) = false) (h3 : gtB r 9218868437227405311 = false) (h : ge0 r = false ∨ eqB r 0 = true) (hr : r < 2 ^ 64) :
    Calls Try.prog 19 #[.int .u64 n, .float .f64 r] W fun e w' => e = .returned (.int .u64 4294967296) ∧ W = w' := by
  have u := nan_not h1
  have v : FloatKind.f64.format.order r 0 = some .lt ∨ FloatKind.f64.format.order r 0 = some .eq := by
    rcases h with h | h
    · rcases ge0_not h with h | h
      · have := none_isnan hr h; rw [h1] at this; cases this
      · exact .inl h
    · right
      unfold eqB at h
      have h' : double.order r 0 = some .eq := by simpa using h
      exact h'
  clear h h1
  rcases v with v | v
  all_goals
    go_enter Try.func19, Try.ntmps19
    go_wp2_with (go_at_call 29; refine (isinf1_any _ _).mono ?_; rintro e w' ⟨rfl, rfl⟩)
    go_ret
    exact ⟨rfl, rfl⟩

theorem pos_order {r : Nat} (h3 : ge0 r = true) (h4 : eqB r 0 = false) : FloatKind.f64.format.order r 0 = some .gt := by
  rcases ge0_cases h3 with h | h
  · exact h
  · exfalso
    have : double.order r 0 = some .eq := h
    unfold eqB at h4
    rw [this] at h4
    simp at h4

theorem pause_calc (n : Int) (r k : Nat) (W : World) (h1 : nanB r = false) (h2 : (n == 0) = false) (h3 : gtB r 9218868437227405311 = false) (h4 : ge0 r = true) (h5 : eqB r 0 = false)
    (hd : double.div (floatOfInt .f64 n) r = some (wd false k)) (hk : k ≤ INF) :
    Calls Try.prog 19 #[.int .u64 n, .float .f64 r] W fun e w' => e = .returned (.int .u64 (pz k : Int)) ∧ W = w' := by
  have u := nan_not h1
  have v := pos_order h4 h5
  have e1 := fun W => run_float_arith (P := Try.prog) W .quo 33 .f64 _ _ _ hd
  by_cases hc : ceilN k < 4294967296
  · have hz : pz k = ceilN k := by unfold pz; rw [if_pos hc]
    have hcv := conv_ceil hc
    obtain ⟨_, hw, hrv⟩ := ceilW_small (k := k) (by omega)
    have hge := ge_max (k := ceilW k) (by omega)
    rw [hrv, decide_eq_false (by intro h; have := Nat.le_of_mul_le_mul_right h ONE_pos; omega)] at hge
    have e2 := fun W => run_convert_float_int (P := Try.prog) W 33 22 .f64 .u64 _ _ (by rw [Try.underlying33]; rfl) Try.underlying22 hcv
    have u2 := ge_split_not hge
    rw [hz]
    generalize ceilN k = c at *
    have hcl := ceil_any k hk
    generalize wd false (ceilW k) = y at *
    generalize wd false k = x at *
    clear hd hge hcv hz h1 h4 h5 hw hrv hk
    rcases u2 with u2 | u2
    all_goals
      go_enter Try.func19, Try.ntmps19
      go_wp2_with (first | (go_at_call 29; refine (isinf1_any _ _).mono ?_; rintro e w' ⟨rfl, rfl⟩) | (go_at_call 30; refine (hcl _).mono ?_; rintro e w' ⟨rfl, rfl⟩))
      go_ret
      exact ⟨rfl, rfl⟩
  · have hz : pz k = 4294967296 := by unfold pz; rw [if_neg hc]
    obtain ⟨hw, hrv⟩ := ceilW_great (k := k) (by omega)
    have hge := ge_max (k := ceilW k) hw
    rw [decide_eq_true hrv] at hge
    have u2 := ge_split hge
    rw [hz]
    have hcl := ceil_any k hk
    generalize wd false (ceilW k) = y at *
    generalize wd false k = x at *
    clear hd hge hz h1 h4 h5 hw hrv hk hc
    rcases u2 with u2 | u2
    all_goals
      go_enter Try.func19, Try.ntmps19
      go_wp2_with (first | (go_at_call 29; refine (isinf1_any _ _).mono ?_; rintro e w' ⟨rfl, rfl⟩) | (go_at_call 30; refine (hcl _).mono ?_; rintro e w' ⟨rfl, rfl⟩))
      go_ret
      exact ⟨rfl, rfl⟩

/-- the quotient of a whole number and a rate above nought -/
theorem quo_form (n : Int) (hn0 : 0 ≤ n) (hn : n < 18446744073709551616) {r : Nat} (hr : r < INF) (h0 : r ≠ 0) : ∃ k, k ≤ INF ∧ double.div (floatOfInt .f64 n) r = some (wd false k) := by
  obtain ⟨m, rfl⟩ := Int.eq_ofNat_of_zero_le hn0
  rw [floatOfInt_nat]
  have h1 := ofN_lt64 (n := m) (by omega)
  rw [Nat.min_eq_left (by omega)]
  exact div_pos_form h1 hr h0

theorem pause_any (n : Int) (r : Nat) (W : World) (hn0 : 0 ≤ n) (hn : n < 18446744073709551616) (hr : r < 2 ^ 64) :
    Calls Try.prog 19 #[.int .u64 n, .float .f64 r] W fun e w' => e = .returned (.int .u64 (pauseN n r)) ∧ W = w' := by
  unfold pauseN
  by_cases h : nanB r = true ∨ n = 0 ∨ gtB r 9218868437227405311 = true
  · rw [if_pos h]; exact pause_zero n r hr W h
  · rw [if_neg h]
    have h1 : nanB r = false := by cases hh : nanB r <;> simp_all
    have h2 : (n == 0) = false := by simp_all
    have h3 : gtB r 9218868437227405311 = false := by cases hh : gtB r 9218868437227405311 <;> simp_all
    by_cases h' : ge0 r = false ∨ eqB r 0 = true
    · rw [if_pos h']; exact pause_max n r W h1 h2 h3 h' hr
    · rw [if_neg h']
      have h4 : ge0 r = true := by cases hh : ge0 r <;> simp_all
      have h5 : eqB r 0 = false := by cases hh : eqB r 0 <;> simp_all
      obtain ⟨hr1, hr2⟩ := rate_form hr h1 h3 h4 h5
      obtain ⟨k, hk, hd⟩ := quo_form n hn0 hn hr1 hr2
      rw [hd]
      exact pause_calc n r k W h1 h2 h3 h4 h5 hd hk

end Go.Proofs.Ytpgaohmmjjgboaa
