/-
  The walk of the reference's Pause: it hands back what the program's does.
-/
import Derived.Test.YtpgaohmmjjgboaaLeaf4
namespace Go.Proofs.Ytpgaohmmjjgboaa
open Go.RowKit Ieee Fl

theorem notinf {r : Nat} (hr : r < INF) : infB r = false := by
  have h := infB_wd false (k := r) (by have := INF_lt; omega)
  rw [wd_pos] at h
  rw [h]; simp; omega

theorem pauser_zero (n : Int) (r : Nat) (hr : r < 2 ^ 64) (W : World) (h : nanB r = true ∨ n = 0 ∨ gtB r 9218868437227405311 = true) :
    Calls Try.prog 20 #[.int .u64 n, .float .f64 r] W fun e w' => e = .returned (.int .u64 0) ∧ ∃ m, w' = W.drewN m := by
  cases hn : nanB r
  · by_cases h0 : n = 0
    · subst h0
      clear h
      go_enter Try.func20, Try.ntmps20
      go_wp2_with (go_at_call 26; refine (none_any _ _).mono ?_; rintro e w' ⟨rfl, rfl⟩)
      go_ret
      exact ⟨rfl, 0, rfl⟩
    · have h0' : (n == 0) = false := by simpa using h0
      have hg : gtB r 9218868437227405311 = true := by
        rcases h with h | h | h
        · rw [hn] at h; cases h
        · exact absurd h h0
        · exact h
      obtain ⟨u1, u2, _⟩ := inf_facts hr hg
      clear h h0 hg
      go_enter Try.func20, Try.ntmps20
      go_wp2_with (first | (go_at_call 26; refine (none_any _ _).mono ?_; rintro e w' ⟨rfl, rfl⟩) | (go_at_call 31; refine (infinite_any _ hr _).mono ?_; rintro e w' ⟨rfl, m, rfl⟩))
      go_ret
      exact ⟨rfl, _, rfl⟩
  · clear h
    go_enter Try.func20, Try.ntmps20
    go_wp2_with (go_at_call 26; refine (none_any _ _).mono ?_; rintro e w' ⟨rfl, rfl⟩)
    go_ret
    exact ⟨rfl, 0, rfl⟩

theorem pauser_max (n : Int) (r : Nat) (W : World) (h1 : nanB r = false) (h2 : (n == 0) = false) (h : ge0 r = false ∨ eqB r 0 = true) (hr : r < 2 ^ 64) :
    Calls Try.prog 20 #[.int .u64 n, .float .f64 r] W fun e w' => e = .returned (.int .u64 4294967296) ∧ W = w' := by
  have v : FloatKind.f64.format.order r 0 = some .lt ∨ FloatKind.f64.format.order r 0 = some .eq := by
    rcases h with h | h
    · rcases ge0_not h with h | h
      · have := none_isnan hr h; rw [h1] at this; cases this
      · exact .inl h
    · right
      unfold eqB at h
      have h' : double.order r 0 = some .eq := by simpa using h
      exact h'
  clear h
  rcases v with v | v
  all_goals
    go_enter Try.func20, Try.ntmps20
    go_wp2_with (go_at_call 26; refine (none_any _ _).mono ?_; rintro e w' ⟨rfl, rfl⟩)
    go_ret
    exact ⟨rfl, rfl⟩

theorem floor_ceil (k : Nat) : (RV k / ONE * ONE < RV k → ceilN k = RV k / ONE + 1) ∧ (RV k / ONE * ONE = RV k → ceilN k = RV k / ONE) := by
  have h0 := ONE_pos
  have h1 := Nat.div_mul_le_self (RV k) ONE
  have h2 : RV k < (RV k / ONE + 1) * ONE := by
    have := Nat.lt_div_mul_add (a := RV k) h0
    rw [Nat.add_mul]; omega
  have ha : ceilN k ≤ RV k / ONE + 1 := ceil_lt.2 (Nat.le_of_lt h2)
  refine ⟨fun h => ?_, fun h => ?_⟩
  · rcases Nat.lt_or_ge (ceilN k) (RV k / ONE + 1) with h3 | h3
    · have := ceil_lt.1 (show ceilN k ≤ RV k / ONE by omega)
      omega
    · omega
  · have h3 : ceilN k ≤ RV k / ONE := ceil_lt.2 (Nat.le_of_eq h.symm)
    rcases Nat.lt_or_ge (ceilN k) (RV k / ONE) with h4 | h4
    · exfalso
      have h5 := ceil_lt.1 (show ceilN k ≤ RV k / ONE - 1 by omega)
      rw [Nat.sub_mul] at h5
      have : ONE ≤ RV k / ONE * ONE := Nat.le_mul_of_pos_left _ (by omega)
      omega
    · omega

theorem pauser_calc (n : Int) (r k : Nat) (W : World) (hr : r < 2 ^ 64) (h1 : nanB r = false) (h2 : (n == 0) = false) (hi : infB r = false) (h4 : ge0 r = true) (h5 : eqB r 0 = false)
    (hd : double.div (floatOfInt .f64 n) r = some (wd false k)) (hk : k ≤ INF) :
    Calls Try.prog 20 #[.int .u64 n, .float .f64 r] W fun e w' => e = .returned (.int .u64 (pz k : Int)) ∧ ∃ m, w' = W.drewN m := by
  have v := pos_order h4 h5
  have e1 := fun W => run_float_arith (P := Try.prog) W .quo 33 .f64 _ _ _ hd
  have hge := ge_max (k := k) hk
  by_cases hc : 4294967296 * ONE ≤ RV k
  · have hz : pz k = 4294967296 := by
      unfold pz
      split
      · rename_i h
        have := ceil_lt.1 (show ceilN k ≤ 4294967295 by omega)
        have h0 := ONE_pos
        omega
      · rfl
    rw [decide_eq_true hc] at hge
    have u2 := ge_split hge
    rw [hz]
    generalize wd false k = x at *
    clear hd hge hz h4 h5 hk hc
    rcases u2 with u2 | u2
    all_goals
      go_enter Try.func20, Try.ntmps20
      go_wp2_with (first | (go_at_call 26; refine (none_any _ _).mono ?_; rintro e w' ⟨rfl, rfl⟩) | (go_at_call 31; refine (infinite_any _ hr _).mono ?_; rintro e w' ⟨rfl, m, rfl⟩))
      go_ret
      exact ⟨rfl, _, rfl⟩
  · rw [decide_eq_false hc] at hge
    have u2 := ge_split_not hge
    have hkI : k < INF := RV_lt_iff.1 (by have := RV_INF_gt; omega)
    have hn1 : RV k / ONE < 4294967296 := by rw [Nat.div_lt_iff_lt_mul ONE_pos]; omega
    have hcv : floatToIntVal .f64 (wd false k) .u64 = some ((RV k / ONE : Nat) : Int) := by
      unfold floatToIntVal
      rw [toInt_wd hkI]
      dsimp only
      generalize RV k / ONE = q at *
      rw [if_pos ⟨by show (0 : Int) ≤ _; omega, by show _ ≤ (18446744073709551615 : Int); omega⟩]
    have e2 := fun W => run_convert_float_int (P := Try.prog) W 33 22 .f64 .u64 _ _ (by rw [Try.underlying33]; rfl) Try.underlying22 hcv
    have hfc := floor_ceil k
    have hle := Nat.div_mul_le_self (RV k) ONE
    have hcl : ceilN k ≤ 4294967296 := ceil_lt.2 (by omega)
    have hpz : pz k = ceilN k := by unfold pz; split <;> omega
    generalize hn : RV k / ONE = n1 at *
    have hfo : floatOfInt .f64 (n1 : Int) = wd false (ofN n1) := by rw [floatOfInt_nat, Nat.min_eq_left (Nat.le_of_lt (ofN_lt (by omega)))]
    have hrv : RV (ofN n1) = n1 * ONE := RV_ofN (by omega)
    have hord : double.order (wd false (ofN n1)) (wd false k) = some (compare (sv false (ofN n1)) (sv false k)) := order_wd false false (ofN_lt (by omega)) hkI
    rw [← hfo] at hord
    by_cases hlt : n1 * ONE < RV k
    · have hcmp : compare (sv false (ofN n1)) (sv false k) = .lt := by
        rw [Int.compare_eq_lt]; unfold sv; simp only [Bool.false_eq_true, if_false]; omega
      rw [hcmp] at hord
      have u3 : FloatKind.f64.format.order (floatOfInt .f64 (n1 : Int)) (wd false k) = some .lt := hord
      have hz : pz k = n1 + 1 := by rw [hpz]; exact hfc.1 hlt
      rw [hz]
      generalize wd false k = x at *
      clear hd hge hz h4 h5 hk hc hcv hfc hle hcl hpz hfo hrv hord hcmp hlt hn
      rcases u2 with u2 | u2
      all_goals
        go_enter Try.func20, Try.ntmps20
        go_wp2_with (first | (go_at_call 26; refine (none_any _ _).mono ?_; rintro e w' ⟨rfl, rfl⟩) | (go_at_call 31; refine (infinite_any _ hr _).mono ?_; rintro e w' ⟨rfl, m, rfl⟩))
        go_ret
        exact ⟨by simp, _, rfl⟩
    · have hcmp : compare (sv false (ofN n1)) (sv false k) = .eq := by
        rw [Int.compare_eq_eq]; unfold sv; simp only [Bool.false_eq_true, if_false]; omega
      rw [hcmp] at hord
      have u3 : FloatKind.f64.format.order (floatOfInt .f64 (n1 : Int)) (wd false k) = some .eq := hord
      have hz : pz k = n1 := by rw [hpz]; exact hfc.2 (by omega)
      rw [hz]
      generalize wd false k = x at *
      clear hd hge hz h4 h5 hk hc hcv hfc hle hcl hpz hfo hrv hord hcmp hlt hn
      rcases u2 with u2 | u2
      all_goals
        go_enter Try.func20, Try.ntmps20
        go_wp2_with (first | (go_at_call 26; refine (none_any _ _).mono ?_; rintro e w' ⟨rfl, rfl⟩) | (go_at_call 31; refine (infinite_any _ hr _).mono ?_; rintro e w' ⟨rfl, m, rfl⟩))
        go_ret
        exact ⟨rfl, _, rfl⟩

theorem pauser_any (n : Int) (r : Nat) (W : World) (hn0 : 0 ≤ n) (hn : n < 18446744073709551616) (hr : r < 2 ^ 64) :
    Calls Try.prog 20 #[.int .u64 n, .float .f64 r] W fun e w' => e = .returned (.int .u64 (pauseN n r)) ∧ ∃ m, w' = W.drewN m := by
  unfold pauseN
  by_cases h : nanB r = true ∨ n = 0 ∨ gtB r 9218868437227405311 = true
  · rw [if_pos h]; exact pauser_zero n r hr W h
  · rw [if_neg h]
    have h1 : nanB r = false := by cases hh : nanB r <;> simp_all
    have h2 : (n == 0) = false := by simp_all
    have h3 : gtB r 9218868437227405311 = false := by cases hh : gtB r 9218868437227405311 <;> simp_all
    by_cases h' : ge0 r = false ∨ eqB r 0 = true
    · rw [if_pos h']; exact (pauser_max n r W h1 h2 h' hr).mono fun e w' ⟨he, hw⟩ => ⟨he, 0, hw.symm⟩
    · rw [if_neg h']
      have h4 : ge0 r = true := by cases hh : ge0 r <;> simp_all
      have h5 : eqB r 0 = false := by cases hh : eqB r 0 <;> simp_all
      obtain ⟨hr1, hr2⟩ := rate_form hr h1 h3 h4 h5
      obtain ⟨k, hk, hd⟩ := quo_form n hn0 hn hr1 hr2
      rw [hd]
      exact pauser_calc n r k W hr h1 h2 (notinf hr1) h4 h5 hd hk

end Go.Proofs.Ytpgaohmmjjgboaa
