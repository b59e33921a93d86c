/-
  The walks of Rate, Same, Ceil and Pause, of the program and of the reference.
-/
import Derived.Test.YtpgaohmmjjgboaaLeaf2
import Derived.Test.YtpgaohmmjjgboaaPause
namespace Go.Proofs.Ytpgaohmmjjgboaa
open Go.RowKit Ieee Fl

/- RATE -/
def rateO (n : Int) (t : Nat) : Option Nat := if ge0 t = false then none else double.div (floatOfInt .f64 n) t

theorem rate_any (n : Int) (t : Nat) (W : World) : Calls Try.prog 17 #[.int .u64 n, .float .f64 t] W fun e w' => ∃ r m, e = .returned (.float .f64 r) ∧ FV (rateO n t) r ∧ r < 2 ^ 64 ∧ w' = W.drewN m := by
  unfold rateO
  cases h1 : ge0 t
  · rw [if_pos rfl]
    have u := ge0_not h1
    clear h1
    have hn : nanB 9221120237041090561 = true := by decide +kernel
    have HN := Lib.hid hn
    clear hn
    rcases u with u | u
    all_goals
      go_enter Try.func17, Try.ntmps17
      go_wp2_with (go_at_call 23; refine (nanc_any _).mono ?_; rintro e w' ⟨rfl, rfl⟩)
      go_ret
      exact ⟨_, 0, rfl, HN.out, by omega, rfl⟩
  · rw [if_neg (by simp)]
    have u := ge0_cases h1
    clear h1
    cases hd : double.div (floatOfInt .f64 n) t with
    | none =>
      obtain ⟨f, hf⟩ := run_nan .quo (.inr (.inr (.inr rfl))) 33 _ _ hd
      obtain ⟨f1, f2, e1⟩ := hf W
      have F1 := Lib.hid f1
      clear hf f1 hd
      rcases u with u | u
      all_goals
        go_enter Try.func17, Try.ntmps17
        go_wp2_with fail
        go_ret
        exact ⟨_, 1, rfl, F1.out, f2, rfl⟩
    | some r =>
      have e1 := fun W => run_float_arith (P := Try.prog) W .quo 33 .f64 _ _ r hd
      have hr := double.div_lt hd
      have HR := Lib.hid hr
      clear hd hr
      rcases u with u | u
      all_goals
        go_enter Try.func17, Try.ntmps17
        go_wp2_with fail
        go_ret
        exact ⟨_, 0, rfl, rfl, HR.out, rfl⟩

theorem rater_any (n : Int) (t : Nat) (ht : t < 2 ^ 64) (W : World) : Calls Try.prog 18 #[.int .u64 n, .float .f64 t] W fun e w' => ∃ r m, e = .returned (.float .f64 r) ∧ FV (rateO n t) r ∧ r < 2 ^ 64 ∧ w' = W.drewN m := by
  unfold rateO
  cases h1 : ge0 t
  · rw [if_pos rfl]
    have u := ge0_not h1
    clear h1
    rcases u with u | u
    · have n1 := none_isnan ht u
      go_enter Try.func18, Try.ntmps18
      go_wp2_with (first | (go_at_call 26; refine (none_any _ _).mono ?_; rintro e w' ⟨rfl, rfl⟩) | (go_at_call 25; refine (nan_any _).mono ?_; rintro e w' ⟨b, rfl, hb1, hb2, rfl⟩; have HB := Lib.hid hb1; clear hb1))
      go_ret
      exact ⟨_, 1, rfl, HB.out, hb2, rfl⟩
    · have n1 := lt_notnan ht u
      go_enter Try.func18, Try.ntmps18
      go_wp2_with (first | (go_at_call 26; refine (none_any _ _).mono ?_; rintro e w' ⟨rfl, rfl⟩) | (go_at_call 25; refine (nan_any _).mono ?_; rintro e w' ⟨b, rfl, hb1, hb2, rfl⟩; have HB := Lib.hid hb1; clear hb1))
      go_ret
      exact ⟨_, 1, rfl, HB.out, hb2, rfl⟩
  · rw [if_neg (by simp)]
    have u := ge0_cases h1
    have n1 : nanB t = false := by rcases u with h | h <;> exact lt_notnan ht h
    clear h1
    cases hd : double.div (floatOfInt .f64 n) t with
    | none =>
      obtain ⟨f, hf⟩ := run_nan .quo (.inr (.inr (.inr rfl))) 33 _ _ hd
      obtain ⟨f1, f2, e1⟩ := hf W
      have F1 := Lib.hid f1
      clear hf f1 hd
      rcases u with u | u
      all_goals
        go_enter Try.func18, Try.ntmps18
        go_wp2_with (first | (go_at_call 26; refine (none_any _ _).mono ?_; rintro e w' ⟨rfl, rfl⟩))
        go_ret
        exact ⟨_, 1, rfl, F1.out, f2, rfl⟩
    | some r =>
      have e1 := fun W => run_float_arith (P := Try.prog) W .quo 33 .f64 _ _ r hd
      have hr := double.div_lt hd
      have HR := Lib.hid hr
      clear hd hr
      rcases u with u | u
      all_goals
        go_enter Try.func18, Try.ntmps18
        go_wp2_with (first | (go_at_call 26; refine (none_any _ _).mono ?_; rintro e w' ⟨rfl, rfl⟩))
        go_ret
        exact ⟨_, 0, rfl, rfl, HR.out, rfl⟩

/- SAME -/
theorem zero_cases {x : Nat} (hx : x < 2 ^ 64) (hn : nanB x = false) : (FloatKind.f64.format.order x 0 = some .eq ∧ ∃ i, double.div ONEB x = some i ∧ nanB i = false) ∨ ∃ c, c ≠ .eq ∧ FloatKind.f64.format.order x 0 = some c := by
  cases ho : double.order x 0 with
  | none =>
    exfalso
    rcases order_none hx (by omega) ho with h | h
    · rw [hn] at h; cases h
    · exact absurd h (by decide +kernel)
  | some c =>
    by_cases hc : c = .eq
    · left
      subst hc
      refine ⟨ho, ?_⟩
      obtain ⟨s, k, hk, rfl⟩ := wd_cases hx
      rw [nanB_wd s hk] at hn
      have hn' : ¬ INF < k := by simpa using hn
      rcases Nat.lt_or_ge k INF with h | h
      · have h0 := order_wd s false h (show 0 < INF by decide)
        have h1 : compare (sv s k) (sv false 0) = .eq := Option.some.inj (h0.symm.trans ho)
        rw [Int.compare_eq_eq] at h1
        have hz : k = 0 := by
          have h2 : RV k = RV 0 := by
            unfold sv at h1
            have hz : RV 0 = 0 := rfl
            cases s <;> simp only [Bool.false_eq_true, if_false, if_true] at h1 <;> omega
          exact RV_inj h2
        subst hz
        cases s
        · exact ⟨wd false INF, by decide +kernel, by decide +kernel⟩
        · exact ⟨wd true INF, by decide +kernel, by decide +kernel⟩
      · exfalso
        have he : k = INF := by omega
        subst he
        revert ho
        cases s <;> decide
    · exact .inr ⟨c, hc, ho⟩

set_option maxHeartbeats 1000000 in
theorem same_eq (x : Nat) (hx : x < 2 ^ 64) (W : World) : Calls Try.prog 12 #[.float .f64 x, .float .f64 x] W fun e w' => e = .returned (.bool true) ∧ W = w' := by
  cases hn : nanB x
  · have u := nan_not hn
    rcases zero_cases hx hn with ⟨h0, i, hi, hin⟩ | ⟨c, hc, h0⟩
    · have e1 := fun W => run_float_arith (P := Try.prog) W .quo 33 .f64 ONEB x i hi
      have ui := nan_not hin
      unfold ONEB at e1
      clear hi hin
      go_enter Try.func12, Try.ntmps12
      go_wp2_with (first | (go_at_call 26; refine (none_any _ _).mono ?_; rintro e w' ⟨rfl, rfl⟩))
      go_ret
      exact ⟨rfl, rfl⟩
    · have hcb : (c == Ordering.eq) = false := by cases c <;> simp_all
      have hcb' : (c != Ordering.eq) = true := by cases c <;> simp_all
      cases c
      case eq => exact absurd rfl hc
      all_goals
        clear hc hcb hcb'
        go_enter Try.func12, Try.ntmps12
        go_wp2_with (first | (go_at_call 26; refine (none_any _ _).mono ?_; rintro e w' ⟨rfl, rfl⟩))
        go_ret
        exact ⟨rfl, rfl⟩
  · go_enter Try.func12, Try.ntmps12
    go_wp2_with (first | (go_at_call 26; refine (none_any _ _).mono ?_; rintro e w' ⟨rfl, rfl⟩))
    go_ret
    exact ⟨rfl, rfl⟩

theorem same_nan (x y : Nat) (h1 : nanB x = true) (h2 : nanB y = true) (W : World) : Calls Try.prog 12 #[.float .f64 x, .float .f64 y] W fun e w' => e = .returned (.bool true) ∧ W = w' := by
  go_enter Try.func12, Try.ntmps12
  go_wp2_with (first | (go_at_call 26; refine (none_any _ _).mono ?_; rintro e w' ⟨rfl, rfl⟩))
  go_ret
  exact ⟨rfl, rfl⟩

theorem same_fv {o : Option Nat} {x y : Nat} (hx : x < 2 ^ 64) (h1 : FV o x) (h2 : FV o y) (W : World) : Calls Try.prog 12 #[.float .f64 x, .float .f64 y] W fun e w' => e = .returned (.bool true) ∧ W = w' := by
  cases o with
  | none => exact same_nan x y h1 h2 W
  | some v =>
    have e1 : x = v := h1
    have e2 : y = v := h2
    subst e1; subst e2
    exact same_eq _ hx W

end Go.Proofs.Ytpgaohmmjjgboaa
