/-
  Plain facts: quotients lie between rungs as the exact ones do; what a sample makes of a timer's numbers stays within bounds.
-/
import Derived.Test.YtpgaohmmjjgboaaRef
namespace Go.Proofs.Ytpgaohmmjjgboaa
open Ieee Fl

/- QUOTIENTS -/
section
variable {a b : Nat}

theorem sig_lt (b : Nat) : sig b < 2 ^ 53 := by unfold sig; split <;> omega

/-- the quotient's whole part has 54 digits at least -/
theorem q_ge (ha : a ≠ 0) (hb : b ≠ 0) : 2 ^ 53 ≤ sig a <<< qmore a b / sig b := by
  have hsb : 0 < sig b := Nat.pos_of_ne_zero (sig_ne hb)
  rw [Nat.le_div_iff_mul_le hsb, Nat.shiftLeft_eq]
  have h1 : 2 ^ (sig a).log2 ≤ sig a := Nat.log2_self_le (sig_ne ha)
  have h2 : sig b < 2 ^ ((sig b).log2 + 1) := Nat.lt_log2_self
  have h3 : sig a < 2 ^ 53 := sig_lt a
  have h4 : (sig a).log2 < 53 := (Nat.log2_lt (sig_ne ha)).2 h3
  have h5 : 2 ^ (sig a).log2 * 2 ^ qmore a b ≤ sig a * 2 ^ qmore a b := Nat.mul_le_mul_right _ h1
  rw [← Nat.pow_add] at h5
  have h6 : (sig a).log2 + qmore a b = 53 + ((sig b).log2 + 1) := by unfold qmore; omega
  rw [h6, Nat.pow_add] at h5
  have h7 : 2 ^ 53 * sig b ≤ 2 ^ 53 * 2 ^ ((sig b).log2 + 1) := Nat.mul_le_mul_left _ (Nat.le_of_lt h2)
  omega

/-- the scale in which all is whole -/
def qs (a b : Nat) : Nat := ex b + qmore a b + 1
def qX (a : Nat) : Nat := ex a + 1074 + 1

theorem q_exact (a b : Nat) : Exact (qmag a b) (qplc a b) (qs a b) = qmag a b * 2 ^ (ex a + 1074) := by
  unfold Exact qplc qs plc
  congr 2
  omega

/-- the true quotient, in that scale: RV a * ONE * 2 ^ qs = (sig a << more) * 2 ^ qX * (what RV b is over sig b) -/
theorem q_true (a b : Nat) : RV a * ONE * 2 ^ qs a b = sig a <<< qmore a b * 2 ^ qX a * 2 ^ ex b := by
  rw [RV_sig, ONE_eq, Nat.shiftLeft_eq]
  unfold qs qX
  rw [Nat.pow_add 2 (ex b + qmore a b) 1, Nat.pow_add 2 (ex b), Nat.pow_add 2 (ex a + 1074) 1, Nat.pow_add 2 (ex a) 1074]
  generalize 2 ^ 1074 = z
  ac_rfl

theorem scale_dvd (k s X : Nat) : (∃ m, RV k * 2 ^ s = m * 2 ^ X) ∨ RV k * 2 ^ s < 2 ^ 52 * 2 ^ X := by
  rcases Nat.le_total s X with h | h
  · rcases RV_dvd k (X - s) with ⟨m, hm⟩ | hm
    · left
      refine ⟨m, ?_⟩
      rw [hm, Nat.mul_assoc, ← Nat.pow_add, Nat.sub_add_cancel h]
    · right
      have h1 := Nat.mul_lt_mul_of_pos_right hm (Nat.two_pow_pos s)
      rw [← Nat.pow_add, Nat.add_assoc, Nat.sub_add_cancel h, Nat.pow_add] at h1
      exact h1
  · left
    refine ⟨RV k * 2 ^ (s - X), ?_⟩
    rw [Nat.mul_assoc, ← Nat.pow_add, Nat.sub_add_cancel h]

theorem q_place (a b : Nat) : 0 ≤ qplc a b + 1074 + (qs a b : Nat) := by unfold qplc qs plc; omega

theorem divR_ge {k : Nat} (ha : a ≠ 0) (hb : b ≠ 0) (h : RV k * RV b ≤ RV a * ONE) : k ≤ divR a b := by
  refine rung_ge (s := qs a b) (q_place a b) k ?_
  rw [q_exact]
  have hq := q_ge ha hb
  have hsb : 0 < sig b := Nat.pos_of_ne_zero (sig_ne hb)
  have h1 : RV k * 2 ^ qs a b * sig b ≤ sig a <<< qmore a b * 2 ^ qX a := by
    refine Nat.le_of_mul_le_mul_right (c := 2 ^ ex b) ?_ (Nat.two_pow_pos _)
    rw [← q_true, Nat.mul_assoc, ← RV_sig, Nat.mul_right_comm]
    exact Nat.mul_le_mul_right _ h
  have hX : 2 ^ qX a = 2 * 2 ^ (ex a + 1074) := by unfold qX; rw [Nat.pow_succ]; omega
  have hmag : 2 * (sig a <<< qmore a b / sig b) ≤ qmag a b := by unfold qmag; omega
  have hlow : sig a <<< qmore a b / sig b * 2 ^ qX a ≤ qmag a b * 2 ^ (ex a + 1074) := by
    rw [hX, ← Nat.mul_assoc, Nat.mul_comm _ 2]
    exact Nat.mul_le_mul_right _ hmag
  refine Nat.le_trans ?_ hlow
  rcases scale_dvd k (qs a b) (qX a) with ⟨m, hm⟩ | hm
  · rw [hm] at h1 ⊢
    refine Nat.mul_le_mul_right _ ?_
    rw [Nat.le_div_iff_mul_le hsb]
    refine Nat.le_of_mul_le_mul_right (c := 2 ^ qX a) ?_ (Nat.two_pow_pos _)
    rw [Nat.mul_right_comm]; exact h1
  · exact Nat.le_of_lt (Nat.lt_of_lt_of_le hm (Nat.mul_le_mul_right _ (by omega)))

theorem divR_le {k : Nat} (hb : b ≠ 0) (h : RV a * ONE ≤ RV k * RV b) : divR a b ≤ k := by
  by_cases ha : a = 0
  · subst ha
    have hz : sig 0 = 0 := rfl
    have hm : qmag 0 b = 0 := by
      unfold qmag; rw [hz, Nat.zero_shiftLeft, Nat.zero_div, Nat.zero_mod]; rfl
    unfold divR rungN
    rw [if_pos hm]; omega
  refine rung_le (s := qs a b) (q_place a b) k ?_
  rw [q_exact]
  have hq := q_ge ha hb
  have hsb : 0 < sig b := Nat.pos_of_ne_zero (sig_ne hb)
  have h1 : sig a <<< qmore a b * 2 ^ qX a ≤ RV k * 2 ^ qs a b * sig b := by
    refine Nat.le_of_mul_le_mul_right (c := 2 ^ ex b) ?_ (Nat.two_pow_pos _)
    rw [← q_true, Nat.mul_assoc (RV k * 2 ^ qs a b), ← RV_sig, Nat.mul_right_comm (RV k)]
    exact Nat.mul_le_mul_right _ h
  have hX : 2 ^ qX a = 2 * 2 ^ (ex a + 1074) := by unfold qX; rw [Nat.pow_succ]; omega
  rcases scale_dvd k (qs a b) (qX a) with ⟨m, hm⟩ | hm
  · rw [hm] at h1 ⊢
    have h2 : sig a <<< qmore a b ≤ m * sig b := by
      refine Nat.le_of_mul_le_mul_right (c := 2 ^ qX a) ?_ (Nat.two_pow_pos _)
      rw [Nat.mul_right_comm m] at h1; exact h1
    have h3 : qmag a b ≤ 2 * m := by
      unfold qmag
      have hdm := Nat.div_add_mod (sig a <<< qmore a b) (sig b)
      generalize sig a <<< qmore a b / sig b = q at *
      generalize sig a <<< qmore a b % sig b = r at *
      by_cases hr : r = 0
      · subst hr
        have : q ≤ m := by
          refine Nat.le_of_mul_le_mul_right (c := sig b) ?_ hsb
          rw [Nat.mul_comm q]; omega
        simp; omega
      · have hq1 : q < m := by
          refine Nat.lt_of_mul_lt_mul_right (a := sig b) ?_
          rw [Nat.mul_comm q]; omega
        have : (r != 0) = true := by simpa using hr
        rw [this, Bool.toNat_true]; omega
    rw [hX]
    rw [← Nat.mul_assoc, Nat.mul_comm m 2]
    exact Nat.mul_le_mul_right _ h3
  · exfalso
    have h2 : RV k * 2 ^ qs a b * sig b < 2 ^ 52 * 2 ^ qX a * sig b := Nat.mul_lt_mul_of_pos_right hm hsb
    have h3 : sig a <<< qmore a b * 2 ^ qX a < 2 ^ 52 * 2 ^ qX a * sig b := Nat.lt_of_le_of_lt h1 h2
    rw [Nat.mul_right_comm] at h3
    have h4 := Nat.lt_of_mul_lt_mul_right h3
    have h5 := (Nat.le_div_iff_mul_le hsb).1 hq
    have h6 : 2 ^ 52 * sig b ≤ 2 ^ 53 * sig b := Nat.mul_le_mul_right _ (by omega)
    omega
end

/- BOUNDS -/
/-- a number of the timer's: at most 2 ^ 32 -/
def Bd (s : Nat) : Prop := RV s ≤ 4294967296 * ONE

theorem Bd_lt {s : Nat} (h : Bd s) : s < INF := RV_lt_iff.1 (Nat.lt_of_le_of_lt h RV_INF_gt)

theorem fx_eq (n : Nat) (h : n ≤ 4294967296) : floatOfInt .f64 (n : Int) = ofN n := by
  rw [floatOfInt_nat, Nat.min_eq_left (Nat.le_of_lt (ofN_lt (by omega)))]; rfl

theorem Bd_ofN {n : Nat} (h : n ≤ 4294967296) : Bd (ofN n) := by
  unfold Bd
  rw [RV_ofN (by omega)]
  exact Nat.mul_le_mul_right _ h

theorem RV_TWO : RV TWO = 2 * ONE := by decide +kernel
theorem RV_FOUR : RV FOUR = 4 * ONE := by decide +kernel
theorem RV_Q875 : 8 * RV Q875 = 7 * ONE := by decide +kernel
theorem RV_Q75 : 4 * RV Q75 = 3 * ONE := by decide +kernel
theorem sub875 : 8 * RV (subR ONEB Q875) = ONE := by decide +kernel
theorem sub75 : 4 * RV (subR ONEB Q75) = ONE := by decide +kernel
theorem RV_QUARTER : 4 * RV QUARTER = ONE := by decide +kernel

theorem half_model {a : Nat} (ha : a < INF) : ∃ d', double.div a TWO = some d' ∧ RV d' ≤ RV a := by
  have h2 : TWO < INF := by decide
  have hle : divR a TWO ≤ a := divR_le (by decide) (Nat.mul_le_mul_left _ (by rw [RV_TWO]; omega))
  have h := div_wd false false ha h2 (by decide)
  rw [Nat.min_eq_left (by omega)] at h
  exact ⟨_, h, RV_mono hle⟩

theorem Bd_mix875 {o s : Nat} (ho : Bd o) (hs : Bd s) : Bd (mixF o s Q875) := by
  unfold Bd at *
  have e1 : RV (ofN 3758096384) = 3758096384 * ONE := RV_ofN (by omega)
  have e2 : RV (ofN 536870912) = 536870912 * ONE := RV_ofN (by omega)
  have e3 : RV (ofN 4294967296) = 4294967296 * ONE := RV_ofN (by omega)
  have m1 : mulR o Q875 ≤ ofN 3758096384 := mulR_le (by
    rw [e1]
    have h := Nat.mul_le_mul_right (RV Q875) ho
    have h8 := RV_Q875
    have : 8 * (4294967296 * ONE * RV Q875) = 8 * (3758096384 * ONE * ONE) := by
      rw [Nat.mul_left_comm, h8]; generalize ONE = z; rw [Nat.mul_mul_mul_comm, Nat.mul_assoc 3758096384]; omega
    omega)
  have m2 : mulR s (subR ONEB Q875) ≤ ofN 536870912 := mulR_le (by
    rw [e2]
    have h := Nat.mul_le_mul_right (RV (subR ONEB Q875)) hs
    have h8 := sub875
    have : 8 * (4294967296 * ONE * RV (subR ONEB Q875)) = 8 * (536870912 * ONE * ONE) := by
      rw [Nat.mul_left_comm, h8]; generalize ONE = z; rw [Nat.mul_assoc, Nat.mul_assoc]; omega
    omega)
  have m3 : addR (mulR o Q875) (mulR s (subR ONEB Q875)) ≤ ofN 4294967296 := addR_le (by
    have h1 := RV_mono m1
    have h2 := RV_mono m2
    rw [e3]; rw [e1] at h1; rw [e2] at h2; omega)
  have m4 : mixF o s Q875 ≤ ofN 4294967296 := Nat.le_trans (Nat.min_le_left _ _) m3
  rw [← e3]
  exact RV_mono m4

theorem Bd_mix75 {o s : Nat} (ho : Bd o) (hs : Bd s) : Bd (mixF o s Q75) := by
  unfold Bd at *
  have e1 : RV (ofN 3221225472) = 3221225472 * ONE := RV_ofN (by omega)
  have e2 : RV (ofN 1073741824) = 1073741824 * ONE := RV_ofN (by omega)
  have e3 : RV (ofN 4294967296) = 4294967296 * ONE := RV_ofN (by omega)
  have m1 : mulR o Q75 ≤ ofN 3221225472 := mulR_le (by
    rw [e1]
    have h := Nat.mul_le_mul_right (RV Q75) ho
    have h8 := RV_Q75
    have : 4 * (4294967296 * ONE * RV Q75) = 4 * (3221225472 * ONE * ONE) := by
      rw [Nat.mul_left_comm, h8]; generalize ONE = z; rw [Nat.mul_mul_mul_comm, Nat.mul_assoc 3221225472]; omega
    omega)
  have m2 : mulR s (subR ONEB Q75) ≤ ofN 1073741824 := mulR_le (by
    rw [e2]
    have h := Nat.mul_le_mul_right (RV (subR ONEB Q75)) hs
    have h8 := sub75
    have : 4 * (4294967296 * ONE * RV (subR ONEB Q75)) = 4 * (1073741824 * ONE * ONE) := by
      rw [Nat.mul_left_comm, h8]; generalize ONE = z; rw [Nat.mul_assoc, Nat.mul_assoc]; omega
    omega)
  have m3 : addR (mulR o Q75) (mulR s (subR ONEB Q75)) ≤ ofN 4294967296 := addR_le (by
    have h1 := RV_mono m1
    have h2 := RV_mono m2
    rw [e3]; rw [e1] at h1; rw [e2] at h2; omega)
  have m4 : mixF o s Q75 ≤ ofN 4294967296 := Nat.le_trans (Nat.min_le_left _ _) m3
  rw [← e3]
  exact RV_mono m4

theorem Bd_sub {s x : Nat} (hs : Bd s) (hx : Bd x) : Bd (subR s x) := by
  unfold Bd at *
  have e3 : RV (ofN 4294967296) = 4294967296 * ONE := RV_ofN (by omega)
  rw [← e3]
  exact RV_mono (subR_le (by rw [e3]; unfold dif; omega))

/-- the value's rung, and its whole part -/
def valR (s d : Nat) : Nat := addR s (mulR FOUR (maxQ d))
theorem Bd_maxQ {d : Nat} (h : Bd d) : Bd (maxQ d) := by
  unfold maxQ
  split
  · unfold Bd; have := RV_QUARTER; omega
  · exact h
theorem val_model {s d : Nat} (hs : Bd s) (hd : Bd d) : valO s d = some ((RV (valR s d) / ONE : Nat) : Int) ∧ RV (valR s d) ≤ 21474836480 * ONE := by
  have hm := Bd_maxQ hd
  have e1 : RV (ofN 17179869184) = 17179869184 * ONE := RV_ofN (by omega)
  have e2 : RV (ofN 21474836480) = 21474836480 * ONE := RV_ofN (by omega)
  have h4 : FOUR < INF := by decide
  have m1 : mulR FOUR (maxQ d) ≤ ofN 17179869184 := mulR_le (by
    rw [e1, RV_FOUR]
    unfold Bd at hm
    have := Nat.mul_le_mul_left (4 * ONE) hm
    have e : 4 * ONE * (4294967296 * ONE) = 17179869184 * ONE * ONE := by generalize ONE = z; rw [Nat.mul_mul_mul_comm, Nat.mul_assoc 17179869184]
    omega)
  have i1 := ofN_lt (n := 17179869184) (by omega)
  have i2 := ofN_lt (n := 21474836480) (by omega)
  have p1 : double.mul FOUR (maxQ d) = some (mulR FOUR (maxQ d)) := by
    have h := mul_pos h4 (Bd_lt hm)
    rwa [Nat.min_eq_left (by omega)] at h
  have m2 : valR s d ≤ ofN 21474836480 := addR_le (by
    have h1 := RV_mono m1
    unfold Bd at hs
    rw [e2]; rw [e1] at h1; omega)
  have p2 : double.add s (mulR FOUR (maxQ d)) = some (valR s d) := by
    have h := add_pos (Bd_lt hs) (show mulR FOUR (maxQ d) < INF by omega)
    rw [show addR s (mulR FOUR (maxQ d)) = valR s d from rfl, Nat.min_eq_left (by omega)] at h
    exact h
  have m3 := RV_mono m2
  rw [e2] at m3
  refine ⟨?_, m3⟩
  unfold valO
  rw [p1, Option.bind_some, p2, Option.bind_some]
  unfold floatToIntVal
  have h := toInt_wd (k := valR s d) (by omega)
  rw [wd_pos] at h
  rw [h]
  have hq : RV (valR s d) / ONE ≤ 21474836480 := Nat.div_le_of_le_mul (by rw [Nat.mul_comm]; exact m3)
  dsimp only
  generalize RV (valR s d) / ONE = z at *
  rw [if_pos ⟨by show (0 : Int) ≤ _; omega, by show _ ≤ (18446744073709551615 : Int); omega⟩]

end Go.Proofs.Ytpgaohmmjjgboaa
