/-
  Plain facts: a pause is long enough: so many ticks at that rate are no fewer bytes than were asked, but for a thousandth.
-/
import Derived.Test.YtpgaohmmjjgboaaConv
namespace Go.Proofs.Ytpgaohmmjjgboaa
open Ieee Fl

/-- Every great whole number is nearly a rung's. -/
theorem near_rung (Q : Nat) (h : 2 ^ 60 ≤ Q) : ∃ j, RV j ≤ Q ∧ 1023 * (Q + 1) ≤ 1024 * RV j := by
  have h0 : Q ≠ 0 := by omega
  have hl : 60 ≤ Q.log2 := (Nat.le_log2 h0).2 h
  obtain ⟨e, he⟩ : ∃ e, Q.log2 = 52 + e := ⟨Q.log2 - 52, by omega⟩
  have h1 : 2 ^ Q.log2 ≤ Q := Nat.log2_self_le h0
  have h2 : Q < 2 ^ (Q.log2 + 1) := Nat.lt_log2_self
  rw [he, Nat.pow_add] at h1
  rw [he, show 52 + e + 1 = 53 + e by omega, Nat.pow_add] at h2
  have hp : 0 < 2 ^ e := Nat.two_pow_pos _
  have hm2 : Q / 2 ^ e < 2 ^ 53 := by rw [Nat.div_lt_iff_lt_mul hp]; exact h2
  obtain ⟨j, hj⟩ := RV_rep e (Q / 2 ^ e) (by omega)
  have h3 := Nat.div_mul_le_self Q (2 ^ e)
  have h4 := Nat.lt_div_mul_add (a := Q) hp
  refine ⟨j, by omega, ?_⟩
  have h5 : 2 ^ 10 * 2 ^ e ≤ Q / 4398046511104 := by
    rw [Nat.le_div_iff_mul_le (by omega)]
    omega
  omega

theorem RV_INF_sq : RV INF ≤ ONE * ONE := by decide +kernel
def C999 : Nat := 4607173411600762667
theorem RV_C999 : 1024 * RV C999 ≤ 1023 * ONE := by decide +kernel
theorem ONE_big : 2 ^ 60 ≤ ONE := by decide +kernel
theorem ONE_1024 : ∃ z, ONE = 1024 * z := ⟨two 1064, by decide +kernel⟩

theorem l_low {B O q z : Nat} (h : 1024 * q ≤ 1023 * O) (hz : O = 1024 * z) : B * O * q ≤ 1023 * B * z * O := by
  refine Nat.le_of_mul_le_mul_left (c := 1024) ?_ (by omega)
  have h1 : B * O * (1024 * q) ≤ B * O * (1023 * O) := Nat.mul_le_mul_left _ h
  have e1 : 1024 * (B * O * q) = B * O * (1024 * q) := by ac_rfl
  have e2 : 1024 * (1023 * B * z * O) = B * O * (1023 * (1024 * z)) := by ac_rfl
  rw [e1, e2, ← hz]
  exact h1
theorem l_high {B O k r c z : Nat} (h : 1023 * (B * O * O) ≤ 1024 * (k * r)) (hk : k ≤ c * O) (hz : O = 1024 * z) : 1023 * B * z * O ≤ c * O * r := by
  refine Nat.le_of_mul_le_mul_left (c := 1024) ?_ (by omega)
  have h1 : 1024 * (k * r) ≤ 1024 * (c * O * r) := Nat.mul_le_mul_left _ (Nat.mul_le_mul_right _ hk)
  have e2 : 1024 * (1023 * B * z * O) = 1023 * (B * (1024 * z) * O) := by ac_rfl
  rw [e2, ← hz]
  omega
theorem l_great {B O r c z : Nat} (h : B * O ≤ r) (hc : 1 ≤ c) (hz : O = 1024 * z) : 1023 * B * z * O ≤ c * O * r := by
  have h1 : 1023 * B * z ≤ r := by
    have e : B * O = 1024 * (B * z) := by rw [hz]; ac_rfl
    have e2 : 1023 * B * z = 1023 * (B * z) := Nat.mul_assoc _ _ _
    omega
  have h2 : 1023 * B * z * O ≤ r * O := Nat.mul_le_mul_right _ h1
  have h3 : 1 * (O * r) ≤ c * (O * r) := Nat.mul_le_mul_right _ hc
  rw [Nat.one_mul] at h3
  rw [Nat.mul_comm r O] at h2
  rw [Nat.mul_assoc c O r]
  omega
theorem l_quo {Q r t j k : Nat} (hj : 1023 * (Q + 1) ≤ 1024 * j) (ht : t < Q * r + r) (hk : j ≤ k) : 1023 * t ≤ 1024 * (k * r) := by
  have h1 : 1023 * (Q + 1) * r ≤ 1024 * j * r := Nat.mul_le_mul_right _ hj
  have h2 : 1024 * j * r ≤ 1024 * (k * r) := by
    rw [Nat.mul_assoc]; exact Nat.mul_le_mul_left _ (Nat.mul_le_mul_right _ hk)
  have e1 : 1023 * (Q + 1) * r = 1023 * (Q * r + r) := by rw [Nat.mul_assoc, Nat.add_mul, Nat.one_mul]
  omega

/-- the quotient is nearly the true one -/
theorem quo_near {B r : Nat} (hB : 0 < B) (hB2 : B < 4294967296) (hr : r ≠ 0) (hlt : RV r < B * ONE) : 1023 * (B * ONE * ONE) ≤ 1024 * (RV (divR (ofN B) r) * RV r) := by
  have ha : RV (ofN B) = B * ONE := RV_ofN (by omega)
  have ha0 : ofN B ≠ 0 := by
    intro h
    rw [h] at ha
    have hz : RV 0 = 0 := rfl
    have : 0 < B * ONE := Nat.mul_pos hB ONE_pos
    omega
  have hrp : 0 < RV r := by
    have := RV_strict (show 0 < r by omega)
    omega
  have hQ1 : ONE ≤ B * ONE * ONE / RV r := by
    rw [Nat.le_div_iff_mul_le hrp, Nat.mul_comm]
    exact Nat.mul_le_mul_right _ (Nat.le_of_lt hlt)
  obtain ⟨j, hj1, hj2⟩ := near_rung (B * ONE * ONE / RV r) (Nat.le_trans ONE_big hQ1)
  have h1 := Nat.div_mul_le_self (B * ONE * ONE) (RV r)
  have h2 := Nat.lt_div_mul_add (a := B * ONE * ONE) hrp
  have hk : j ≤ divR (ofN B) r := divR_ge ha0 hr (by
    rw [ha]
    exact Nat.le_trans (Nat.mul_le_mul_right _ hj1) h1)
  have h3 := RV_mono hk
  exact l_quo hj2 h2 h3

/-- A PAUSE IS LONG ENOUGH: c ticks, c the quotient made whole upwards. -/
theorem pause_long {B r : Nat} (hB : 0 < B) (hB2 : B < 4294967296) (hr : r < INF) (hr0 : r ≠ 0) (hc : ceilN (min (divR (ofN B) r) INF) < 4294967296) :
    mulR (ofN B) C999 ≤ mulR (ofN (ceilN (min (divR (ofN B) r) INF))) r := by
  have ha : RV (ofN B) = B * ONE := RV_ofN (by omega)
  have hkI : min (divR (ofN B) r) INF = divR (ofN B) r := by
    obtain ⟨h, _, _⟩ := ceilW_small (k := min (divR (ofN B) r) INF) (by omega)
    omega
  rw [hkI] at hc ⊢
  have hcl := ceil_lt.1 (Nat.le_refl (ceilN (divR (ofN B) r)))
  generalize hcc : ceilN (divR (ofN B) r) = c at *
  have hcr : RV (ofN c) = c * ONE := RV_ofN (by omega)
  obtain ⟨z, hz⟩ := ONE_1024
  have hrp : 0 < RV r := by
    have := RV_strict (show 0 < r by omega)
    omega
  -- a number between
  obtain ⟨i, hi⟩ : ∃ i, RV i = 1023 * B * z := by
    obtain ⟨i, hi⟩ := RV_rep2 1064 (1023 * B) (by omega)
    refine ⟨i, ?_⟩
    have e : two 1064 = z := by
      have : ONE = 1024 * two 1064 := by decide +kernel
      omega
    rw [hi, e]
  have low : mulR (ofN B) C999 ≤ i := mulR_le (by
    rw [ha, hi]
    exact l_low RV_C999 hz)
  have ha0 : ofN B ≠ 0 := by
    intro h
    rw [h] at ha
    have h0 : RV 0 = 0 := rfl
    have : 0 < B * ONE := Nat.mul_pos hB ONE_pos
    omega
  have high : i ≤ mulR (ofN c) r := mulR_ge (by
    rw [hcr, hi]
    rcases Nat.lt_or_ge (RV r) (B * ONE) with hlt | hge
    · exact l_high (quo_near hB hB2 hr0 hlt) hcl hz
    · refine l_great hge ?_ hz
      have h1 : 1 ≤ divR (ofN B) r := divR_ge ha0 hr0 (by
        have e : RV 1 = 1 := rfl
        rw [e, Nat.one_mul, ha, Nat.mul_assoc]
        have h2 := RV_mono (Nat.le_of_lt hr)
        have h3 := RV_INF_sq
        have h4 : 1 * (ONE * ONE) ≤ B * (ONE * ONE) := Nat.mul_le_mul_right _ hB
        omega)
      have h2 := RV_mono h1
      have e : RV 1 = 1 := rfl
      rcases Nat.eq_zero_or_pos c with h0 | h0
      · rw [h0] at hcl; omega
      · exact h0)
  exact Nat.le_trans low high

/-- what the law asks of a pause: p ticks of so many bytes at a rate -/
def PauseOk (bytes rate : Nat) (p : Int) : Prop :=
  0 ≤ p ∧ p ≤ 4294967296 ∧ (FloatKind.f64.format.order rate 0 = none ∨ FloatKind.f64.format.order rate 0 = some .lt ∨ FloatKind.f64.format.order rate 0 = some .eq ∨
    (FloatKind.f64.format.order rate 0 = some .gt ∧ p = 4294967296) ∨
    (FloatKind.f64.format.order rate 0 = some .gt ∧ p < 4294967296 ∧ ∃ y, double.mul (floatOfInt .f64 bytes) C999 = some y ∧
      ((∃ x, double.mul (floatOfInt .f64 p) rate = some x ∧ (FloatKind.f64.format.order x y = some .eq ∨ FloatKind.f64.format.order x y = some .gt)) ∨ (double.mul (floatOfInt .f64 p) rate = none ∧ y < 2 ^ 64))))

theorem zero_f : floatOfInt .f64 0 = 0 := by decide +kernel
theorem C999_lt : C999 ≤ ONEB := by decide
theorem mul_C999 {B : Nat} (hB : B < 4294967296) : double.mul (floatOfInt .f64 (B : Int)) C999 = some (mulR (ofN B) C999) ∧ mulR (ofN B) C999 < INF := by
  have h1 := ofN_lt (n := B) (by omega)
  have h2 : C999 < INF := by decide
  have h3 : mulR (ofN B) C999 ≤ ofN B := mulR_le (Nat.mul_le_mul_left _ (by rw [← RV_ONEB]; exact RV_mono C999_lt))
  rw [fx_eq B (by omega)]
  have h := mul_pos h1 h2
  rw [Nat.min_eq_left (by omega)] at h
  exact ⟨h, by omega⟩

theorem order_ge {a b : Nat} (ha : a ≤ INF) (hb : b < INF) (h : b ≤ a) : FloatKind.f64.format.order a b = some .eq ∨ FloatKind.f64.format.order a b = some .gt := by
  show double.order a b = some .eq ∨ double.order a b = some .gt
  rcases Nat.lt_or_eq_of_le ha with h1 | h1
  · rw [order_pos h1 hb]
    have h2 := RV_mono h
    rcases Nat.lt_or_eq_of_le h2 with h3 | h3
    · right
      rw [Option.some_inj, Int.compare_eq_gt]
      unfold sv; simp only [Bool.false_eq_true, if_false]; omega
    · left
      rw [Option.some_inj, Int.compare_eq_eq]
      unfold sv; simp only [Bool.false_eq_true, if_false]; omega
  · right
    subst h1
    have h2 := read_inf false
    have h3 := read_wd false hb
    rw [wd_pos] at h2 h3
    unfold Format.order
    rw [h2, h3]
    rfl

theorem mul_zero_inf : double.mul 0 (wd false INF) = none := by decide +kernel

theorem pause_ok (bytes rate : Nat) (hb : bytes < 4294967296) (hr : rate < 2 ^ 64) : PauseOk bytes rate (pauseN bytes rate) := by
  unfold PauseOk pauseN
  obtain ⟨hy, hyI⟩ := mul_C999 hb
  have hi := INF_lt
  have ho : ∀ c, FloatKind.f64.format.order rate 0 = some c → nanB rate = false := fun c h => lt_notnan hr h
  by_cases h1 : nanB rate = true
  · rw [if_pos (.inl h1)]
    exact ⟨by omega, by omega, .inl (nan_order h1 hr)⟩
  have h1' : nanB rate = false := by simpa using h1
  by_cases hg : FloatKind.f64.format.order rate 0 = some .gt
  rotate_left
  · -- not above nought
    have hp : ∀ p : Int, 0 ≤ p → p ≤ 4294967296 → PauseOk bytes rate p := by
      intro p h2 h3
      refine ⟨h2, h3, ?_⟩
      cases hc : FloatKind.f64.format.order rate 0 with
      | none => exact .inl rfl
      | some c => cases c with
        | lt => exact .inr (.inl rfl)
        | eq => exact .inr (.inr (.inl rfl))
        | gt => exact absurd hc hg
    have hge : ge0 rate = false ∨ eqB rate 0 = true := by
      cases h3 : ge0 rate with
      | false => exact .inl rfl
      | true =>
        right
        rcases ge0_cases h3 with h | h
        · exact absurd h hg
        · unfold eqB
          have : double.order rate 0 = some .eq := h
          rw [this]; rfl
    by_cases h2 : nanB rate = true ∨ (bytes : Int) = 0 ∨ gtB rate 9218868437227405311 = true
    · rw [if_pos h2]; exact hp 0 (by omega) (by omega)
    · rw [if_neg h2, if_pos hge]; exact hp _ (by omega) (by omega)
  have hge : ge0 rate = true := by
    have h : double.order rate 0 = some .gt := hg
    unfold ge0 gtB; rw [h]; rfl
  have hne : eqB rate 0 = false := by
    have h : double.order rate 0 = some .gt := hg
    unfold eqB; rw [h]; rfl
  -- without end
  have zero : gtB rate 9218868437227405311 = true ∨ (bytes : Int) = 0 → PauseOk bytes rate 0 := by
    intro h
    refine ⟨by omega, by omega, .inr (.inr (.inr (.inr ⟨hg, by omega, _, hy, ?_⟩)))⟩
    rw [zero_f]
    by_cases hinf : gtB rate 9218868437227405311 = true
    · right
      obtain ⟨_, h3, _⟩ := inf_facts hr hinf
      obtain ⟨s, k, hk, rfl⟩ := wd_cases hr
      rw [infB_wd s hk] at h3
      have hk' : k = INF := by simpa using h3
      subst hk'
      cases s
      · exact ⟨mul_zero_inf, by omega⟩
      · exfalso; revert hinf; decide
    · left
      have h0 : bytes = 0 := by
        rcases h with h | h
        · exact absurd h hinf
        · omega
      obtain ⟨hr1, hr2⟩ := rate_form hr h1' (by simpa using hinf) hge hne
      subst h0
      have hm := mul_pos (a := 0) (by decide) hr1
      have hz : mulR 0 rate = 0 := by
        have h := mulR_le (a := 0) (b := rate) (k := 0) (by
          have e : RV 0 = 0 := rfl
          rw [e]; omega)
        omega
      have hz2 : mulR (ofN 0) C999 = 0 := by decide +kernel
      rw [hz, Nat.zero_min] at hm
      exact ⟨0, hm, by rw [hz2]; left; decide +kernel⟩
  by_cases h2 : nanB rate = true ∨ (bytes : Int) = 0 ∨ gtB rate 9218868437227405311 = true
  · rw [if_pos h2]
    refine zero ?_
    rcases h2 with h | h | h
    · exact absurd h h1
    · exact .inr h
    · exact .inl h
  · rw [if_neg h2, if_neg (by rw [hge, hne]; simp)]
    have h3 : gtB rate 9218868437227405311 = false := by cases hh : gtB rate 9218868437227405311 <;> simp_all
    have hB0 : 0 < bytes := by
      rcases Nat.eq_zero_or_pos bytes with h | h
      · exact absurd (.inr (.inl (by omega))) h2
      · exact h
    obtain ⟨hr1, hr2⟩ := rate_form hr h1' h3 hge hne
    have hd := div_wd false false (ofN_lt (n := bytes) (by omega)) hr1 hr2
    have hd' : double.div (floatOfInt .f64 (bytes : Int)) rate = some (min (divR (ofN bytes) rate) INF) := by
      rw [fx_eq bytes (by omega)]; exact hd
    rw [hd']
    dsimp only
    by_cases hc : ceilN (min (divR (ofN bytes) rate) INF) < 4294967296
    · have hz : pz (min (divR (ofN bytes) rate) INF) = ceilN (min (divR (ofN bytes) rate) INF) := by unfold pz; rw [if_pos hc]
      have hl := pause_long hB0 hb hr1 hr2 hc
      rw [hz]
      generalize ceilN (min (divR (ofN bytes) rate) INF) = c at *
      refine ⟨by omega, by omega, .inr (.inr (.inr (.inr ⟨hg, by omega, _, hy, .inl ?_⟩)))⟩
      rw [fx_eq c (by omega)]
      refine ⟨_, mul_pos (ofN_lt (n := c) (by omega)) hr1, ?_⟩
      exact order_ge (Nat.min_le_right _ _) hyI (by omega)
    · have hz : pz (min (divR (ofN bytes) rate) INF) = 4294967296 := by unfold pz; rw [if_neg hc]
      rw [hz]
      exact ⟨by omega, by omega, .inr (.inr (.inr (.inl ⟨hg, by omega⟩)))⟩

end Go.Proofs.Ytpgaohmmjjgboaa
