/-
  Plain facts on the words of IEEE double: a word's rung as a whole number of least units ('RV'), rounding lies between any two rungs that the exact number lies between.
-/
import Derived.Laws.FloatArith
namespace Go.Proofs.Ytpgaohmmjjgboaa.Fl
open Ieee

/-- The number of a rung, in units of 2 ^ -1074. -/
def RV (k : Nat) : Nat := if k < 2 ^ 52 then k else (2 ^ 52 + k % 2 ^ 52) * 2 ^ (k / 2 ^ 52 - 1)

theorem RV_sub {k : Nat} (h : k < 2 ^ 52) : RV k = k := by unfold RV; rw [if_pos h]

/-- The rung of exponent field 'e + 1' (or of none, 'e = 0') and significand 'm'. -/
theorem RV_mk (e m : Nat) (h1 : m ≤ 2 ^ 53) (h2 : 0 < e → 2 ^ 52 ≤ m) : RV (e * 2 ^ 52 + m) = m * 2 ^ e := by
  unfold RV
  by_cases h0 : m < 2 ^ 52
  · have he : e = 0 := by
      rcases Nat.eq_zero_or_pos e with h | h
      · exact h
      · have := h2 h; omega
    subst he
    rw [if_pos (by omega)]; simp
  · rw [if_neg (by omega)]
    by_cases hm : m < 2 ^ 53
    · have hd : (e * 2 ^ 52 + m) / 2 ^ 52 = e + 1 := by omega
      have hr : (e * 2 ^ 52 + m) % 2 ^ 52 = m - 2 ^ 52 := by omega
      rw [hd, hr, Nat.add_sub_cancel, show 2 ^ 52 + (m - 2 ^ 52) = m by omega]
    · have hm' : m = 2 ^ 53 := by omega
      subst hm'
      have hd : (e * 2 ^ 52 + 2 ^ 53) / 2 ^ 52 = e + 1 + 1 := by omega
      have hr : (e * 2 ^ 52 + 2 ^ 53) % 2 ^ 52 = 0 := by omega
      rw [hd, hr, Nat.add_sub_cancel, Nat.pow_succ]
      omega

theorem RV_lt_succ (k : Nat) : RV k < RV (k + 1) := by
  by_cases h : k + 1 < 2 ^ 52
  · rw [RV_sub h, RV_sub (by omega)]; omega
  · by_cases h0 : k < 2 ^ 52
    · have hk : k + 1 = 0 * 2 ^ 52 + 2 ^ 52 := by omega
      rw [RV_sub h0, hk, RV_mk 0 (2 ^ 52) (by omega) (by omega)]
      omega
    · obtain ⟨e, m, hm1, hm2, hk⟩ : ∃ e m, 2 ^ 52 ≤ m ∧ m < 2 ^ 53 ∧ k = e * 2 ^ 52 + m := ⟨k / 2 ^ 52 - 1, k % 2 ^ 52 + 2 ^ 52, by omega, by omega, by omega⟩
      rw [hk, Nat.add_assoc, RV_mk e m (by omega) (fun _ => hm1), RV_mk e (m + 1) (by omega) (fun _ => by omega)]
      exact Nat.mul_lt_mul_of_pos_right (by omega) (Nat.two_pow_pos _)

theorem RV_strict {a b : Nat} (h : a < b) : RV a < RV b := by
  induction b with
  | zero => omega
  | succ n ih =>
    by_cases e : a = n
    · subst e; exact RV_lt_succ a
    · exact Nat.lt_trans (ih (by omega)) (RV_lt_succ n)

theorem RV_mono {a b : Nat} (h : a ≤ b) : RV a ≤ RV b := by
  rcases Nat.lt_or_eq_of_le h with h | h
  · exact Nat.le_of_lt (RV_strict h)
  · subst h; exact Nat.le_refl _

theorem RV_lt_iff {a b : Nat} : RV a < RV b ↔ a < b :=
  ⟨fun h => by
    rcases Nat.lt_or_ge a b with h' | h'
    · exact h'
    · have := RV_mono h'; omega, RV_strict⟩

theorem RV_le_iff {a b : Nat} : RV a ≤ RV b ↔ a ≤ b :=
  ⟨fun h => by
    rcases Nat.lt_or_ge b a with h' | h'
    · have := RV_strict h'; omega
    · exact h', RV_mono⟩

theorem RV_inj {a b : Nat} (h : RV a = RV b) : a = b :=
  Nat.le_antisymm (RV_le_iff.1 (Nat.le_of_eq h)) (RV_le_iff.1 (Nat.le_of_eq h.symm))

theorem RV_dvd (k e : Nat) : (∃ m, RV k = m * 2 ^ e) ∨ RV k < 2 ^ (52 + e) := by
  by_cases h0 : k < 2 ^ 52
  · right
    rw [RV_sub h0]
    exact Nat.lt_of_lt_of_le h0 (Nat.pow_le_pow_right (by omega) (by omega))
  · have hk : RV k = (2 ^ 52 + k % 2 ^ 52) * 2 ^ (k / 2 ^ 52 - 1) := by unfold RV; rw [if_neg h0]
    by_cases he : e ≤ k / 2 ^ 52 - 1
    · left
      refine ⟨(2 ^ 52 + k % 2 ^ 52) * 2 ^ (k / 2 ^ 52 - 1 - e), ?_⟩
      rw [hk, Nat.mul_assoc, ← Nat.pow_add]
      congr 2; omega
    · right
      rw [hk]
      have h1 : 2 ^ 52 + k % 2 ^ 52 < 2 ^ 53 := by omega
      have h2 : (2 ^ 52 + k % 2 ^ 52) * 2 ^ (k / 2 ^ 52 - 1) < 2 ^ 53 * 2 ^ (k / 2 ^ 52 - 1) := Nat.mul_lt_mul_of_pos_right h1 (Nat.two_pow_pos _)
      rw [← Nat.pow_add] at h2
      exact Nat.lt_of_lt_of_le h2 (Nat.pow_le_pow_right (by omega) (by omega))

/-- Every number of at most 53 digits, times a power of two, has a rung. -/
theorem RV_rep (e : Nat) : ∀ m, m ≤ 2 ^ 53 → ∃ k, RV k = m * 2 ^ e := by
  induction e with
  | zero => intro m hm; exact ⟨0 * 2 ^ 52 + m, RV_mk 0 m hm (by omega)⟩
  | succ e ih =>
    intro m hm
    by_cases h : 2 ^ 52 ≤ m
    · exact ⟨(e + 1) * 2 ^ 52 + m, RV_mk (e + 1) m hm (fun _ => h)⟩
    · obtain ⟨k, hk⟩ := ih (2 * m) (by omega)
      exact ⟨k, by rw [hk, Nat.pow_succ]; rw [Nat.mul_comm 2 m, Nat.mul_assoc, Nat.mul_comm 2]⟩

/- ROUNDING -/
/-- what 'cut' keeps: between any two whole numbers that the quotient lies between -/
theorem cut_lo (neg : Bool) (n drop m : Nat) (h : m * 2 ^ drop ≤ n) : m ≤ Toward.even.cut neg n drop := by
  unfold Toward.cut
  dsimp only
  have hg : 0 < 1 <<< min drop (n.log2 + 2) := by rw [Nat.one_shiftLeft]; exact Nat.two_pow_pos _
  by_cases hd : drop ≤ n.log2 + 2
  · rw [Nat.min_eq_left hd, Nat.one_shiftLeft]
    have : m ≤ n / 2 ^ drop := (Nat.le_div_iff_mul_le (Nat.two_pow_pos _)).2 h
    omega
  · have hm : m = 0 := by
      rcases Nat.eq_zero_or_pos m with h0 | h0
      · exact h0
      · have h1 : 2 ^ drop ≤ n := Nat.le_trans (Nat.le_mul_of_pos_left _ h0) h
        have h2 : n < 2 ^ (n.log2 + 1) := Nat.lt_log2_self
        have h3 : 2 ^ (n.log2 + 1) ≤ 2 ^ drop := Nat.pow_le_pow_right (by omega) (by omega)
        omega
    rw [hm]; exact Nat.zero_le _

theorem cut_hi (neg : Bool) (n drop m : Nat) (h : n ≤ m * 2 ^ drop) : Toward.even.cut neg n drop ≤ m := by
  unfold Toward.cut
  dsimp only
  by_cases hd : drop ≤ n.log2 + 2
  · rw [Nat.min_eq_left hd, Nat.one_shiftLeft]
    have hp : 0 < 2 ^ drop := Nat.two_pow_pos _
    have hdm := Nat.div_add_mod n (2 ^ drop)
    have hml := Nat.mod_lt n hp
    generalize hq : n / 2 ^ drop = q at *
    generalize hr : n % 2 ^ drop = r at *
    generalize 2 ^ drop = g at *
    by_cases hr0 : r = 0
    · subst hr0
      have hqm : q ≤ m := by
        rw [Nat.add_zero, Nat.mul_comm] at hdm
        rw [← hdm] at h
        exact Nat.le_of_mul_le_mul_right h hp
      have h1 : decide (g < 2 * 0) = false := by simp
      have h2 : (g == 2 * 0) = false := by rw [beq_eq_false_iff_ne]; omega
      rw [h1, h2]; simpa using hqm
    · have hqm : q < m := by
        refine Nat.lt_of_mul_lt_mul_right (a := g) ?_
        rw [Nat.mul_comm] at hdm
        omega
      have : ∀ b : Bool, b.toNat ≤ 1 := fun b => by cases b <;> decide
      have := this (decide (g < 2 * r) || g == 2 * r && q % 2 == 1)
      omega
  · have hlt : n < 2 ^ (n.log2 + 1) := Nat.lt_log2_self
    rw [Nat.min_eq_right (by omega), Nat.one_shiftLeft]
    have hp : 2 ^ (n.log2 + 2) = 2 * 2 ^ (n.log2 + 1) := by rw [Nat.pow_succ]; omega
    rw [Nat.div_eq_of_lt (by omega), Nat.mod_eq_of_lt (by omega)]
    have h1 : decide (2 ^ (n.log2 + 2) < 2 * n) = false := by simp; omega
    have h2 : (2 ^ (n.log2 + 2) == 2 * n) = false := by rw [beq_eq_false_iff_ne]; omega
    rw [h1, h2]; simp

/-- the place of the last digit that is kept, above the least -/
def lastUp (mag : Nat) (place : Int) : Nat := (max (place + mag.log2 - 52) (-1074) + 1074).toNat
def kept (mag : Nat) (place : Int) : Nat := Toward.even.cut false (mag <<< (place - ((lastUp mag place : Int) - 1074)).toNat) (((lastUp mag place : Int) - 1074) - place).toNat
/-- the rung of 'mag * 2 ^ place', rounded; past infinity's it goes on -/
def rungN (mag : Nat) (place : Int) : Nat := if mag = 0 then 0 else lastUp mag place * 2 ^ 52 + kept mag place

theorem cut_neg (neg : Bool) (n drop : Nat) : Toward.even.cut neg n drop = Toward.even.cut false n drop := rfl

theorem nearest_eq (neg : Bool) (mag : Nat) (place : Int) : double.nearest neg mag place = double.word neg (min (rungN mag place) double.infRung) := by
  unfold Format.nearest rungN
  by_cases h : mag = 0
  · rw [if_pos h, if_pos h]; rfl
  · rw [if_neg h, if_neg h]
    have hl : double.leastPlace = -1074 := by decide
    have hb : double.binade = 2 ^ 52 := rfl
    have hf : (double.fractionBits : Int) = 52 := rfl
    have hlast : (lastUp mag place : Int) = max (place + mag.log2 - 52) (-1074) + 1074 := by unfold lastUp; omega
    dsimp only
    rw [hl, hb, hf, cut_neg]
    unfold kept
    have e1 : (lastUp mag place : Int) - 1074 = max (place + mag.log2 - 52) (-1074) := by omega
    rw [e1]
    have e2 : (max (place + ↑mag.log2 - 52) (-1074) - (-1074)).toNat = lastUp mag place := by unfold lastUp; congr 1
    rw [e2]

section
variable {mag : Nat} {place : Int} {s : Nat}

/-- the exact number, in units of 2 ^ -(1074 + s) -/
def Exact (mag : Nat) (place : Int) (s : Nat) : Nat := mag * 2 ^ (place + 1074 + s).toNat

theorem kept_lo (hs : 0 ≤ place + 1074 + s) (m : Nat) (h : m * 2 ^ (lastUp mag place + s) ≤ Exact mag place s) : m ≤ kept mag place := by
  unfold kept Exact at *
  refine cut_lo _ _ _ _ ?_
  rw [Nat.shiftLeft_eq]
  obtain ⟨a, ha⟩ : ∃ a : Nat, (a : Int) = place + 1074 + s := ⟨(place + 1074 + s).toNat, by omega⟩
  rw [show (place + 1074 + (s : Int)).toNat = a by omega] at h
  generalize lastUp mag place = e at *
  rcases Nat.le_total a (e + s) with hc | hc
  · rw [show (place - ((e : Int) - 1074)).toNat = 0 by omega, show (((e : Int) - 1074) - place).toNat = e + s - a by omega, Nat.pow_zero, Nat.mul_one]
    refine Nat.le_of_mul_le_mul_right (c := 2 ^ a) ?_ (Nat.two_pow_pos _)
    rw [Nat.mul_assoc, ← Nat.pow_add, Nat.sub_add_cancel hc]
    exact h
  · rw [show (place - ((e : Int) - 1074)).toNat = a - (e + s) by omega, show (((e : Int) - 1074) - place).toNat = 0 by omega, Nat.pow_zero, Nat.mul_one]
    refine Nat.le_of_mul_le_mul_right (c := 2 ^ (e + s)) ?_ (Nat.two_pow_pos _)
    rw [Nat.mul_assoc, ← Nat.pow_add, Nat.sub_add_cancel hc]
    exact h

theorem kept_hi (hs : 0 ≤ place + 1074 + s) (m : Nat) (h : Exact mag place s ≤ m * 2 ^ (lastUp mag place + s)) : kept mag place ≤ m := by
  unfold kept Exact at *
  refine cut_hi _ _ _ _ ?_
  rw [Nat.shiftLeft_eq]
  obtain ⟨a, ha⟩ : ∃ a : Nat, (a : Int) = place + 1074 + s := ⟨(place + 1074 + s).toNat, by omega⟩
  rw [show (place + 1074 + (s : Int)).toNat = a by omega] at h
  generalize lastUp mag place = e at *
  rcases Nat.le_total a (e + s) with hc | hc
  · rw [show (place - ((e : Int) - 1074)).toNat = 0 by omega, show (((e : Int) - 1074) - place).toNat = e + s - a by omega, Nat.pow_zero, Nat.mul_one]
    refine Nat.le_of_mul_le_mul_right (c := 2 ^ a) ?_ (Nat.two_pow_pos _)
    rw [Nat.mul_assoc, ← Nat.pow_add, Nat.sub_add_cancel hc]
    exact h
  · rw [show (place - ((e : Int) - 1074)).toNat = a - (e + s) by omega, show (((e : Int) - 1074) - place).toNat = 0 by omega, Nat.pow_zero, Nat.mul_one]
    refine Nat.le_of_mul_le_mul_right (c := 2 ^ (e + s)) ?_ (Nat.two_pow_pos _)
    rw [Nat.mul_assoc, ← Nat.pow_add, Nat.sub_add_cancel hc]
    exact h

/-- an exact number whose last kept digit lies above the least fills its significand -/
theorem exact_ge (h0 : mag ≠ 0) (hs : 0 ≤ place + 1074 + s) (he : 0 < lastUp mag place) : 2 ^ (52 + (lastUp mag place + s)) ≤ Exact mag place s := by
  unfold Exact
  have hl : 2 ^ mag.log2 ≤ mag := Nat.log2_self_le h0
  have hle : (lastUp mag place : Int) = place + mag.log2 - 52 + 1074 := by unfold lastUp at *; omega
  have : 52 + (lastUp mag place + s) = mag.log2 + (place + 1074 + s).toNat := by omega
  rw [this, Nat.pow_add]
  exact Nat.mul_le_mul_right _ hl

theorem exact_lt (hs : 0 ≤ place + 1074 + s) : Exact mag place s < 2 ^ (53 + (lastUp mag place + s)) := by
  unfold Exact
  have hl : mag < 2 ^ (mag.log2 + 1) := Nat.lt_log2_self
  have hle : place + mag.log2 - 52 + 1074 ≤ (lastUp mag place : Int) := by unfold lastUp; omega
  have h1 : mag * 2 ^ (place + 1074 + s).toNat < 2 ^ (mag.log2 + 1) * 2 ^ (place + 1074 + s).toNat := Nat.mul_lt_mul_of_pos_right hl (Nat.two_pow_pos _)
  rw [← Nat.pow_add] at h1
  exact Nat.lt_of_lt_of_le h1 (Nat.pow_le_pow_right (by omega) (by omega))

theorem kept_le : kept mag place ≤ 2 ^ 53 := by
  have hs : 0 ≤ place + 1074 + ((-(place + 1074)).toNat : Int) := by omega
  refine kept_hi hs _ ?_
  have := exact_lt (mag := mag) (s := (-(place + 1074)).toNat) hs
  rw [Nat.pow_add] at this
  omega

theorem kept_ge (h0 : mag ≠ 0) (he : 0 < lastUp mag place) : 2 ^ 52 ≤ kept mag place := by
  have hs : 0 ≤ place + 1074 + ((-(place + 1074)).toNat : Int) := by omega
  refine kept_lo hs _ ?_
  have := exact_ge (s := (-(place + 1074)).toNat) h0 hs he
  rwa [Nat.pow_add] at this

theorem RV_rungN (h0 : mag ≠ 0) : RV (rungN mag place) = kept mag place * 2 ^ lastUp mag place := by
  unfold rungN
  rw [if_neg h0]
  exact RV_mk _ _ kept_le (fun he => kept_ge h0 he)

/-- ROUNDING IS MONOTONE, upwards: what is at most a rung's number is rounded to at most that rung. -/
theorem rung_le (hs : 0 ≤ place + 1074 + s) (k : Nat) (h : Exact mag place s ≤ RV k * 2 ^ s) : rungN mag place ≤ k := by
  by_cases h0 : mag = 0
  · unfold rungN; rw [if_pos h0]; omega
  rcases Nat.lt_or_ge k (rungN mag place) with hlt | hge
  rotate_left
  · exact hge
  exfalso
  have h1 := RV_strict hlt
  rw [RV_rungN h0] at h1
  rcases RV_dvd k (lastUp mag place) with ⟨m, hm⟩ | hm
  · have h2 : kept mag place ≤ m := by
      refine kept_hi hs _ ?_
      rw [hm, Nat.mul_assoc, ← Nat.pow_add] at h
      exact h
    have := Nat.mul_le_mul_right (2 ^ lastUp mag place) h2
    omega
  · rcases Nat.eq_zero_or_pos (lastUp mag place) with he | he
    · have h2 : kept mag place ≤ RV k := by
        refine kept_hi hs _ ?_
        rw [he, Nat.zero_add]; exact h
      rw [he] at h1
      omega
    · have h2 := exact_ge h0 hs he
      have h3 : RV k * 2 ^ s < 2 ^ (52 + lastUp mag place) * 2 ^ s := Nat.mul_lt_mul_of_pos_right hm (Nat.two_pow_pos _)
      rw [← Nat.pow_add] at h3
      rw [show 52 + (lastUp mag place + s) = 52 + lastUp mag place + s by omega] at h2
      omega

theorem rung_ge (hs : 0 ≤ place + 1074 + s) (k : Nat) (h : RV k * 2 ^ s ≤ Exact mag place s) : k ≤ rungN mag place := by
  by_cases h0 : mag = 0
  · unfold Exact at h
    rw [h0, Nat.zero_mul] at h
    have h1 : RV k = 0 := by
      rcases Nat.eq_zero_or_pos (RV k) with h | h'
      · exact h
      · have := Nat.mul_pos h' (Nat.two_pow_pos s); omega
    have : RV k = RV 0 := by rw [h1]; rfl
    have := RV_inj this
    omega
  rcases Nat.lt_or_ge (rungN mag place) k with hlt | hge
  rotate_left
  · exact hge
  exfalso
  have h1 := RV_strict hlt
  rw [RV_rungN h0] at h1
  rcases RV_dvd k (lastUp mag place) with ⟨m, hm⟩ | hm
  · have h2 : m ≤ kept mag place := by
      refine kept_lo hs _ ?_
      rw [hm, Nat.mul_assoc, ← Nat.pow_add] at h
      exact h
    have := Nat.mul_le_mul_right (2 ^ lastUp mag place) h2
    omega
  · rcases Nat.eq_zero_or_pos (lastUp mag place) with he | he
    · have h2 : RV k ≤ kept mag place := by
        refine kept_lo hs _ ?_
        rw [he, Nat.zero_add]; exact h
      rw [he] at h1
      omega
    · have h2 := kept_ge h0 he
      have h3 := Nat.mul_le_mul_right (2 ^ lastUp mag place) h2
      rw [← Nat.pow_add] at h3
      omega

/-- A rung's number is rounded to that rung. -/
theorem rung_eq (hs : 0 ≤ place + 1074 + s) (k : Nat) (h : Exact mag place s = RV k * 2 ^ s) : rungN mag place = k :=
  Nat.le_antisymm (rung_le hs k (Nat.le_of_eq h)) (rung_ge hs k (Nat.le_of_eq h.symm))
end

end Go.Proofs.Ytpgaohmmjjgboaa.Fl
