/-
  Plain facts on quotients, on what is made whole upwards, and on a pause in least units.
-/
import Derived.Test.YtpgaohmmjjgboaaBits
namespace Go.Proofs.Ytpgaohmmjjgboaa
open Ieee Fl

theorem sig_ne {k : Nat} (h : k ≠ 0) : sig k ≠ 0 := by
  unfold sig; split <;> omega

/-- the quotient's digits and its place -/
def qmore (a b : Nat) : Nat := 54 + (sig b).log2 - (sig a).log2
def qmag (a b : Nat) : Nat := 2 * (sig a <<< qmore a b / sig b) + (sig a <<< qmore a b % sig b != 0).toNat
def qplc (a b : Nat) : Int := plc a - plc b - (qmore a b : Nat) - 1
def divR (a b : Nat) : Nat := rungN (qmag a b) (qplc a b)
theorem div_wd (s t : Bool) {a b : Nat} (ha : a < INF) (hb : b < INF) (h0 : b ≠ 0) : double.div (wd s a) (wd t b) = some (wd (s ^^ t) (min (divR a b) INF)) := by
  unfold Format.div
  rw [read_wd s ha, read_wd t hb]
  have hf : double.fractionBits + 2 = 54 := rfl
  simp only [Datum.quotient, hf, if_neg (sig_ne h0), Option.map_some, write_num]
  rfl

/-- what is made whole upwards -/
def ceilN (k : Nat) : Nat := (RV k + (ONE - 1)) / ONE

theorem whole_up (k : Nat) : Toward.up.cut false (sig k <<< (plc k).toNat) (-(plc k)).toNat = ceilN k := by
  rw [cut_up, Nat.shiftLeft_eq]
  unfold ceilN
  rw [RV_sig]
  unfold plc
  generalize sig k = m
  generalize ex k = e
  rcases Nat.le_total e 1074 with h | h
  · rw [show (-1074 + (e : Int)).toNat = 0 by omega, show (-(-1074 + (e : Int))).toNat = 1074 - e by omega, Nat.pow_zero, Nat.mul_one]
    have ho : ONE = 2 ^ (1074 - e) * 2 ^ e := two_split h
    have h1 : 0 < 2 ^ e := Nat.two_pow_pos _
    have h2 : 0 < 2 ^ (1074 - e) := Nat.two_pow_pos _
    rw [ho]
    generalize 2 ^ e = x at *
    generalize 2 ^ (1074 - e) = y at *
    have e1 : m * x + (y * x - 1) = (x - 1) + x * (m + (y - 1)) := by
      obtain ⟨z, rfl⟩ : ∃ z, y = z + 1 := ⟨y - 1, by omega⟩
      rw [Nat.add_sub_cancel, Nat.mul_add, Nat.add_mul, Nat.mul_comm x m, Nat.mul_comm x z]
      omega
    rw [Nat.mul_comm y x] at e1 ⊢
    rw [e1, ← Nat.div_div_eq_div_mul, Nat.add_mul_div_left _ _ h1, Nat.div_eq_of_lt (show x - 1 < x by omega), Nat.zero_add]
  · rw [show (-1074 + (e : Int)).toNat = e - 1074 by omega, show (-(-1074 + (e : Int))).toNat = 0 by omega, Nat.pow_zero, Nat.div_one]
    have ho : 2 ^ e = 2 ^ (e - 1074) * ONE := two_join h
    rw [ho, ← Nat.mul_assoc, Nat.add_comm (m * 2 ^ (e - 1074) * ONE), Nat.add_mul_div_right _ _ ONE_pos, Nat.div_eq_of_lt (by have := ONE_pos; omega)]
    omega

/-- a pause of a quotient's rung -/
def pz (k : Nat) : Nat := if ceilN k < 4294967296 then ceilN k else 4294967296

theorem ceil_lt {k c : Nat} : ceilN k ≤ c ↔ RV k ≤ c * ONE := by
  unfold ceilN
  have := ONE_pos
  rw [← Nat.lt_add_one_iff, Nat.div_lt_iff_lt_mul this, Nat.add_mul]
  omega

theorem RV_INF_gt : 4294967296 * ONE < RV INF := by decide +kernel
theorem two53_INF : 2 ^ 53 * ONE < RV INF := by decide +kernel

/-- what math.Ceil hands back, at a rung -/
def ceilW (k : Nat) : Nat := if k < INF then min (ofN (ceilN k)) INF else INF

theorem ceilW_small {k : Nat} (h : ceilN k ≤ 2 ^ 53) : k < INF ∧ ceilW k < INF ∧ RV (ceilW k) = ceilN k * ONE := by
  have hk : k < INF := by
    have h1 := ceil_lt.1 h
    exact RV_lt_iff.1 (Nat.lt_of_le_of_lt h1 two53_INF)
  have ho := ofN_lt h
  unfold ceilW
  rw [if_pos hk, Nat.min_eq_left (Nat.le_of_lt ho)]
  exact ⟨hk, ho, RV_ofN h⟩

theorem ceilW_great {k : Nat} (h : 4294967296 ≤ ceilN k) : ceilW k ≤ INF ∧ 4294967296 * ONE ≤ RV (ceilW k) := by
  unfold ceilW
  split
  · refine ⟨Nat.min_le_right _ _, ?_⟩
    have h1 : ofN 4294967296 ≤ ofN (ceilN k) := ofN_ge (by rw [RV_ofN (by omega)]; exact Nat.mul_le_mul_right _ h)
    have h2 : RV (ofN 4294967296) = 4294967296 * ONE := RV_ofN (by omega)
    have h3 := ofN_lt (n := 4294967296) (by omega)
    rw [← h2]
    exact RV_mono (by omega)
  · exact ⟨Nat.le_refl _, Nat.le_of_lt RV_INF_gt⟩

theorem max_bits : (4751297606875873280 : Nat) = wd false (ofN 4294967296) := by decide +kernel

theorem inf_ge : double.order (wd false INF) 4751297606875873280 = some .gt := by
  unfold Format.order
  rw [read_inf, max_bits, read_wd false (ofN_lt (by omega))]
  rfl

/-- is a word at least 2 ^ 32? -/
theorem ge_max {k : Nat} (hk : k ≤ INF) : (gtB (wd false k) 4751297606875873280 || eqB (wd false k) 4751297606875873280) = decide (4294967296 * ONE ≤ RV k) := by
  rcases Nat.lt_or_eq_of_le hk with h | h
  · have h2 : RV (ofN 4294967296) = 4294967296 * ONE := RV_ofN (by omega)
    have h3 := ofN_lt (n := 4294967296) (by omega)
    unfold gtB eqB
    rw [max_bits, ord_gt false false h h3, ord_eq false false h h3]
    unfold sv
    simp only [Bool.false_eq_true, if_false, h2]
    rw [← Bool.decide_or, decide_eq_decide]
    omega
  · subst h
    unfold gtB eqB
    rw [inf_ge, decide_eq_true (Nat.le_of_lt RV_INF_gt)]
    rfl

theorem div_pos_form {a r : Nat} (ha : a < INF) (hr : r < INF) (h0 : r ≠ 0) : ∃ k, k ≤ INF ∧ double.div (wd false a) (wd false r) = some (wd false k) :=
  ⟨_, Nat.min_le_right _ _, div_wd false false ha hr h0⟩

end Go.Proofs.Ytpgaohmmjjgboaa
