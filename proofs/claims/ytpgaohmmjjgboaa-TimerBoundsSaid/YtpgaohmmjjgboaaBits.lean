/-
  Plain facts on the words of IEEE double: every word is a sign and a rung; which are NaNs and infinities; what the comparisons say.
-/
import Derived.Test.YtpgaohmmjjgboaaFloatOps
import Derived.Laws.BitsAllLaws
namespace Go.Proofs.Ytpgaohmmjjgboaa
open Ieee Fl

/-- is it a NaN? -/
def nanB (b : Nat) : Bool := double.order b b != some .eq
/-- the absolute value's bits -/
def absB (b : Nat) : Nat := b % 2 ^ 63
def infB (b : Nat) : Bool := double.order (absB b) 9218868437227405311 == some .gt
def ltB (a b : Nat) : Bool := double.order a b == some .lt
def eqB (a b : Nat) : Bool := double.order a b == some .eq
def gtB (a b : Nat) : Bool := double.order a b == some .gt
/-- what an operation hands back: its bits, or some NaN -/
def FV (o : Option Nat) (r : Nat) : Prop := match o with
  | some v => r = v
  | none => nanB r = true

theorem wd_cases {x : Nat} (hx : x < 2 ^ 64) : ∃ s k, k < 2 ^ 63 ∧ x = wd s k := by
  by_cases h : x < 2 ^ 63
  · exact ⟨false, x, h, rfl⟩
  · exact ⟨true, x - 2 ^ 63, by omega, by rw [wd_neg]; omega⟩

theorem wd_lt (s : Bool) {k : Nat} (h : k < 2 ^ 63) : wd s k < 2 ^ 64 := by
  cases s
  · rw [wd_pos]; omega
  · rw [wd_neg]; omega

theorem INF_lt : INF < 2 ^ 63 := by decide

theorem read_nan (s : Bool) {k : Nat} (hk : INF < k) (hk2 : k < 2 ^ 63) : double.read (wd s k) = .nan s (k - INF) := by
  have hs : double.signWeight = 2 ^ 63 := by decide
  have hb : double.binade = 2 ^ 52 := rfl
  have hi : INF = 9218868437227405312 := by decide
  have h1 : wd s k / 2 ^ 63 % 2 = s.toNat := by cases s <;> simp only [wd_pos, wd_neg, Bool.toNat_false, Bool.toNat_true] <;> omega
  have h2 : wd s k % 2 ^ 63 = k := by cases s <;> simp only [wd_pos, wd_neg] <;> omega
  unfold Format.read
  simp only [hs, h1, h2, hb, inf_eq]
  have h3 : (s.toNat == 1) = s := by cases s <;> rfl
  rw [h3, if_neg (by omega), if_neg (by omega), if_neg (by omega)]

theorem cmp_self (a : Int) : compare a a = .eq := by simp [compare, compareOfLessAndEq]

theorem absB_wd (s : Bool) {k : Nat} (hk : k < 2 ^ 63) : absB (wd s k) = wd false k := by
  unfold absB
  cases s
  · rw [wd_pos]; omega
  · rw [wd_neg, wd_pos]; omega

theorem nan_order {x y : Nat} (h : nanB x = true) (hx : x < 2 ^ 64) : double.order x y = none := by
  obtain ⟨s, k, hk, rfl⟩ := wd_cases hx
  have h0 : INF < k := by
    rcases Nat.lt_trichotomy k INF with h1 | h1 | h1
    · exfalso; unfold nanB at h; rw [order_wd s s h1 h1, cmp_self] at h; simp at h
    · exfalso; subst h1; unfold nanB Format.order at h; rw [read_inf] at h; revert h; cases s <;> decide
    · exact h1
  unfold Format.order
  rw [read_nan s h0 hk]
  rfl

theorem nanB_wd (s : Bool) {k : Nat} (hk : k < 2 ^ 63) : nanB (wd s k) = decide (INF < k) := by
  rcases Nat.lt_trichotomy k INF with h1 | h1 | h1
  · unfold nanB
    rw [order_wd s s h1 h1, cmp_self, decide_eq_false (by omega)]; rfl
  · subst h1
    unfold nanB Format.order
    rw [read_inf]
    cases s <;> decide
  · rw [decide_eq_true h1]
    unfold nanB Format.order
    rw [read_nan s h1 hk]; rfl

theorem order_none {x y : Nat} (hx : x < 2 ^ 64) (hy : y < 2 ^ 64) (h : double.order x y = none) : nanB x = true ∨ nanB y = true := by
  obtain ⟨s, k, hk, rfl⟩ := wd_cases hx
  obtain ⟨t, l, hl, rfl⟩ := wd_cases hy
  rw [nanB_wd s hk, nanB_wd t hl, decide_eq_true_iff, decide_eq_true_iff]
  rcases Nat.lt_trichotomy k INF with h1 | h1 | h1
  · rcases Nat.lt_trichotomy l INF with h2 | h2 | h2
    · rw [order_wd s t h1 h2] at h; cases h
    · subst h2; unfold Format.order at h; rw [read_wd s h1, read_inf] at h; cases h
    · exact .inr h2
  · rcases Nat.lt_trichotomy l INF with h2 | h2 | h2
    · subst h1; unfold Format.order at h; rw [read_wd t h2, read_inf] at h; cases h
    · subst h1; subst h2; unfold Format.order at h; rw [read_inf, read_inf] at h; cases h
    · exact .inr h2
  · exact .inl h1

theorem maxf_eq : (9218868437227405311 : Nat) = wd false (INF - 1) := by decide

theorem infB_wd (s : Bool) {k : Nat} (hk : k < 2 ^ 63) : infB (wd s k) = decide (k = INF) := by
  unfold infB
  rw [absB_wd s hk, maxf_eq]
  have h0 : INF - 1 < INF := by decide
  rcases Nat.lt_trichotomy k INF with h1 | h1 | h1
  · rw [ord_gt false false h1 h0, decide_eq_decide]
    unfold sv
    simp only [Bool.false_eq_true, if_false]
    have := RV_mono (show k ≤ INF - 1 by omega)
    omega
  · subst h1
    unfold Format.order
    rw [read_inf, read_wd false h0]
    decide
  · rw [decide_eq_false (by omega)]
    unfold Format.order
    rw [read_nan false h1 hk]; rfl

theorem andNot_top (b : Nat) (hb : b < 2 ^ 64) : bits .andNot .u64 (b : Int) 9223372036854775808 = (absB b : Int) := by
  have h := u64_andNot_nat b 9223372036854775808 (by omega) (by omega)
  have e : ((9223372036854775808 : Nat) : Int) = 9223372036854775808 := rfl
  rw [e] at h
  rw [h]
  unfold absB
  rw [show (18446744073709551615 - 9223372036854775808 : Nat) = 2 ^ 63 - 1 by omega, Nat.and_two_pow_sub_one_eq_mod]

/-- one's bits -/
def ONEB : Nat := 4607182418800017408
def ge0 (w : Nat) : Bool := gtB w 0 || eqB w 0
def le1 (w : Nat) : Bool := ltB w ONEB || eqB w ONEB

/- OPERATIONS THAT ARE VALID, OR HAND BACK SOME NaN -/
theorem sub_self (s : Bool) {k : Nat} (hk : k < INF) : double.sub (wd s k) (wd s k) = some 0 := by
  unfold Format.sub
  rw [read_wd s hk]
  simp only [Datum.opposite, Datum.sum, signed, Int.min_self, Int.sub_self, Int.toNat_zero, Nat.shiftLeft_zero]
  cases s <;> simp [write_num, rungN, wd_pos, Int.add_right_neg, Int.add_left_neg]

theorem sub_inf (s : Bool) : double.sub (wd s INF) (wd s INF) = none := by
  unfold Format.sub
  rw [read_inf]
  cases s <;> rfl

theorem prod_form {x y d : Datum} (h : Datum.product x y = some d) : (∃ s m p, d = .number s m p) ∨ ∃ s, d = .infinity s := by
  cases x <;> cases y <;> simp only [Datum.product] at h
  all_goals first
    | (cases h; done)
    | (simp only [Option.some.injEq] at h; subst h; first | exact .inl ⟨_, _, _, rfl⟩ | exact .inr ⟨_, rfl⟩)
    | (split at h
       · cases h
       · simp only [Option.some.injEq] at h; subst h; exact .inr ⟨_, rfl⟩)

theorem mul_form {x y a : Nat} (h : double.mul x y = some a) : ∃ z k, k ≤ INF ∧ a = wd z k := by
  unfold Format.mul at h
  cases hd : Datum.product (double.read x) (double.read y) with
  | none => rw [hd] at h; cases h
  | some d =>
    rw [hd] at h
    simp only [Option.map_some, Option.some.injEq] at h
    rcases prod_form hd with ⟨s, m, p, rfl⟩ | ⟨s, rfl⟩
    · rw [write_num] at h
      exact ⟨s, _, Nat.min_le_right _ _, h.symm⟩
    · exact ⟨s, INF, Nat.le_refl _, h.symm.trans (by show double.word s double.infRung = _; rw [inf_eq]; rfl)⟩

theorem add_valid {a b : Nat} (ha : ∃ z k, k ≤ INF ∧ a = wd z k) (hb : ∃ z k, k < INF ∧ b = wd z k) : ∃ r, double.add a b = some r := by
  obtain ⟨z, k, hk, rfl⟩ := ha
  obtain ⟨y, l, hl, rfl⟩ := hb
  unfold Format.add
  rw [read_wd y hl]
  rcases Nat.lt_or_eq_of_le hk with h | h
  · rw [read_wd z h]; exact ⟨_, rfl⟩
  · subst h; rw [read_inf]; exact ⟨_, rfl⟩

end Go.Proofs.Ytpgaohmmjjgboaa
