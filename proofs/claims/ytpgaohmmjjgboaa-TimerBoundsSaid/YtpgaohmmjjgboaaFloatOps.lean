/-
  Plain facts on the operations of IEEE double: what sum, product, order, the way to a whole number give, in least units.
-/
import Derived.Test.YtpgaohmmjjgboaaFloat
namespace Go.Proofs.Ytpgaohmmjjgboaa.Fl
open Ieee

/-- one, in least units -/
def two (n : Nat) : Nat := 2 ^ n
theorem two_eq (n : Nat) : two n = 2 ^ n := rfl
def ONE : Nat := two 1074
theorem ONE_eq : ONE = 2 ^ 1074 := two_eq 1074
theorem two_pos (n : Nat) : 0 < two n := Nat.two_pow_pos n
theorem two_split {a e : Nat} (h : e ≤ a) : two a = 2 ^ (a - e) * 2 ^ e := by rw [two_eq, ← Nat.pow_add, Nat.sub_add_cancel h]
theorem two_join {a e : Nat} (h : a ≤ e) : 2 ^ e = 2 ^ (e - a) * two a := by rw [two_eq, ← Nat.pow_add, Nat.sub_add_cancel h]
theorem ONE_pos : 0 < ONE := two_pos 1074
/-- infinity's rung -/
def INF : Nat := 2047 * 2 ^ 52
theorem inf_eq : double.infRung = INF := by decide +kernel
/-- a word's significand and place -/
def sig (k : Nat) : Nat := if k < 2 ^ 52 then k else 2 ^ 52 + k % 2 ^ 52
def ex (k : Nat) : Nat := k / 2 ^ 52 - 1
def plc (k : Nat) : Int := -1074 + (ex k : Nat)

theorem RV_sig (k : Nat) : RV k = sig k * 2 ^ ex k := by
  unfold RV sig ex
  by_cases h : k < 2 ^ 52
  · rw [if_pos h, if_pos h, show k / 2 ^ 52 - 1 = 0 by omega]; simp
  · rw [if_neg h, if_neg h]

/-- the word of a sign and a rung -/
def wd (s : Bool) (k : Nat) : Nat := double.word s k
theorem wd_pos (k : Nat) : wd false k = k := rfl
theorem wd_neg (k : Nat) : wd true k = 2 ^ 63 + k := rfl

theorem read_wd (s : Bool) {k : Nat} (hk : k < INF) : double.read (wd s k) = .number s (sig k) (plc k) := by
  have hi : INF < 2 ^ 63 := by decide
  have hs : double.signWeight = 2 ^ 63 := by decide
  have hl : double.leastPlace = -1074 := by decide
  have hb : double.binade = 2 ^ 52 := rfl
  have h1 : wd s k / 2 ^ 63 % 2 = s.toNat := by cases s <;> simp only [wd_pos, wd_neg, Bool.toNat_false, Bool.toNat_true] <;> omega
  have h2 : wd s k % 2 ^ 63 = k := by cases s <;> simp only [wd_pos, wd_neg] <;> omega
  unfold Format.read
  simp only [hs, h1, h2, hb, hl, inf_eq]
  have h3 : (s.toNat == 1) = s := by cases s <;> rfl
  rw [h3]
  unfold sig plc ex
  by_cases h : k < 2 ^ 52
  · rw [if_pos h, if_pos h]; congr 1; omega
  · rw [if_neg h, if_neg h, if_pos hk]

theorem read_inf (s : Bool) : double.read (wd s INF) = .infinity s := by cases s <;> decide +kernel

theorem write_num (s : Bool) (m : Nat) (p : Int) : double.write (.number s m p) = wd s (min (rungN m p) INF) := by
  show double.nearest s m p = _
  rw [nearest_eq, inf_eq]; rfl

theorem exact_prod (a b : Nat) : Exact (sig a * sig b) (plc a + plc b) 1074 = RV a * RV b := by
  unfold Exact plc
  rw [show (-1074 + (ex a : Int) + (-1074 + (ex b : Int)) + 1074 + ((1074 : Nat) : Int)).toNat = ex a + ex b by omega, Nat.pow_add, RV_sig a, RV_sig b]
  ac_rfl

/-- the product's rung -/
def mulR (a b : Nat) : Nat := rungN (sig a * sig b) (plc a + plc b)
theorem mul_wd (s t : Bool) {a b : Nat} (ha : a < INF) (hb : b < INF) : double.mul (wd s a) (wd t b) = some (wd (s ^^ t) (min (mulR a b) INF)) := by
  unfold Format.mul
  rw [read_wd s ha, read_wd t hb]
  simp only [Datum.product, Option.map_some, write_num]
  rfl
theorem mul_pos {a b : Nat} (ha : a < INF) (hb : b < INF) : double.mul a b = some (min (mulR a b) INF) := mul_wd false false ha hb
theorem mulR_le {a b k : Nat} (h : RV a * RV b ≤ RV k * ONE) : mulR a b ≤ k := by
  refine rung_le (s := 1074) ?_ k ?_
  · unfold plc; omega
  · rw [exact_prod, ← ONE_eq]; exact h
theorem mulR_ge {a b k : Nat} (h : RV k * ONE ≤ RV a * RV b) : k ≤ mulR a b := by
  refine rung_ge (s := 1074) ?_ k ?_
  · unfold plc; omega
  · rw [exact_prod, ← ONE_eq]; exact h

theorem plc_min (a b : Nat) : min (plc a) (plc b) = -1074 + (min (ex a) (ex b) : Nat) := by unfold plc; omega

/-- the sum's rung, and the difference's -/
def addR (a b : Nat) : Nat := rungN (sig a * 2 ^ (ex a - min (ex a) (ex b)) + sig b * 2 ^ (ex b - min (ex a) (ex b))) (min (plc a) (plc b))
def dif (a b : Nat) : Nat := (a - b) + (b - a)
def subR (a b : Nat) : Nat := rungN (dif (sig a * 2 ^ (ex a - min (ex a) (ex b))) (sig b * 2 ^ (ex b - min (ex a) (ex b)))) (min (plc a) (plc b))

theorem part (a b : Nat) : sig a * 2 ^ (ex a - min (ex a) (ex b)) * 2 ^ min (ex a) (ex b) = RV a := by
  rw [Nat.mul_assoc, ← Nat.pow_add, Nat.sub_add_cancel (Nat.min_le_left _ _), RV_sig]
theorem part' (a b : Nat) : sig b * 2 ^ (ex b - min (ex a) (ex b)) * 2 ^ min (ex a) (ex b) = RV b := by
  rw [Nat.mul_assoc, ← Nat.pow_add, Nat.sub_add_cancel (Nat.min_le_right _ _), RV_sig]

theorem exact_sum (a b : Nat) : Exact (sig a * 2 ^ (ex a - min (ex a) (ex b)) + sig b * 2 ^ (ex b - min (ex a) (ex b))) (min (plc a) (plc b)) 0 = RV a + RV b := by
  unfold Exact
  rw [plc_min, show (-1074 + ((min (ex a) (ex b) : Nat) : Int) + 1074 + ((0 : Nat) : Int)).toNat = min (ex a) (ex b) by omega, Nat.add_mul, part, part']
theorem exact_dif (a b : Nat) : Exact (dif (sig a * 2 ^ (ex a - min (ex a) (ex b))) (sig b * 2 ^ (ex b - min (ex a) (ex b)))) (min (plc a) (plc b)) 0 = dif (RV a) (RV b) := by
  unfold Exact dif
  rw [plc_min, show (-1074 + ((min (ex a) (ex b) : Nat) : Int) + 1074 + ((0 : Nat) : Int)).toNat = min (ex a) (ex b) by omega, Nat.add_mul, Nat.sub_mul, Nat.sub_mul, part, part']

theorem addR_le {a b k : Nat} (h : RV a + RV b ≤ RV k) : addR a b ≤ k := by
  refine rung_le (s := 0) ?_ k ?_
  · rw [plc_min]; omega
  · rw [exact_sum]; simpa using h
theorem addR_ge {a b k : Nat} (h : RV k ≤ RV a + RV b) : k ≤ addR a b := by
  refine rung_ge (s := 0) ?_ k ?_
  · rw [plc_min]; omega
  · rw [exact_sum]; simpa using h
theorem subR_le {a b k : Nat} (h : dif (RV a) (RV b) ≤ RV k) : subR a b ≤ k := by
  refine rung_le (s := 0) ?_ k ?_
  · rw [plc_min]; omega
  · rw [exact_dif]; simpa using h
theorem subR_ge {a b k : Nat} (h : RV k ≤ dif (RV a) (RV b)) : k ≤ subR a b := by
  refine rung_ge (s := 0) ?_ k ?_
  · rw [plc_min]; omega
  · rw [exact_dif]; simpa using h

theorem up_part (a b : Nat) : (plc a - min (plc a) (plc b)).toNat = ex a - min (ex a) (ex b) := by rw [plc_min]; unfold plc; omega
theorem up_part' (a b : Nat) : (plc b - min (plc a) (plc b)).toNat = ex b - min (ex a) (ex b) := by rw [plc_min]; unfold plc; omega

theorem add_wd {a b : Nat} (ha : a < INF) (hb : b < INF) : double.add (wd false a) (wd false b) = some (wd false (min (addR a b) INF)) := by
  unfold Format.add
  rw [read_wd false ha, read_wd false hb]
  simp only [Datum.sum, signed, up_part, up_part', Nat.shiftLeft_eq, Bool.false_eq_true, if_false, Option.map_some, write_num, Bool.and_self]
  have e : ((sig a * 2 ^ (ex a - min (ex a) (ex b)) : Nat) : Int) + ((sig b * 2 ^ (ex b - min (ex a) (ex b)) : Nat) : Int) = ((sig a * 2 ^ (ex a - min (ex a) (ex b)) + sig b * 2 ^ (ex b - min (ex a) (ex b)) : Nat) : Int) := by omega
  rw [e]
  generalize hn : sig a * 2 ^ (ex a - min (ex a) (ex b)) + sig b * 2 ^ (ex b - min (ex a) (ex b)) = n
  have e2 : (if (n : Int) = 0 then false else decide ((n : Int) < 0)) = false := by split <;> simp
  rw [e2, Int.natAbs_natCast]
  unfold addR
  rw [hn]

theorem sub_wd {a b : Nat} (ha : a < INF) (hb : b < INF) : double.sub (wd false a) (wd false b) = some (wd (decide (RV a < RV b)) (min (subR a b) INF)) := by
  unfold Format.sub
  rw [read_wd false ha, read_wd false hb]
  simp only [Datum.opposite, Bool.not_false, Datum.sum, signed, up_part, up_part', Nat.shiftLeft_eq, Bool.false_eq_true, if_false, if_true, Option.map_some, write_num, Bool.false_and]
  have hlt : (sig a * 2 ^ (ex a - min (ex a) (ex b)) < sig b * 2 ^ (ex b - min (ex a) (ex b))) ↔ RV a < RV b := by
    rw [← part a b, ← part' a b]
    exact (Nat.mul_lt_mul_right (Nat.two_pow_pos _)).symm
  unfold subR
  generalize sig a * 2 ^ (ex a - min (ex a) (ex b)) = m at *
  generalize sig b * 2 ^ (ex b - min (ex a) (ex b)) = n at *
  have e1 : ((m : Int) + -(n : Int)).natAbs = dif m n := by unfold dif; omega
  have e2 : (if (m : Int) + -(n : Int) = 0 then false else decide ((m : Int) + -(n : Int) < 0)) = decide (RV a < RV b) := by
    by_cases hc : m < n
    · rw [decide_eq_true (hlt.1 hc), if_neg (by omega)]; simp; omega
    · rw [decide_eq_false (fun h => hc (hlt.2 h))]; split <;> simp; omega
  rw [e1, e2]

theorem add_pos {a b : Nat} (ha : a < INF) (hb : b < INF) : double.add a b = some (min (addR a b) INF) := add_wd ha hb
theorem sub_pos {a b : Nat} (ha : a < INF) (hb : b < INF) (h : b ≤ a) : double.sub a b = some (min (subR a b) INF) := by
  have h1 := sub_wd ha hb
  have hd : decide (RV a < RV b) = false := by have := RV_mono h; simp; omega
  rw [hd] at h1
  exact h1

/- ORDER -/
/-- a word's number, signed -/
def sv (s : Bool) (k : Nat) : Int := if s then -(RV k : Int) else (RV k : Int)

theorem compare_scale (a b : Int) (c : Nat) (hc : 0 < c) : compare (a * (c : Int)) (b * (c : Int)) = compare a b := by
  have hc' : (0 : Int) < c := by omega
  simp only [compare, compareOfLessAndEq]
  have h1 : (a * (c : Int) < b * (c : Int)) ↔ a < b := ⟨fun h => Int.lt_of_mul_lt_mul_right h (Int.le_of_lt hc'), fun h => Int.mul_lt_mul_of_pos_right h hc'⟩
  have h2 : (a * (c : Int) = b * (c : Int)) ↔ a = b := ⟨fun h => Int.eq_of_mul_eq_mul_right (by omega) h, fun h => by rw [h]⟩
  simp only [h1, h2]

theorem order_wd (s t : Bool) {a b : Nat} (ha : a < INF) (hb : b < INF) : double.order (wd s a) (wd t b) = some (compare (sv s a) (sv t b)) := by
  unfold Format.order
  rw [read_wd s ha, read_wd t hb]
  simp only [Datum.order, up_part, up_part']
  congr 1
  rw [← compare_scale _ _ (2 ^ min (ex a) (ex b)) (Nat.two_pow_pos _)]
  have key : ∀ (s : Bool) (x : Nat) (m e : Nat), m * 2 ^ e * 2 ^ min (ex a) (ex b) = RV x → signed s m e * ((2 ^ min (ex a) (ex b) : Nat) : Int) = sv s x := by
    intro s x m e h
    unfold signed sv
    rw [Nat.shiftLeft_eq]
    cases s
    · simp only [Bool.false_eq_true, if_false]; rw [← Int.natCast_mul, h]
    · simp only [if_true]; rw [Int.neg_mul, ← Int.natCast_mul, h]
  rw [key s a _ _ (part a b), key t b _ _ (part' a b)]

theorem order_pos {a b : Nat} (ha : a < INF) (hb : b < INF) : double.order a b = some (compare (sv false a) (sv false b)) := order_wd false false ha hb

theorem ord_lt (s t : Bool) {a b : Nat} (ha : a < INF) (hb : b < INF) : (double.order (wd s a) (wd t b) == some .lt) = decide (sv s a < sv t b) := by
  rw [order_wd s t ha hb]
  rw [Bool.eq_iff_iff, beq_iff_eq, decide_eq_true_iff, Option.some_inj]
  exact Int.compare_eq_lt
theorem ord_eq (s t : Bool) {a b : Nat} (ha : a < INF) (hb : b < INF) : (double.order (wd s a) (wd t b) == some .eq) = decide (sv s a = sv t b) := by
  rw [order_wd s t ha hb]
  rw [Bool.eq_iff_iff, beq_iff_eq, decide_eq_true_iff, Option.some_inj]
  exact Int.compare_eq_eq
theorem ord_gt (s t : Bool) {a b : Nat} (ha : a < INF) (hb : b < INF) : (double.order (wd s a) (wd t b) == some .gt) = decide (sv t b < sv s a) := by
  rw [order_wd s t ha hb]
  rw [Bool.eq_iff_iff, beq_iff_eq, decide_eq_true_iff, Option.some_inj]
  exact Int.compare_eq_gt

theorem ord_lt_pos {a b : Nat} (ha : a < INF) (hb : b < INF) : (double.order a b == some .lt) = decide (a < b) := by
  have h := ord_lt false false ha hb
  have e : (sv false a < sv false b) ↔ a < b := by
    unfold sv
    simp only [Bool.false_eq_true, if_false]
    rw [← RV_lt_iff]; omega
  rw [decide_eq_decide.2 e] at h
  exact h
theorem ord_eq_pos {a b : Nat} (ha : a < INF) (hb : b < INF) : (double.order a b == some .eq) = decide (a = b) := by
  have h := ord_eq false false ha hb
  have e : (sv false a = sv false b) ↔ a = b := by
    unfold sv
    simp only [Bool.false_eq_true, if_false]
    exact ⟨fun h => RV_inj (by omega), fun h => by rw [h]⟩
  rw [decide_eq_decide.2 e] at h
  exact h
theorem ord_gt_pos {a b : Nat} (ha : a < INF) (hb : b < INF) : (double.order a b == some .gt) = decide (b < a) := by
  have h := ord_gt false false ha hb
  have e : (sv false b < sv false a) ↔ b < a := by
    unfold sv
    simp only [Bool.false_eq_true, if_false]
    rw [← RV_lt_iff]; omega
  rw [decide_eq_decide.2 e] at h
  exact h

/- WHOLE NUMBERS -/
theorem cut_zero (s : Bool) (n drop : Nat) : Toward.zero.cut s n drop = n / 2 ^ drop := by
  unfold Toward.cut
  dsimp only
  rw [Bool.toNat_false, Nat.add_zero, Nat.one_shiftLeft]
  by_cases hd : drop ≤ n.log2 + 2
  · rw [Nat.min_eq_left hd]
  · rw [Nat.min_eq_right (by omega)]
    have h : n < 2 ^ (n.log2 + 1) := Nat.lt_log2_self
    have h1 : 2 ^ (n.log2 + 1) ≤ 2 ^ (n.log2 + 2) := Nat.pow_le_pow_right (by omega) (by omega)
    have h2 : 2 ^ (n.log2 + 1) ≤ 2 ^ drop := Nat.pow_le_pow_right (by omega) (by omega)
    rw [Nat.div_eq_of_lt (by omega), Nat.div_eq_of_lt (by omega)]

theorem cut_up (n drop : Nat) : Toward.up.cut false n drop = (n + (2 ^ drop - 1)) / 2 ^ drop := by
  have hp : 0 < 2 ^ drop := Nat.two_pow_pos _
  unfold Toward.cut
  dsimp only
  rw [Nat.one_shiftLeft]
  by_cases hd : drop ≤ n.log2 + 2
  · rw [Nat.min_eq_left hd]
    have hdm := Nat.div_add_mod n (2 ^ drop)
    have hml := Nat.mod_lt n hp
    generalize 2 ^ drop = g at *
    generalize n / g = q at *
    generalize n % g = r at *
    subst hdm
    by_cases hr : r = 0
    · subst hr
      rw [show g * q + 0 + (g - 1) = (g - 1) + g * q by omega, Nat.add_mul_div_left _ _ hp, Nat.div_eq_of_lt (by omega)]; simp
    · rw [show g * q + r + (g - 1) = (r - 1) + g * (q + 1) by rw [Nat.mul_add]; omega, Nat.add_mul_div_left _ _ hp, Nat.div_eq_of_lt (by omega)]
      have : (r != 0) = true := by simpa using hr
      rw [this]; simp
  · rw [Nat.min_eq_right (by omega)]
    have h : n < 2 ^ (n.log2 + 1) := Nat.lt_log2_self
    have h1 : 2 ^ (n.log2 + 1) ≤ 2 ^ (n.log2 + 2) := Nat.pow_le_pow_right (by omega) (by omega)
    have h2 : 2 ^ (n.log2 + 1) ≤ 2 ^ drop := Nat.pow_le_pow_right (by omega) (by omega)
    rw [Nat.div_eq_of_lt (by omega), Nat.mod_eq_of_lt (by omega)]
    by_cases hn : n = 0
    · subst hn; rw [Nat.div_eq_of_lt (by omega)]; rfl
    · have : (n != 0) = true := by simpa using hn
      rw [this, show n + (2 ^ drop - 1) = (n - 1) + 2 ^ drop * 1 by omega, Nat.add_mul_div_left _ _ hp, Nat.div_eq_of_lt (by omega)]; simp

theorem whole_div (k : Nat) : sig k <<< (plc k).toNat / 2 ^ (-(plc k)).toNat = RV k / ONE := by
  rw [RV_sig, Nat.shiftLeft_eq]
  unfold plc
  generalize sig k = m
  generalize ex k = e
  rcases Nat.le_total e 1074 with h | h
  · rw [show (-1074 + (e : Int)).toNat = 0 by omega, show (-(-1074 + (e : Int))).toNat = 1074 - e by omega, Nat.pow_zero, Nat.mul_one]
    have : ONE = 2 ^ (1074 - e) * 2 ^ e := two_split h
    rw [this, Nat.mul_div_mul_right _ _ (Nat.two_pow_pos _)]
  · rw [show (-1074 + (e : Int)).toNat = e - 1074 by omega, show (-(-1074 + (e : Int))).toNat = 0 by omega, Nat.pow_zero, Nat.div_one]
    have : 2 ^ e = 2 ^ (e - 1074) * ONE := two_join h
    rw [this, ← Nat.mul_assoc, Nat.mul_div_cancel _ ONE_pos]

theorem toInt_wd {k : Nat} (hk : k < INF) : (FloatKind.f64.decode (wd false k)).toInt .zero = some ((RV k / ONE : Nat) : Int) := by
  show (double.read (wd false k)).toInt .zero = _
  rw [read_wd false hk]
  simp only [Datum.toInt, Datum.integral, cut_zero, whole_div, signed, Nat.shiftLeft_zero, Bool.false_eq_true, if_false]

/-- the rung of a whole number -/
def ofN (n : Nat) : Nat := rungN n 0
theorem floatOfInt_nat (n : Nat) : floatOfInt .f64 (n : Int) = wd false (min (ofN n) INF) := by
  show double.write (.number (decide ((n : Int) < 0)) (n : Int).natAbs 0) = _
  rw [write_num, Int.natAbs_natCast]
  have : decide ((n : Int) < 0) = false := by simp
  rw [this]; rfl
theorem ofN_le {n k : Nat} (h : n * ONE ≤ RV k) : ofN n ≤ k := by
  refine rung_le (s := 0) (by omega) k ?_
  unfold Exact
  rw [show ((0 : Int) + 1074 + ((0 : Nat) : Int)).toNat = 1074 by omega, ← ONE_eq, Nat.pow_zero, Nat.mul_one]; exact h
theorem ofN_ge {n k : Nat} (h : RV k ≤ n * ONE) : k ≤ ofN n := by
  refine rung_ge (s := 0) (by omega) k ?_
  unfold Exact
  rw [show ((0 : Int) + 1074 + ((0 : Nat) : Int)).toNat = 1074 by omega, ← ONE_eq, Nat.pow_zero, Nat.mul_one]; exact h
theorem RV_ofN {n : Nat} (h : n ≤ 2 ^ 53) : RV (ofN n) = n * ONE := by
  obtain ⟨k, hk⟩ := RV_rep 1074 n h
  rw [← ONE_eq] at hk
  have h1 : ofN n = k := Nat.le_antisymm (ofN_le (Nat.le_of_eq hk.symm)) (ofN_ge (Nat.le_of_eq hk))
  rw [h1, hk]

theorem RV_INF : RV INF = 2 ^ 52 * 2 ^ 2046 := by decide +kernel
theorem lt_INF {k : Nat} (h : RV k < 2 ^ 52 * 2 ^ 2046) : k < INF := by rw [← RV_INF] at h; exact RV_lt_iff.1 h
theorem ofN_lt {n : Nat} (h : n ≤ 2 ^ 53) : ofN n < INF := by
  apply lt_INF
  rw [RV_ofN h]
  exact Nat.lt_of_le_of_lt (Nat.mul_le_mul_right _ h) (by decide +kernel)

end Go.Proofs.Ytpgaohmmjjgboaa.Fl
