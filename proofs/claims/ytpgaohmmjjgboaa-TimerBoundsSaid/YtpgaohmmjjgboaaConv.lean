/-
  Plain facts: samples that are alike bring a timer's numbers to them, rounding and all; a pause is long enough.
-/
import Derived.Test.YtpgaohmmjjgboaaPair
namespace Go.Proofs.Ytpgaohmmjjgboaa
open Ieee Fl

/-- 2 ^ -19, in least units: whole multiples of it, up to 2 ^ 34, are numbers -/
def U : Nat := two 1055
theorem ONE_U : ONE = 524288 * U := by decide +kernel
theorem U_pos : 0 < U := two_pos _
theorem grid (g : Nat) (h : g ≤ 9007199254740992) : ∃ k, RV k = g * U := RV_rep2 1055 g h

/-- between two multiples -/
def In (x a b : Nat) : Prop := a * U ≤ RV x ∧ RV x ≤ b * U

theorem In.weaken {x a b a' b' : Nat} (h : In x a b) (ha : a' ≤ a) (hb : b ≤ b') : In x a' b' :=
  ⟨Nat.le_trans (Nat.mul_le_mul_right _ ha) h.1, Nat.le_trans h.2 (Nat.mul_le_mul_right _ hb)⟩

theorem m_one (x c den num z g u : Nat) (hc : den * c = num * z) : x * c * den = num * z * x ∧ g * u * z * den = g * den * (u * z) := by
  refine ⟨?_, by ac_rfl⟩
  rw [← hc]; ac_rfl
theorem m_two (n a u z : Nat) : n * a * (u * z) = n * z * (a * u) := by ac_rfl

/-- a product with 'num / den' -/
theorem In_mul {x a b c num den : Nat} (hd : 0 < den) (hc : den * RV c = num * ONE) (h : In x a b) (hb : num * b + den ≤ 9007199254740992 * den) :
    In (mulR x c) (num * a / den) ((num * b + (den - 1)) / den) := by
  have e1 : ∀ g, RV x * RV c * den = num * ONE * RV x ∧ g * U * ONE * den = g * den * (U * ONE) := fun g => m_one _ _ _ _ _ g _ hc
  constructor
  · have hab : a ≤ b := Nat.le_of_mul_le_mul_right (Nat.le_trans h.1 h.2) U_pos
    have hg : num * a / den ≤ 9007199254740992 := by
      have : num * a ≤ num * b := Nat.mul_le_mul_left _ hab
      exact Nat.div_le_of_le_mul (by omega)
    obtain ⟨k, hk⟩ := grid _ hg
    rw [← hk]
    refine RV_mono (mulR_ge ?_)
    refine Nat.le_of_mul_le_mul_right (c := den) ?_ hd
    obtain ⟨e2, e3⟩ := e1 (num * a / den)
    rw [hk, e2, e3]
    have h1 : num * a / den * den ≤ num * a := Nat.div_mul_le_self _ _
    have h2 : num * a / den * den * (U * ONE) ≤ num * a * (U * ONE) := Nat.mul_le_mul_right _ h1
    have h3 : num * a * (U * ONE) = num * ONE * (a * U) := m_two _ _ _ _
    have h4 : num * ONE * (a * U) ≤ num * ONE * RV x := Nat.mul_le_mul_left _ h.1
    omega
  · have hg : (num * b + (den - 1)) / den ≤ 9007199254740992 := Nat.div_le_of_le_mul (by omega)
    obtain ⟨k, hk⟩ := grid _ hg
    rw [← hk]
    refine RV_mono (mulR_le ?_)
    refine Nat.le_of_mul_le_mul_right (c := den) ?_ hd
    obtain ⟨e2, e3⟩ := e1 ((num * b + (den - 1)) / den)
    rw [hk, e2, e3]
    have h1 : num * b ≤ (num * b + (den - 1)) / den * den := by
      have := Nat.lt_div_mul_add (a := num * b + (den - 1)) hd
      omega
    have h2 : num * b * (U * ONE) ≤ (num * b + (den - 1)) / den * den * (U * ONE) := Nat.mul_le_mul_right _ h1
    have h3 : num * b * (U * ONE) = num * ONE * (b * U) := m_two _ _ _ _
    have h4 : num * ONE * RV x ≤ num * ONE * (b * U) := Nat.mul_le_mul_left _ h.2
    omega

theorem In_add {x y a b c d : Nat} (h : In x a b) (k : In y c d) (hb : b + d ≤ 9007199254740992) : In (addR x y) (a + c) (b + d) := by
  have hab : a ≤ b := Nat.le_of_mul_le_mul_right (Nat.le_trans h.1 h.2) U_pos
  have hcd : c ≤ d := Nat.le_of_mul_le_mul_right (Nat.le_trans k.1 k.2) U_pos
  obtain ⟨i, hi⟩ := grid (a + c) (by omega)
  obtain ⟨j, hj⟩ := grid (b + d) hb
  have h1 := h.1
  have h2 := h.2
  have h3 := k.1
  have h4 := k.2
  constructor
  · rw [← hi]; exact RV_mono (addR_ge (by rw [hi, Nat.add_mul]; omega))
  · rw [← hj]; exact RV_mono (addR_le (by rw [hj, Nat.add_mul]; omega))

theorem In_lt {x a b : Nat} (h : In x a b) (hb : b ≤ 9007199254740992) : x < INF := by
  have h1 : b * U ≤ 9007199254740992 * U := Nat.mul_le_mul_right _ hb
  have h2 : 9007199254740992 * U < RV INF := by decide +kernel
  exact RV_lt_iff.1 (Nat.lt_of_le_of_lt (Nat.le_trans h.2 h1) h2)

theorem In_mix875 {o s a b c d : Nat} (h : In o a b) (k : In s c d) (hb : b ≤ 4503599627370496) (hd : d ≤ 4503599627370496) :
    In (mixF o s Q875) (7 * a / 8 + 1 * c / 8) ((7 * b + 7) / 8 + (1 * d + 7) / 8) := by
  have m1 := In_mul (c := Q875) (num := 7) (den := 8) (by omega) RV_Q875 h (by omega)
  have m2 := In_mul (c := subR ONEB Q875) (num := 1) (den := 8) (by omega) (by rw [sub875, Nat.one_mul]) k (by omega)
  have m3 := In_add m1 m2 (by omega)
  have hl := In_lt m3 (by omega)
  unfold mixF
  rw [Nat.min_eq_left (Nat.le_of_lt hl)]
  exact m3

theorem In_mix75 {o s a b c d : Nat} (h : In o a b) (k : In s c d) (hb : b ≤ 4503599627370496) (hd : d ≤ 4503599627370496) :
    In (mixF o s Q75) (3 * a / 4 + 1 * c / 4) ((3 * b + 3) / 4 + (1 * d + 3) / 4) := by
  have m1 := In_mul (c := Q75) (num := 3) (den := 4) (by omega) RV_Q75 h (by omega)
  have m2 := In_mul (c := subR ONEB Q75) (num := 1) (den := 4) (by omega) (by rw [sub75, Nat.one_mul]) k (by omega)
  have m3 := In_add m1 m2 (by omega)
  have hl := In_lt m3 (by omega)
  unfold mixF
  rw [Nat.min_eq_left (Nat.le_of_lt hl)]
  exact m3

theorem In_ofN {n : Nat} (h : n ≤ 4294967296) : In (ofN n) (n * 524288) (n * 524288) := by
  have e : RV (ofN n) = n * 524288 * U := by rw [RV_ofN (by omega), ONE_U, Nat.mul_assoc]
  exact ⟨Nat.le_of_eq e.symm, Nat.le_of_eq e⟩

theorem In_sub {s x N e : Nat} (h : In s (N - e) (N + e)) (k : In x N N) (he : e ≤ 4503599627370496) : In (subR s x) 0 e := by
  refine ⟨by omega, ?_⟩
  obtain ⟨j, hj⟩ := grid e (by omega)
  rw [← hj]
  refine RV_mono (subR_le ?_)
  rw [hj]
  have h1 := h.1
  have h2 := h.2
  have h3 := k.1
  have h4 := k.2
  unfold dif
  rw [Nat.sub_mul] at h1
  rw [Nat.add_mul] at h2
  omega

/- THE WAY TO THE SAMPLES -/
/-- how far off the smooth time is at most, and how great the deviation: behind so many samples -/
def far : Nat → Nat × Nat
  | 0 => (2251799813685248, 2251799813685248)
  | j + 1 => ((7 * (far j).1 + 7) / 8, (3 * (far j).2 + 3) / 4 + ((far j).1 + 3) / 4)

theorem far_succ (j : Nat) : far (j + 1) = ((7 * (far j).1 + 7) / 8, (3 * (far j).2 + 3) / 4 + ((far j).1 + 3) / 4) := rfl
theorem far_zero : far 0 = (2251799813685248, 2251799813685248) := rfl

theorem far_le (j : Nat) : (far j).1 ≤ 2251799813685248 ∧ (far j).2 ≤ 2251799813685248 := by
  induction j with
  | zero => exact ⟨Nat.le_refl _, Nat.le_refl _⟩
  | succ j ih => obtain ⟨h1, h2⟩ := ih; rw [far_succ]; dsimp only; omega

theorem far_end : (far 400).1 ≤ 100 ∧ (far 400).2 ≤ 131072 := by decide +kernel
theorem far_one : (far 1).2 = 2251799813685248 := by decide +kernel

/-- what holds of a timer's numbers behind j samples of n -/
def Near (n j : Nat) (st : Option (Nat × Nat)) : Prop :=
  (∀ p, st = some p → In p.1 (n * 524288 - (far j).1) (n * 524288 + (far j).1) ∧ In p.2 0 (far j).2) ∧ (1 ≤ j → st ≠ none)

theorem Bd_In {s : Nat} (h : Bd s) : In s 0 2251799813685248 := by
  refine ⟨by omega, ?_⟩
  unfold Bd at h
  rw [ONE_U] at h
  omega

theorem near_start (n : Nat) {st : Option (Nat × Nat)} (h : OkS st) (hn : n ≤ 65535) : Near n 0 st := by
  refine ⟨fun p hp => ?_, fun h => absurd h (by omega)⟩
  obtain ⟨h1, h2⟩ := h p hp
  exact ⟨(Bd_In h1).weaken (by rw [far_zero]; dsimp only; omega) (by rw [far_zero]; dsimp only; omega), (Bd_In h2).weaken (by omega) (by rw [far_zero]; dsimp only; omega)⟩

theorem near_step (n j : Nat) {st : Option (Nat × Nat)} (h : Near n j st) (hn : n ≤ 65535) (h0 : st = none → j = 0) : Near n (j + 1) (smp st n) := by
  have hf := far_le j
  unfold smp
  rw [if_neg (by omega)]
  refine ⟨fun p hp => ?_, fun _ => by cases st <;> simp⟩
  cases st with
  | none =>
    have hj := h0 rfl
    subst hj
    simp only [Option.some.injEq] at hp
    subst hp
    have hb := Bd_ofN (n := n) (by omega)
    refine ⟨(In_ofN (n := n) (by omega)).weaken (by omega) (by omega), ?_⟩
    have := Bd_In (half_facts hb).2
    refine this.weaken (Nat.le_refl _) ?_
    show 2251799813685248 ≤ (far 1).2
    rw [far_one]; exact Nat.le_refl _
  | some q =>
    simp only [Option.some.injEq] at hp
    subst hp
    obtain ⟨h1, h2⟩ := h.1 q rfl
    have hx := In_ofN (n := n) (by omega)
    have hs := In_sub h1 hx (by omega)
    refine ⟨(In_mix875 h1 hx (by omega) (by omega)).weaken ?_ ?_, (In_mix75 h2 hs (by omega) (by omega)).weaken ?_ ?_⟩
    · rw [far_succ]; dsimp only; omega
    · rw [far_succ]; dsimp only; omega
    · omega
    · rw [far_succ]; dsimp only; omega

theorem mul_quarter : mulR FOUR QUARTER = ONEB := by decide +kernel
theorem quarter_U : RV QUARTER = 131072 * U := by decide +kernel

/-- THE VALUE BEHIND 400 SAMPLES OF n: n, or n + 1 -/
theorem near_value (n : Nat) {p : Nat × Nat} (h : Near n 400 (some p)) (hn : n ≤ 65535) : n ≤ RV (valR p.1 p.2) / ONE ∧ RV (valR p.1 p.2) / ONE ≤ n + 1 := by
  obtain ⟨h1, h2⟩ := h.1 p rfl
  obtain ⟨f1, f2⟩ := far_end
  have hs := h1.weaken (a' := n * 524288 - 100) (b' := n * 524288 + 100) (by omega) (by omega)
  have hq : p.2 ≤ QUARTER := RV_le_iff.1 (by
    rw [quarter_U]
    exact Nat.le_trans h2.2 (Nat.mul_le_mul_right _ f2))
  have hm : maxQ p.2 = QUARTER := by
    have hqI : QUARTER < INF := by decide
    unfold maxQ ltB
    rw [ord_lt_pos (Nat.lt_of_le_of_lt hq hqI) hqI]
    by_cases h : p.2 < QUARTER
    · rw [decide_eq_true h]; rfl
    · rw [decide_eq_false h]
      have : p.2 = QUARTER := by omega
      rw [this]; rfl
  have ho : In ONEB 524288 524288 := by
    have e : RV ONEB = 524288 * U := by rw [RV_ONEB, ONE_U]
    exact ⟨Nat.le_of_eq e.symm, Nat.le_of_eq e⟩
  have hv := In_add hs ho (by omega)
  have e : valR p.1 p.2 = addR p.1 ONEB := by unfold valR; rw [hm, mul_quarter]
  rw [e]
  have hU := U_pos
  have hb1 := hv.1
  have hb2 := hv.2
  constructor
  · rw [Nat.le_div_iff_mul_le ONE_pos, ONE_U, ← Nat.mul_assoc]
    exact Nat.le_trans (Nat.mul_le_mul_right _ (by omega)) hb1
  · rw [← Nat.lt_add_one_iff, Nat.div_lt_iff_lt_mul ONE_pos, ONE_U, ← Nat.mul_assoc]
    exact Nat.lt_of_le_of_lt hb2 (Nat.mul_lt_mul_of_pos_right (by omega) hU)

end Go.Proofs.Ytpgaohmmjjgboaa
