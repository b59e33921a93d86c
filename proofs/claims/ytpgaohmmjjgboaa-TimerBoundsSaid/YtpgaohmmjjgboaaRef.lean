/-
  The walk of the reference's Sample: the first one, a later one, one that is too late.
-/
import Derived.Test.YtpgaohmmjjgboaaMake
namespace Go.Proofs.Ytpgaohmmjjgboaa
open Go.RowKit Ieee Fl
attribute [local go_sem] run_store_float

theorem neg_bits (k : Nat) (hk : k < 2 ^ 63) : Op.negFloat .f64 (wd true k) = k := by
  show (2 ^ 63 + k) ^^^ 2 ^ 63 = k
  apply Nat.eq_of_testBit_eq
  intro i
  rw [Nat.testBit_xor]
  rcases Nat.lt_trichotomy i 63 with h | h | h
  · rw [Nat.testBit_two_pow_add_gt h, Nat.testBit_two_pow_of_ne (by omega)]; simp
  · subst h
    rw [Nat.testBit_two_pow_add_eq, Nat.testBit_two_pow_self, Nat.testBit_lt_two_pow hk]; rfl
  · have h1 : 2 ^ 63 + k < 2 ^ i := by
      have : 2 ^ 64 ≤ 2 ^ i := Nat.pow_le_pow_right (by omega) (by omega)
      omega
    have h2 : k < 2 ^ i := by omega
    rw [Nat.testBit_lt_two_pow h1, Nat.testBit_lt_two_pow h2, Nat.testBit_two_pow_of_ne (by omega)]; rfl

/-- the difference: below nought, turned; or not below nought, as it is -/
theorem sub_turn {s x y : Nat} (hs : s < INF) (hx : x < INF) (h : double.sub s x = some y) :
    (FloatKind.f64.format.order y 0 = some .lt ∧ Op.negFloat .f64 y = subR s x) ∨ (∃ c, c ≠ .lt ∧ FloatKind.f64.format.order y 0 = some c ∧ y = subR s x) := by
  have h0 := sub_wd hs hx
  obtain ⟨_, _, _, _, hI⟩ := sub_abs hs hx
  have hi := INF_lt
  rw [Nat.min_eq_left (by omega)] at h0
  have e : y = wd (decide (RV s < RV x)) (subR s x) := Option.some.inj (h.symm.trans h0)
  subst e
  by_cases hlt : RV s < RV x
  · left
    rw [decide_eq_true hlt, neg_bits _ (by omega)]
    refine ⟨?_, rfl⟩
    have h1 := order_wd true false hI (show 0 < INF by decide)
    have h2 : 1 ≤ subR s x := subR_ge (by
      have : RV 1 = 1 := rfl
      rw [this]; unfold dif; omega)
    have h3 := RV_mono h2
    have h4 : RV 1 = 1 := rfl
    have hz : RV 0 = 0 := rfl
    have hc : compare (sv true (subR s x)) (sv false 0) = .lt := by
      rw [Int.compare_eq_lt]; unfold sv; simp only [Bool.false_eq_true, if_false, if_true]; omega
    rw [hc] at h1
    exact h1
  · right
    rw [decide_eq_false hlt]
    have h1 := order_wd false false hI (show 0 < INF by decide)
    refine ⟨_, ?_, h1, rfl⟩
    intro hc
    rw [Int.compare_eq_lt] at hc
    unfold sv at hc
    have hz : RV 0 = 0 := rfl
    simp only [Bool.false_eq_true, if_false] at hc
    omega

theorem rsample_late (w : World) (b : Nat) (n : Int) (hn : 4294967296 < n) :
    Calls Try.prog 14 #[.pointer (some ⟨b, 0, none⟩), .int .u64 n] w fun e w' => e = .returned (.tuple #[]) ∧ w = w' := by
  go_enter Try.func14, Try.ntmps14
  go_wp2_with fail
  refine bodyPost_ret (results_none rfl _ _ _) rfl ?_
  exact ⟨rfl, rfl⟩

theorem great_gen {d Q : Nat} (hd : d < INF) (hQ : Q < INF) : (FloatKind.f64.format.order d Q = some .lt ∧ (if ltB d Q = true then Q else d) = Q) ∨ (∃ c, c ≠ .lt ∧ FloatKind.f64.format.order d Q = some c ∧ (if ltB d Q = true then Q else d) = d) := by
  have h := order_pos hd hQ
  have hk : FloatKind.f64.format.order d Q = double.order d Q := rfl
  unfold ltB
  rw [hk, h]
  generalize compare (sv false d) (sv false Q) = o
  by_cases hc : o = .lt
  · left
    rw [hc]
    exact ⟨rfl, by simp⟩
  · right
    refine ⟨_, hc, rfl, ?_⟩
    rw [if_neg]
    intro h2
    exact hc (by simpa using h2)
/-- the deviation's part of the value: the greater of it and a quarter -/
theorem quarter_cases {d : Nat} (hd : d < INF) : (FloatKind.f64.format.order d QUARTER = some .lt ∧ maxQ d = QUARTER) ∨ (∃ c, c ≠ .lt ∧ FloatKind.f64.format.order d QUARTER = some c ∧ maxQ d = d) :=
  great_gen hd (by decide)

set_option maxHeartbeats 4000000 in
theorem rsample_first (w : World) (b : Nat) (L M : Int) (s d : Nat) (v n : Int) (ht : Tm w b 38 L M s d v) (hn0 : 0 ≤ n) (hn : n ≤ 4294967296) (hs : nanB s = true)
    (d' : Nat) (hd : double.div (floatOfInt .f64 n) TWO = some d') (hd2 : d' < INF) (n' : Int) (hv : valO (floatOfInt .f64 n) d' = some n') :
    Calls Try.prog 14 #[.pointer (some ⟨b, 0, none⟩), .int .u64 n] w fun e w' => e = .returned (.tuple #[]) ∧ Tm w' b 38 L M (floatOfInt .f64 n) d' (clamp L M n') ∧ w.grownBy w' (some b) := by
  have e1 := fun W => run_float_arith (P := Try.prog) W .quo 33 .f64 _ _ _ hd
  unfold TWO at e1
  obtain ⟨x, q, h1, h2, h3⟩ := valO_some hv
  have e3 := fun W => run_float_arith (P := Try.prog) W .add 33 .f64 _ _ _ h2
  have e4 := fun W => run_convert_float_int (P := Try.prog) W 33 22 .f64 .u64 _ _ (by rw [Try.underlying33]; rfl) Try.underlying22 h3
  have c2 := cell_of ht 2 _ rfl
  have c3 := cell_of ht 3 _ rfl
  have f2 := frozen_of ht 2
  have f3 := frozen_of ht 3
  have hq := quarter_cases hd2
  rcases hq with ⟨hq, hmq⟩ | ⟨c, hc, hq, hmq⟩
  · rw [hmq] at h1
    have e2 := fun W => run_float_arith (P := Try.prog) W .mul 33 .f64 FOUR QUARTER _ h1
    unfold FOUR QUARTER at e2
    unfold QUARTER at hq
    clear h1 h2 h3 hv hd hmq
    go_enter Try.func14, Try.ntmps14
    go_wp2_with (go_at_call 26; refine (none_any _ _).mono ?_; rintro e w' ⟨rfl, rfl⟩)
    clear c2 c3 f2 f3
    have hT : Tm ((w.setCell ⟨b, 2, none⟩ (.float .f64 (floatOfInt .f64 n))).setCell ⟨b, 3, none⟩ (.float .f64 d')) b 38 L M (floatOfInt .f64 n) d' v := (ht.set2 _).set3 _
    have hG : w.grownBy ((w.setCell ⟨b, 2, none⟩ (.float .f64 (floatOfInt .f64 n))).setCell ⟨b, 3, none⟩ (.float .f64 d')) (some b) := g_set (g_set (World.grownBy.refl _ _) _ _) _ _
    generalize ((w.setCell ⟨b, 2, none⟩ (.float .f64 (floatOfInt .f64 n))).setCell ⟨b, 3, none⟩ (.float .f64 d')) = W1 at *
    have c0 := cell_of hT 0 _ rfl
    have c1 := cell_of hT 1 _ rfl
    have c2 := cell_of hT 2 _ rfl
    have c4 := cell_of hT 4 _ rfl
    have f4 := frozen_of hT 4
    go_region
    all_goals go_wp2
    all_goals go_end0
    all_goals refine ⟨rfl, ?_, g_drew (g_set hG _ _)⟩
    all_goals refine Tm.drew ?_
    · rw [show clamp L M n' = M by unfold clamp; omega]; exact hT.set4 _
    · rw [show clamp L M n' = L by unfold clamp; omega]; exact hT.set4 _
    · rw [show clamp L M n' = M by unfold clamp; omega]; exact hT.set4 _
    · rw [show clamp L M n' = n' by unfold clamp; omega]; exact hT.set4 _
  · rw [hmq] at h1
    have e2 := fun W => run_float_arith (P := Try.prog) W .mul 33 .f64 FOUR _ _ h1
    unfold FOUR at e2
    unfold QUARTER at hq
    have hcb : (c == Ordering.lt) = false := by cases c <;> simp_all
    cases c
    case lt => exact absurd rfl hc
    all_goals
      clear h1 h2 h3 hv hd hmq hc hcb
      go_enter Try.func14, Try.ntmps14
      go_wp2_with (go_at_call 26; refine (none_any _ _).mono ?_; rintro e w' ⟨rfl, rfl⟩)
      clear c2 c3 f2 f3
      have hT : Tm ((w.setCell ⟨b, 2, none⟩ (.float .f64 (floatOfInt .f64 n))).setCell ⟨b, 3, none⟩ (.float .f64 d')) b 38 L M (floatOfInt .f64 n) d' v := (ht.set2 _).set3 _
      have hG : w.grownBy ((w.setCell ⟨b, 2, none⟩ (.float .f64 (floatOfInt .f64 n))).setCell ⟨b, 3, none⟩ (.float .f64 d')) (some b) := g_set (g_set (World.grownBy.refl _ _) _ _) _ _
      generalize ((w.setCell ⟨b, 2, none⟩ (.float .f64 (floatOfInt .f64 n))).setCell ⟨b, 3, none⟩ (.float .f64 d')) = W1 at *
      have c0 := cell_of hT 0 _ rfl
      have c1 := cell_of hT 1 _ rfl
      have c2 := cell_of hT 2 _ rfl
      have c4 := cell_of hT 4 _ rfl
      have f4 := frozen_of hT 4
      go_region
      all_goals go_wp2
      all_goals go_end0
      all_goals refine ⟨rfl, ?_, g_drew (g_set hG _ _)⟩
      all_goals refine Tm.drew ?_
      · rw [show clamp L M n' = M by unfold clamp; omega]; exact hT.set4 _
      · rw [show clamp L M n' = L by unfold clamp; omega]; exact hT.set4 _
      · rw [show clamp L M n' = M by unfold clamp; omega]; exact hT.set4 _
      · rw [show clamp L M n' = n' by unfold clamp; omega]; exact hT.set4 _

set_option maxHeartbeats 4000000 in
theorem rsample_later (w : World) (b : Nat) (L M : Int) (s d : Nat) (v n : Int) (ht : Tm w b 38 L M s d v) (hn0 : 0 ≤ n) (hn : n ≤ 4294967296) (hs : s < INF) (hdI : d < INF) (hx : floatOfInt .f64 n < INF)
    (s' d' : Nat) (es : s' = mixF s (floatOfInt .f64 n) Q875) (ed : d' = mixF d (subR s (floatOfInt .f64 n)) Q75) (hd2 : d' < INF) (n' : Int) (hv : valO s' d' = some n') :
    Calls Try.prog 14 #[.pointer (some ⟨b, 0, none⟩), .int .u64 n] w fun e w' => e = .returned (.tuple #[]) ∧ Tm w' b 38 L M s' d' (clamp L M n') ∧ w.grownBy w' (some b) := by
  have hsn := fin_num hs
  obtain ⟨y, hsub, _, _, hyI⟩ := sub_abs hs hx
  have e1 := fun W => run_float_arith (P := Try.prog) W .sub 33 .f64 _ _ _ hsub
  have hq1 : Q75 ≤ ONEB := by decide
  have hq2 : Q875 ≤ ONEB := by decide
  have m1 : ∀ W, Calls Try.prog 22 #[.float .f64 d, .float .f64 (subR s (floatOfInt .f64 n)), .float .f64 4604930618986332160] W fun e w' => e = .returned (.float .f64 d') ∧ ∃ n, w' = W.drewN n := fun W => by rw [ed]; exact mixr_fin d _ Q75 W hdI hyI hq1
  have m2 : ∀ W, Calls Try.prog 22 #[.float .f64 s, .float .f64 (floatOfInt .f64 n), .float .f64 4606056518893174784] W fun e w' => e = .returned (.float .f64 s') ∧ ∃ n, w' = W.drewN n := fun W => by rw [es]; exact mixr_fin s _ Q875 W hs hx hq2
  have M1 := Lib.hid m1
  have M2 := Lib.hid m2
  obtain ⟨x, q, h1, h2, h3⟩ := valO_some hv
  have e3 := fun W => run_float_arith (P := Try.prog) W .add 33 .f64 _ _ _ h2
  have e4 := fun W => run_convert_float_int (P := Try.prog) W 33 22 .f64 .u64 _ _ (by rw [Try.underlying33]; rfl) Try.underlying22 h3
  have c2 := cell_of ht 2 _ rfl
  have c3 := cell_of ht 3 _ rfl
  have f2 := frozen_of ht 2
  have f3 := frozen_of ht 3
  have hsb := sub_turn hs hx hsub
  have hneg : ∀ (z : Nat) (W : World), (Op.unary .neg (.float .f64 z)).run Try.prog W = .ok (.float .f64 (Op.negFloat .f64 z)) W := fun _ _ => rfl
  generalize hr : subR s (floatOfInt .f64 n) = r at *
  clear hsub hyI hq1 hq2 m1 m2 es ed hr
  have hE : ∃ o, (FloatKind.f64.format.order d' QUARTER = some o) ∧ ((o = .lt ∧ double.mul FOUR QUARTER = some x) ∨ (o ≠ .lt ∧ double.mul FOUR d' = some x)) := by
    rcases quarter_cases hd2 with ⟨hq, hmq⟩ | ⟨c, hc, hq, hmq⟩
    · rw [hmq] at h1; exact ⟨_, hq, .inl ⟨rfl, h1⟩⟩
    · rw [hmq] at h1; exact ⟨_, hq, .inr ⟨hc, h1⟩⟩
  obtain ⟨o, ho, hE⟩ := hE
  unfold QUARTER FOUR at hE
  unfold QUARTER at ho
  clear h1 h2 h3 hv
  rcases hE with ⟨rfl, h1⟩ | ⟨hno, h1⟩
  · skip
    have e2 := fun W => run_float_arith (P := Try.prog) W .mul 33 .f64 _ _ _ h1
    clear h1
    rcases hsb with ⟨u, hy⟩ | ⟨c, hcn, u, hy⟩
    · skip
      go_enter Try.func14, Try.ntmps14
      go_wp2_with (go_at_call 26; refine (none_any _ _).mono ?_; rintro e w' ⟨rfl, rfl⟩)
      refine (M1.out _).mono ?_
      rintro e w' ⟨rfl, k1, rfl⟩
      clear c2 c3 f2 f3
      have hA : Tm (w.drewN k1) b 38 L M s d v := ht.drewN _
      have hGA : w.grownBy (w.drewN k1) (some b) := g_drewN (World.grownBy.refl _ _) _
      generalize w.drewN k1 = WA at *
      have f3 := frozen_of hA 3
      have c3 := cell_of hA 3 _ rfl
      have c2 := cell_of hA 2 _ rfl
      go_wp2_with fail
      refine (M2.out _).mono ?_
      rintro e w' ⟨rfl, k2, rfl⟩
      clear c2 c3 f3
      have hB : Tm ((WA.setCell ⟨b, 3, none⟩ (.float .f64 d')).drewN k2) b 38 L M s d' v := (hA.set3 _).drewN _
      have hGB : w.grownBy ((WA.setCell ⟨b, 3, none⟩ (.float .f64 d')).drewN k2) (some b) := g_drewN (g_set hGA _ _) _
      generalize (WA.setCell ⟨b, 3, none⟩ (.float .f64 d')).drewN k2 = WB at *
      have f2 := frozen_of hB 2
      have c3 := cell_of hB 3 _ rfl
      have c2 := cell_of hB 2 _ rfl
      go_wp2_with fail
      clear c2 c3 f2
      have hT : Tm (WB.setCell ⟨b, 2, none⟩ (.float .f64 s')) b 38 L M s' d' v := hB.set2 _
      have hG : w.grownBy (WB.setCell ⟨b, 2, none⟩ (.float .f64 s')) (some b) := g_set hGB _ _
      generalize WB.setCell ⟨b, 2, none⟩ (.float .f64 s') = W1 at *
      have c0 := cell_of hT 0 _ rfl
      have c1 := cell_of hT 1 _ rfl
      have c2 := cell_of hT 2 _ rfl
      have c4 := cell_of hT 4 _ rfl
      have f4 := frozen_of hT 4
      go_region
      all_goals go_wp2
      all_goals go_end0
      all_goals refine ⟨rfl, ?_, g_drew (g_set hG _ _)⟩
      all_goals refine Tm.drew ?_
      · rw [show clamp L M n' = M by unfold clamp; omega]; exact hT.set4 _
      · rw [show clamp L M n' = L by unfold clamp; omega]; exact hT.set4 _
      · rw [show clamp L M n' = M by unfold clamp; omega]; exact hT.set4 _
      · rw [show clamp L M n' = n' by unfold clamp; omega]; exact hT.set4 _
    · subst hy
      cases c
      case lt => exact absurd rfl hcn
      all_goals
        clear hcn
        go_enter Try.func14, Try.ntmps14
        go_wp2_with (go_at_call 26; refine (none_any _ _).mono ?_; rintro e w' ⟨rfl, rfl⟩)
        refine (M1.out _).mono ?_
        rintro e w' ⟨rfl, k1, rfl⟩
        clear c2 c3 f2 f3
        have hA : Tm (w.drewN k1) b 38 L M s d v := ht.drewN _
        have hGA : w.grownBy (w.drewN k1) (some b) := g_drewN (World.grownBy.refl _ _) _
        generalize w.drewN k1 = WA at *
        have f3 := frozen_of hA 3
        have c3 := cell_of hA 3 _ rfl
        have c2 := cell_of hA 2 _ rfl
        go_wp2_with fail
        refine (M2.out _).mono ?_
        rintro e w' ⟨rfl, k2, rfl⟩
        clear c2 c3 f3
        have hB : Tm ((WA.setCell ⟨b, 3, none⟩ (.float .f64 d')).drewN k2) b 38 L M s d' v := (hA.set3 _).drewN _
        have hGB : w.grownBy ((WA.setCell ⟨b, 3, none⟩ (.float .f64 d')).drewN k2) (some b) := g_drewN (g_set hGA _ _) _
        generalize (WA.setCell ⟨b, 3, none⟩ (.float .f64 d')).drewN k2 = WB at *
        have f2 := frozen_of hB 2
        have c3 := cell_of hB 3 _ rfl
        have c2 := cell_of hB 2 _ rfl
        go_wp2_with fail
        clear c2 c3 f2
        have hT : Tm (WB.setCell ⟨b, 2, none⟩ (.float .f64 s')) b 38 L M s' d' v := hB.set2 _
        have hG : w.grownBy (WB.setCell ⟨b, 2, none⟩ (.float .f64 s')) (some b) := g_set hGB _ _
        generalize WB.setCell ⟨b, 2, none⟩ (.float .f64 s') = W1 at *
        have c0 := cell_of hT 0 _ rfl
        have c1 := cell_of hT 1 _ rfl
        have c2 := cell_of hT 2 _ rfl
        have c4 := cell_of hT 4 _ rfl
        have f4 := frozen_of hT 4
        go_region
        all_goals go_wp2
        all_goals go_end0
        all_goals refine ⟨rfl, ?_, g_drew (g_set hG _ _)⟩
        all_goals refine Tm.drew ?_
        · rw [show clamp L M n' = M by unfold clamp; omega]; exact hT.set4 _
        · rw [show clamp L M n' = L by unfold clamp; omega]; exact hT.set4 _
        · rw [show clamp L M n' = M by unfold clamp; omega]; exact hT.set4 _
        · rw [show clamp L M n' = n' by unfold clamp; omega]; exact hT.set4 _
  · cases o
    case lt => exact absurd rfl hno
    all_goals
      clear hno
      have e2 := fun W => run_float_arith (P := Try.prog) W .mul 33 .f64 _ _ _ h1
      clear h1
      rcases hsb with ⟨u, hy⟩ | ⟨c, hcn, u, hy⟩
      · skip
        go_enter Try.func14, Try.ntmps14
        go_wp2_with (go_at_call 26; refine (none_any _ _).mono ?_; rintro e w' ⟨rfl, rfl⟩)
        refine (M1.out _).mono ?_
        rintro e w' ⟨rfl, k1, rfl⟩
        clear c2 c3 f2 f3
        have hA : Tm (w.drewN k1) b 38 L M s d v := ht.drewN _
        have hGA : w.grownBy (w.drewN k1) (some b) := g_drewN (World.grownBy.refl _ _) _
        generalize w.drewN k1 = WA at *
        have f3 := frozen_of hA 3
        have c3 := cell_of hA 3 _ rfl
        have c2 := cell_of hA 2 _ rfl
        go_wp2_with fail
        refine (M2.out _).mono ?_
        rintro e w' ⟨rfl, k2, rfl⟩
        clear c2 c3 f3
        have hB : Tm ((WA.setCell ⟨b, 3, none⟩ (.float .f64 d')).drewN k2) b 38 L M s d' v := (hA.set3 _).drewN _
        have hGB : w.grownBy ((WA.setCell ⟨b, 3, none⟩ (.float .f64 d')).drewN k2) (some b) := g_drewN (g_set hGA _ _) _
        generalize (WA.setCell ⟨b, 3, none⟩ (.float .f64 d')).drewN k2 = WB at *
        have f2 := frozen_of hB 2
        have c3 := cell_of hB 3 _ rfl
        have c2 := cell_of hB 2 _ rfl
        go_wp2_with fail
        clear c2 c3 f2
        have hT : Tm (WB.setCell ⟨b, 2, none⟩ (.float .f64 s')) b 38 L M s' d' v := hB.set2 _
        have hG : w.grownBy (WB.setCell ⟨b, 2, none⟩ (.float .f64 s')) (some b) := g_set hGB _ _
        generalize WB.setCell ⟨b, 2, none⟩ (.float .f64 s') = W1 at *
        have c0 := cell_of hT 0 _ rfl
        have c1 := cell_of hT 1 _ rfl
        have c2 := cell_of hT 2 _ rfl
        have c4 := cell_of hT 4 _ rfl
        have f4 := frozen_of hT 4
        go_region
        all_goals go_wp2
        all_goals go_end0
        all_goals refine ⟨rfl, ?_, g_drew (g_set hG _ _)⟩
        all_goals refine Tm.drew ?_
        · rw [show clamp L M n' = M by unfold clamp; omega]; exact hT.set4 _
        · rw [show clamp L M n' = L by unfold clamp; omega]; exact hT.set4 _
        · rw [show clamp L M n' = M by unfold clamp; omega]; exact hT.set4 _
        · rw [show clamp L M n' = n' by unfold clamp; omega]; exact hT.set4 _
      · subst hy
        cases c
        case lt => exact absurd rfl hcn
        all_goals
          clear hcn
          go_enter Try.func14, Try.ntmps14
          go_wp2_with (go_at_call 26; refine (none_any _ _).mono ?_; rintro e w' ⟨rfl, rfl⟩)
          refine (M1.out _).mono ?_
          rintro e w' ⟨rfl, k1, rfl⟩
          clear c2 c3 f2 f3
          have hA : Tm (w.drewN k1) b 38 L M s d v := ht.drewN _
          have hGA : w.grownBy (w.drewN k1) (some b) := g_drewN (World.grownBy.refl _ _) _
          generalize w.drewN k1 = WA at *
          have f3 := frozen_of hA 3
          have c3 := cell_of hA 3 _ rfl
          have c2 := cell_of hA 2 _ rfl
          go_wp2_with fail
          refine (M2.out _).mono ?_
          rintro e w' ⟨rfl, k2, rfl⟩
          clear c2 c3 f3
          have hB : Tm ((WA.setCell ⟨b, 3, none⟩ (.float .f64 d')).drewN k2) b 38 L M s d' v := (hA.set3 _).drewN _
          have hGB : w.grownBy ((WA.setCell ⟨b, 3, none⟩ (.float .f64 d')).drewN k2) (some b) := g_drewN (g_set hGA _ _) _
          generalize (WA.setCell ⟨b, 3, none⟩ (.float .f64 d')).drewN k2 = WB at *
          have f2 := frozen_of hB 2
          have c3 := cell_of hB 3 _ rfl
          have c2 := cell_of hB 2 _ rfl
          go_wp2_with fail
          clear c2 c3 f2
          have hT : Tm (WB.setCell ⟨b, 2, none⟩ (.float .f64 s')) b 38 L M s' d' v := hB.set2 _
          have hG : w.grownBy (WB.setCell ⟨b, 2, none⟩ (.float .f64 s')) (some b) := g_set hGB _ _
          generalize WB.setCell ⟨b, 2, none⟩ (.float .f64 s') = W1 at *
          have c0 := cell_of hT 0 _ rfl
          have c1 := cell_of hT 1 _ rfl
          have c2 := cell_of hT 2 _ rfl
          have c4 := cell_of hT 4 _ rfl
          have f4 := frozen_of hT 4
          go_region
          all_goals go_wp2
          all_goals go_end0
          all_goals refine ⟨rfl, ?_, g_drew (g_set hG _ _)⟩
          all_goals refine Tm.drew ?_
          · rw [show clamp L M n' = M by unfold clamp; omega]; exact hT.set4 _
          · rw [show clamp L M n' = L by unfold clamp; omega]; exact hT.set4 _
          · rw [show clamp L M n' = M by unfold clamp; omega]; exact hT.set4 _
          · rw [show clamp L M n' = n' by unfold clamp; omega]; exact hT.set4 _

end Go.Proofs.Ytpgaohmmjjgboaa
