/-
  The walks of the small functions on floats: what each hands back, as a function of the operands' bits.
-/
import Derived.Test.YtpgaohmmjjgboaaBits
import Derived.Test.YtpgaohmmjjgboaaRows
import Derived.WalkKit
import Derived.WalkLawsBesides
import Derived.WalkSpells
import Derived.Laws.Externs
import Derived.Lib.Hide
import Derived.Outline
import Derived.Deep.QuietTactic
import Derived.BigQuiet
namespace Go.Proofs.Ytpgaohmmjjgboaa
open Go.RowKit Ieee Fl

theorem run_f64bits (b : Nat) (w : World) : (callFunc 33 #[.float .f64 b]).run Try.prog w = .ok (.value (.int .u64 b)) w :=
  run_callFunc_extern (e := Extern.MathFloatBits.float64bits) Try.func33 (by kernel_rfl) (by kernel_rfl) (by kernel_rfl) (by kernel_rfl) _ w
theorem run_f64frombits (n : Int) (w : World) : (callFunc 32 #[.int .u64 n]).run Try.prog w = .ok (.value (.float .f64 n.toNat)) w :=
  run_callFunc_extern (e := Extern.MathFloatBits.float64frombits) Try.func32 (by kernel_rfl) (by kernel_rfl) (by kernel_rfl) (by kernel_rfl) _ w

theorem ret_float {a b : Nat} (h : a = b) : Ending.returned (.float .f64 a) = .returned (.float .f64 b) := by rw [h]

theorem none_any (x : Nat) (w : World) : Calls Try.prog 26 #[.float .f64 x] w fun e w' => e = .returned (.bool (nanB x)) ∧ w = w' := by
  go_enter Try.func26, Try.ntmps26
  go_wp2
  go_ret
  exact ⟨rfl, rfl⟩

theorem abs_any (x : Nat) (hx : x < 2 ^ 64) (w : World) : Calls Try.prog 28 #[.float .f64 x] w fun e w' => e = .returned (.float .f64 (absB x)) ∧ w = w' := by
  have h1 := run_f64bits x
  have h2 := run_f64frombits
  have h3 := andNot_top x hx
  clear hx
  go_enter Try.func28, Try.ntmps28
  go_wp2
  go_ret
  exact ⟨by simp, rfl⟩

theorem isinf_any (x : Nat) (hx : x < 2 ^ 64) (w : World) : Calls Try.prog 29 #[.float .f64 x, .int .i64 0] w fun e w' => e = .returned (.bool (infB x)) ∧ w = w' := by
  go_enter Try.func29, Try.ntmps29
  go_wp2_with (go_at_call 28; refine (abs_any x hx _).mono ?_; rintro e w' ⟨rfl, rfl⟩)
  go_ret
  exact ⟨rfl, rfl⟩

theorem nanc_any (w : World) : Calls Try.prog 23 #[] w fun e w' => e = .returned (.float .f64 9221120237041090561) ∧ w = w' := by
  have h2 := run_f64frombits
  go_enter Try.func23, Try.ntmps23
  go_wp2
  go_ret
  exact ⟨by simp, rfl⟩

/-- an operation that is invalid hands back some NaN; one answer is drawn -/
theorem run_nan (op : BinOp) (hop : op = .add ∨ op = .sub ∨ op = .mul ∨ op = .quo) (t : TypeId) (x y : Nat) (h : floatBits op .f64 x y = none) :
    ∃ f : World → Nat, ∀ w, nanB (f w) = true ∧ f w < 2 ^ 64 ∧ (binOp op t (.float .f64 x) (.float .f64 y)).run Try.prog w = .ok (.float .f64 (f w)) w.drew := by
  refine ⟨fun w => Question.cut (.nanBits .f64 x y) (w.tape w.drawn (.nanBits .f64 x y)), fun w => ?_⟩
  have hc : ∃ s k, INF < k ∧ k < 2 ^ 63 ∧ Question.cut (.nanBits .f64 x y) (w.tape w.drawn (.nanBits .f64 x y)) = wd s k := by
    generalize (w.tape w.drawn (.nanBits .f64 x y)) = t
    have hi : INF = 9218868437227405312 := by decide
    refine ⟨t % 2 == 1, INF + 1 + (t / 2) % (2 ^ 52 - 1), by omega, by omega, ?_⟩
    show (t % 2) * 2 ^ 63 + 0x7ff0000000000000 + 1 + (t / 2) % (2 ^ 52 - 1) = _
    rcases Nat.mod_two_eq_zero_or_one t with h0 | h0 <;> rw [h0]
    · show _ = wd false _
      rw [wd_pos, hi]
    · show _ = wd true _
      rw [wd_neg, hi]; omega
  obtain ⟨s, k, h1, h2, h3⟩ := hc
  dsimp only
  refine ⟨by rw [h3, nanB_wd s h2, decide_eq_true h1], by rw [h3]; exact wd_lt s h2, ?_⟩
  unfold floatBits at h
  rcases hop with rfl | rfl | rfl | rfl <;> simp only at h <;> simp [binOp, Op.floatArith, h, Question.forced]

theorem nan_any (w : World) : Calls Try.prog 25 #[] w fun e w' => ∃ b, e = .returned (.float .f64 b) ∧ nanB b = true ∧ b < 2 ^ 64 ∧ w.drewN 1 = w' := by
  obtain ⟨f, hf⟩ := run_nan .quo (.inr (.inr (.inr rfl))) 33 0 0 (by decide +kernel)
  obtain ⟨h1, h2, h3⟩ := hf w
  have H1 := Lib.hid h1
  clear h1 hf
  go_enter Try.func25, Try.ntmps25
  go_wp2
  go_ret
  exact ⟨_, rfl, H1.out, h2, rfl⟩

theorem isinf1_any (x : Nat) (w : World) : Calls Try.prog 29 #[.float .f64 x, .int .i64 1] w fun e w' => e = .returned (.bool (gtB x 9218868437227405311)) ∧ w = w' := by
  go_enter Try.func29, Try.ntmps29
  go_wp2_with fail
  go_ret
  exact ⟨rfl, rfl⟩

theorem infinite_any (x : Nat) (hx : x < 2 ^ 64) (w : World) : Calls Try.prog 31 #[.float .f64 x] w fun e w' => e = .returned (.bool (infB x)) ∧ ∃ n, w' = w.drewN n := by
  obtain ⟨s, k, hk, rfl⟩ := wd_cases hx
  have HI : Hid (infB (wd s k) = decide (k = INF)) := infB_wd s hk
  have HN : Hid (nanB (wd s k) = decide (INF < k)) := nanB_wd s hk
  rcases Nat.lt_trichotomy k INF with h1 | h1 | h1
  · have hn : nanB (wd s k) = false := by rw [HN.out]; simp; omega
    have hsub := fun W => run_float_arith (P := Try.prog) W .sub 33 .f64 (wd s k) (wd s k) 0 (sub_self s h1)
    have hz : nanB 0 = false := by decide +kernel
    have hr : infB (wd s k) = false := by rw [HI.out]; simp; omega
    rw [hr]
    clear hr hx hk h1
    go_enter Try.func31, Try.ntmps31
    go_wp2_with (go_at_call 26; refine (none_any _ _).mono ?_; rintro e w' ⟨rfl, rfl⟩)
    go_ret
    exact ⟨rfl, 0, rfl⟩
  · subst h1
    have hn : nanB (wd s INF) = false := by rw [HN.out]; simp
    obtain ⟨f, hf⟩ := run_nan .sub (.inr (.inl rfl)) 33 (wd s INF) (wd s INF) (sub_inf s)
    obtain ⟨h1, h2, hsub⟩ := hf w
    have hr : infB (wd s INF) = true := by rw [HI.out]; simp
    rw [hr]
    clear hr hx hk h2 hf
    go_enter Try.func31, Try.ntmps31
    go_wp2_with (go_at_call 26; refine (none_any _ _).mono ?_; rintro e w' ⟨rfl, rfl⟩)
    go_ret
    exact ⟨rfl, 1, rfl⟩
  · have hn : nanB (wd s k) = true := by rw [HN.out]; simp; omega
    have hr : infB (wd s k) = false := by rw [HI.out]; simp; omega
    rw [hr]
    clear hr hx hk h1
    go_enter Try.func31, Try.ntmps31
    go_wp2_with (go_at_call 26; refine (none_any _ _).mono ?_; rintro e w' ⟨rfl, rfl⟩)
    go_ret
    exact ⟨rfl, 0, rfl⟩

/- MIX -/
theorem ge0_cases {w : Nat} (h : ge0 w = true) : FloatKind.f64.format.order w 0 = some .gt ∨ FloatKind.f64.format.order w 0 = some .eq := by
  unfold ge0 gtB eqB at h
  have h' : double.order w 0 = some .gt ∨ double.order w 0 = some .eq := by simpa using h
  exact h'
theorem ge0_not {w : Nat} (h : ge0 w = false) : FloatKind.f64.format.order w 0 = none ∨ FloatKind.f64.format.order w 0 = some .lt := by
  unfold ge0 gtB eqB at h
  show double.order w 0 = none ∨ double.order w 0 = some .lt
  cases ho : double.order w 0 with
  | none => exact .inl rfl
  | some c => rw [ho] at h; cases c <;> simp_all
theorem le1_cases {w : Nat} (h : le1 w = true) : FloatKind.f64.format.order w 4607182418800017408 = some .lt ∨ FloatKind.f64.format.order w 4607182418800017408 = some .eq := by
  unfold le1 ltB eqB ONEB at h
  have h' : double.order w 4607182418800017408 = some .lt ∨ double.order w 4607182418800017408 = some .eq := by simpa using h
  exact h'
theorem le1_not {w : Nat} (h : le1 w = false) : FloatKind.f64.format.order w 4607182418800017408 = none ∨ FloatKind.f64.format.order w 4607182418800017408 = some .gt := by
  unfold le1 ltB eqB ONEB at h
  show double.order w _ = none ∨ double.order w _ = some .gt
  cases ho : double.order w 4607182418800017408 with
  | none => exact .inl rfl
  | some c => rw [ho] at h; cases c <;> simp_all
theorem nan_not {o : Nat} (h : nanB o = false) : FloatKind.f64.format.order o o = some .eq := by
  unfold nanB at h
  have h' : double.order o o = some .eq := by simpa using h
  exact h'
theorem nan_is {o : Nat} (h : nanB o = true) (ho : o < 2 ^ 64) : FloatKind.f64.format.order o o = none := nan_order h ho

set_option maxHeartbeats 1000000 in
/-- the way that reckons: its validity laid ahead -/
theorem mix_calc (o s w a v b r : Nat) (W : World) (hs : s < 2 ^ 64)
    (t1 : ge0 w = true) (t2 : le1 w = true) (t3 : nanB o = false) (t4 : ge0 s = true) (t5 : infB s = false)
    (ha : double.mul o w = some a) (hv : double.sub ONEB w = some v) (hb : double.mul s v = some b) (hr : double.add a b = some r) :
    Calls Try.prog 21 #[.float .f64 o, .float .f64 s, .float .f64 w] W fun e w' => e = .returned (.float .f64 r) ∧ W = w' := by
  have e1 := fun W => run_float_arith (P := Try.prog) W .mul 33 .f64 o w a ha
  have e2 := fun W => run_float_arith (P := Try.prog) W .sub 33 .f64 ONEB w v hv
  have e3 := fun W => run_float_arith (P := Try.prog) W .mul 33 .f64 s v b hb
  have e4 := fun W => run_float_arith (P := Try.prog) W .add 33 .f64 a b r hr
  have u1 := ge0_cases t1
  have u2 := le1_cases t2
  have u3 := nan_not t3
  have u4 := ge0_cases t4
  unfold ONEB at e2
  clear ha hv hb hr t1 t2 t3 t4
  rcases u1 with u1 | u1 <;> rcases u2 with u2 | u2 <;> rcases u4 with u4 | u4
  all_goals
    go_enter Try.func21, Try.ntmps21
    go_wp2_with (go_at_call 29; refine (isinf_any _ hs _).mono ?_; rintro e w' ⟨rfl, rfl⟩)
    go_ret
    exact ⟨rfl, rfl⟩

/-- what Mix hands back: some bits, or some NaN -/
def mixA (o s w : Nat) : Option Nat := (double.mul o w).bind fun a => ((double.sub ONEB w).bind fun v => double.mul s v).bind fun b => double.add a b
def mixO (o s w : Nat) : Option Nat := if (ge0 w && le1 w) = false then some o else if nanB o = true then some s else if (ge0 s && !infB s) = false then some o else mixA o s w

theorem w01 {w : Nat} (hw : w < 2 ^ 64) (t1 : ge0 w = true) (t2 : le1 w = true) : w = 2 ^ 63 ∨ w ≤ ONEB := by
  obtain ⟨s, k, hk, rfl⟩ := wd_cases hw
  have ho : ONEB < INF := by decide
  rcases Nat.lt_trichotomy k INF with h1 | h1 | h1
  · cases s
    · right
      have h := le1_cases t2
      have e : (4607182418800017408 : Nat) = wd false ONEB := rfl
      have h0 := order_wd false false h1 ho
      have h' : compare (sv false k) (sv false ONEB) = .lt ∨ compare (sv false k) (sv false ONEB) = .eq := by
        rcases h with h | h
        · left; exact Option.some.inj (h0.symm.trans h)
        · right; exact Option.some.inj (h0.symm.trans h)
      rw [Int.compare_eq_lt, Int.compare_eq_eq] at h'
      unfold sv at h'
      simp only [Bool.false_eq_true, if_false] at h'
      rw [wd_pos]
      exact RV_le_iff.1 (by omega)
    · left
      have h := ge0_cases t1
      have h0 := order_wd true false h1 (show 0 < INF by decide)
      have h' : compare (sv true k) (sv false 0) = .gt ∨ compare (sv true k) (sv false 0) = .eq := by
        rcases h with h | h
        · left; exact Option.some.inj (h0.symm.trans h)
        · right; exact Option.some.inj (h0.symm.trans h)
      rw [Int.compare_eq_gt, Int.compare_eq_eq] at h'
      unfold sv at h'
      simp only [Bool.false_eq_true, if_false, if_true] at h'
      have hz : RV 0 = 0 := rfl
      have : k = 0 := RV_inj (by omega)
      rw [this]; rfl
  · exfalso
    subst h1
    cases s
    · revert t2; decide
    · revert t1; decide
  · exfalso
    have h := nan_order (x := wd s k) (y := 0) (by rw [nanB_wd s hk]; simpa using h1) hw
    rcases ge0_cases t1 with h' | h' <;> exact absurd (h'.symm.trans h) (by simp)

/-- a number that is not below nought, nor infinite: a rung -/
theorem s_fin {s : Nat} (hs : s < 2 ^ 64) (t4 : ge0 s = true) (t5 : infB s = false) : ∃ z k, k < INF ∧ s = wd z k := by
  obtain ⟨z, k, hk, rfl⟩ := wd_cases hs
  rw [infB_wd z hk] at t5
  have h5 : k ≠ INF := by simpa using t5
  rcases Nat.lt_trichotomy k INF with h1 | h1 | h1
  · exact ⟨z, k, h1, rfl⟩
  · exact absurd h1 h5
  · exfalso
    have h := nan_order (x := wd z k) (y := 0) (by rw [nanB_wd z hk]; simpa using h1) hs
    rcases ge0_cases t4 with h' | h' <;> exact absurd (h'.symm.trans h) (by simp)

theorem RV_ONEB : RV ONEB = ONE := by decide +kernel

theorem mix_valid {s w : Nat} (hs : s < 2 ^ 64) (hw : w < 2 ^ 64) (t1 : ge0 w = true) (t2 : le1 w = true) (t4 : ge0 s = true) (t5 : infB s = false) :
    ∃ v b, double.sub ONEB w = some v ∧ double.mul s v = some b ∧ ∃ z k, k < INF ∧ b = wd z k := by
  obtain ⟨z, k, hk, rfl⟩ := s_fin hs t4 t5
  have ho : ONEB < INF := by decide
  have small : ∀ l, l ≤ ONEB → min (mulR k l) INF < INF := fun l hl => by
    have h1 : mulR k l ≤ k := mulR_le (Nat.mul_le_mul_left _ (by rw [← RV_ONEB]; exact RV_mono hl))
    omega
  rcases w01 hw t1 t2 with rfl | h
  · have e : double.sub ONEB (2 ^ 63) = some ONEB := by decide +kernel
    exact ⟨_, _, e, mul_wd z false hk ho, _, _, small ONEB (Nat.le_refl _), rfl⟩
  · have hw' : w < INF := by omega
    have hsub := sub_wd ho hw'
    have hle : subR ONEB w ≤ ONEB := subR_le (by unfold dif; have := RV_mono h; omega)
    have hd : decide (RV ONEB < RV w) = false := by have := RV_mono h; simp; omega
    rw [hd, Nat.min_eq_left (by omega)] at hsub
    exact ⟨_, _, hsub, mul_wd z false hk (by omega), _, _, small _ hle, rfl⟩

set_option maxHeartbeats 1000000 in
theorem mix_calc_nan (o s w v b : Nat) (W : World) (hs : s < 2 ^ 64)
    (t1 : ge0 w = true) (t2 : le1 w = true) (t3 : nanB o = false) (t4 : ge0 s = true) (t5 : infB s = false)
    (ha : double.mul o w = none) (hv : double.sub ONEB w = some v) (hb : double.mul s v = some b) :
    Calls Try.prog 21 #[.float .f64 o, .float .f64 s, .float .f64 w] W fun e w' => ∃ r, e = .returned (.float .f64 r) ∧ nanB r = true ∧ r < 2 ^ 64 ∧ W.drewN 2 = w' := by
  obtain ⟨f, hf⟩ := run_nan .mul (.inr (.inr (.inl rfl))) 33 o w ha
  obtain ⟨f1, f2, e1⟩ := hf W
  have hadd : floatBits .add .f64 (f W) b = none := by
    show (Datum.sum (double.read (f W)) (double.read b)).map double.write = none
    obtain ⟨z, k, hk, hfw⟩ := wd_cases f2
    rw [hfw] at f1 ⊢
    rw [nanB_wd z hk] at f1
    rw [read_nan z (by simpa using f1) hk]
    rfl
  obtain ⟨g, hg⟩ := run_nan .add (.inl rfl) 33 (f W) b hadd
  obtain ⟨g1, g2, e4⟩ := hg W.drew
  have e2 := fun W => run_float_arith (P := Try.prog) W .sub 33 .f64 ONEB w v hv
  have e3 := fun W => run_float_arith (P := Try.prog) W .mul 33 .f64 s v b hb
  have u1 := ge0_cases t1
  have u2 := le1_cases t2
  have u3 := nan_not t3
  have u4 := ge0_cases t4
  have G1 := Lib.hid g1
  unfold ONEB at e2
  clear ha hv hb t1 t2 t3 t4 f1 f2 g1 hf hg hadd
  rcases u1 with u1 | u1 <;> rcases u2 with u2 | u2 <;> rcases u4 with u4 | u4
  all_goals
    go_enter Try.func21, Try.ntmps21
    go_wp2_with (go_at_call 29; refine (isinf_any _ hs _).mono ?_; rintro e w' ⟨rfl, rfl⟩)
    go_ret
    exact ⟨_, rfl, G1.out, g2, rfl⟩

set_option maxHeartbeats 1000000 in
/-- the ways that hand back what was, or the sample -/
theorem mix_old (o s w : Nat) (W : World) (t1 : (ge0 w && le1 w) = false) : Calls Try.prog 21 #[.float .f64 o, .float .f64 s, .float .f64 w] W fun e w' => e = .returned (.float .f64 o) ∧ W = w' := by
  cases h1 : ge0 w
  · have u := ge0_not h1
    clear t1 h1
    rcases u with u | u
    all_goals
      go_enter Try.func21, Try.ntmps21
      go_wp2_with fail
      go_ret
      exact ⟨rfl, rfl⟩
  · have u := ge0_cases h1
    have u2 := le1_not (w := w) (by rw [h1] at t1; simpa using t1)
    clear t1 h1
    rcases u with u | u <;> rcases u2 with u2 | u2
    all_goals
      go_enter Try.func21, Try.ntmps21
      go_wp2_with fail
      go_ret
      exact ⟨rfl, rfl⟩

set_option maxHeartbeats 1000000 in
theorem mix_sample (o s w : Nat) (W : World) (ho : o < 2 ^ 64) (t1 : ge0 w = true) (t2 : le1 w = true) (t3 : nanB o = true) : Calls Try.prog 21 #[.float .f64 o, .float .f64 s, .float .f64 w] W fun e w' => e = .returned (.float .f64 s) ∧ W = w' := by
  have u1 := ge0_cases t1
  have u2 := le1_cases t2
  have u3 := nan_is t3 ho
  clear t1 t2 t3
  rcases u1 with u1 | u1 <;> rcases u2 with u2 | u2
  all_goals
    go_enter Try.func21, Try.ntmps21
    go_wp2_with fail
    go_ret
    exact ⟨rfl, rfl⟩

set_option maxHeartbeats 2000000 in
theorem mix_stays (o s w : Nat) (W : World) (hs : s < 2 ^ 64) (t1 : ge0 w = true) (t2 : le1 w = true) (t3 : nanB o = false) (t4 : (ge0 s && !infB s) = false) : Calls Try.prog 21 #[.float .f64 o, .float .f64 s, .float .f64 w] W fun e w' => e = .returned (.float .f64 o) ∧ W = w' := by
  have u1 := ge0_cases t1
  have u2 := le1_cases t2
  have u3 := nan_not t3
  clear t1 t2 t3
  cases h1 : ge0 s
  · have u := ge0_not h1
    clear t4 h1
    rcases u with u | u <;> rcases u1 with u1 | u1 <;> rcases u2 with u2 | u2
    all_goals
      go_enter Try.func21, Try.ntmps21
      go_wp2_with fail
      go_ret
      exact ⟨rfl, rfl⟩
  · have u := ge0_cases h1
    have h5 : infB s = true := by rw [h1] at t4; simpa using t4
    clear t4 h1
    rcases u with u | u <;> rcases u1 with u1 | u1 <;> rcases u2 with u2 | u2
    all_goals
      go_enter Try.func21, Try.ntmps21
      go_wp2_with (go_at_call 29; refine (isinf_any _ hs _).mono ?_; rintro e w' ⟨rfl, rfl⟩)
      go_ret
      exact ⟨rfl, rfl⟩

/-- MIX, whatever the numbers are. -/
theorem mix_any (o s w : Nat) (W : World) (ho : o < 2 ^ 64) (hs : s < 2 ^ 64) (hw : w < 2 ^ 64) :
    Calls Try.prog 21 #[.float .f64 o, .float .f64 s, .float .f64 w] W fun e w' => ∃ r n, e = .returned (.float .f64 r) ∧ FV (mixO o s w) r ∧ r < 2 ^ 64 ∧ w' = W.drewN n := by
  unfold mixO
  by_cases t0 : (ge0 w && le1 w) = false
  · rw [if_pos t0]
    exact (mix_old o s w W t0).mono fun e w' ⟨he, hw'⟩ => ⟨o, 0, he, rfl, ho, hw'.symm⟩
  rw [if_neg t0]
  have t12 : ge0 w = true ∧ le1 w = true := by simpa using t0
  obtain ⟨t1, t2⟩ := t12
  by_cases t3 : nanB o = true
  · rw [if_pos t3]
    exact (mix_sample o s w W ho t1 t2 t3).mono fun e w' ⟨he, hw'⟩ => ⟨s, 0, he, rfl, hs, hw'.symm⟩
  rw [if_neg t3]
  have t3' : nanB o = false := by simpa using t3
  by_cases t4 : (ge0 s && !infB s) = false
  · rw [if_pos t4]
    exact (mix_stays o s w W hs t1 t2 t3' t4).mono fun e w' ⟨he, hw'⟩ => ⟨o, 0, he, rfl, ho, hw'.symm⟩
  rw [if_neg t4]
  have t45 : ge0 s = true ∧ infB s = false := by simpa using t4
  obtain ⟨t4', t5⟩ := t45
  obtain ⟨v, b, hv, hb, hbf⟩ := mix_valid hs hw t1 t2 t4' t5
  unfold mixA
  rw [hv, Option.bind_some, hb]
  cases ha : double.mul o w with
  | none => exact (mix_calc_nan o s w v b W hs t1 t2 t3' t4' t5 ha hv hb).mono fun e w' ⟨r, he, hr, hr2, hw'⟩ => ⟨r, 2, he, hr, hr2, hw'.symm⟩
  | some a =>
    rw [Option.bind_some, Option.bind_some]
    obtain ⟨r, hr⟩ := add_valid (mul_form ha) hbf
    rw [hr]
    exact (mix_calc o s w a v b r W hs t1 t2 t3' t4' t5 ha hv hb hr).mono fun e w' ⟨he, hw'⟩ => ⟨r, 0, he, rfl, double.add_lt hr, hw'.symm⟩

end Go.Proofs.Ytpgaohmmjjgboaa
