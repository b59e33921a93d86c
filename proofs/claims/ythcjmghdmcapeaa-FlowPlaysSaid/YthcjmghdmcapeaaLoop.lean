/-
  The walk of the law, a window that is played: the loop over the script.
-/
import Derived.Test.YthcjmghdmcapeaaLaw
namespace Go.Proofs.Ythcjmghdmcapeaa
open Go.RowKit Go.Maps Go.ChangeShapes

/-- what is asked of both queues, behind a step -/
structure Asks (w0 wr : World) (bq bm br bi bb : Nat) (q : Q) : Prop where
  two : Two w0 wr bq bm br bi bb q q

theorem asks_next {w0 W : World} {bq bm br bi bb : Nat} {q q2 : Q} (h : Two w0 W bq bm br bi bb q q2) : Calls Try.prog 17 #[.pointer (some ⟨bq, 0, none⟩)] W fun e w' => e = .returned (.int .u32 (q.next : Int)) ∧ w' = W := by
  obtain ⟨rv, D, en, bs, v, h1, _⟩ := h
  exact (next_any h1).mono fun _ _ ⟨a, b⟩ => ⟨a, b.symm⟩
theorem asks_window {w0 W : World} {bq bm br bi bb : Nat} {q q2 : Q} (h : Two w0 W bq bm br bi bb q q2) : Calls Try.prog 18 #[.pointer (some ⟨bq, 0, none⟩)] W fun e w' => e = .returned (.int .i64 (q.window : Int)) ∧ ∃ n, w' = W.drewN n := by
  obtain ⟨rv, D, en, bs, v, h1, _⟩ := h
  exact window_any h1
theorem asks_rwindow {w0 W : World} {bq bm br bi bb : Nat} {q q2 : Q} (h : Two w0 W bq bm br bi bb q q2) : Calls Try.prog 19 #[.pointer (some ⟨br, 0, none⟩)] W fun e w' => e = .returned (.int .i64 (q2.window : Int)) ∧ ∃ n, w' = W.drewN n := by
  obtain ⟨rv, D, en, bs, v, _, h2, _⟩ := h
  exact rwindow_any h2
theorem asks_ready {w0 W : World} {bq bm br bi bb : Nat} {q q2 : Q} (h : Two w0 W bq bm br bi bb q q2) {l : Nat} (hl : q.ready.length = l) : Calls Try.prog 20 #[.pointer (some ⟨bq, 0, none⟩)] W fun e w' => e = .returned (.int .i64 (l : Int)) ∧ w' = W := by
  subst hl
  obtain ⟨rv, D, en, bs, v, h1, _⟩ := h
  exact (ready_any h1).mono fun _ _ ⟨a, b⟩ => ⟨a, b.symm⟩
theorem asks_held {w0 W : World} {bq bm br bi bb : Nat} {q q2 : Q} (h : Two w0 W bq bm br bi bb q q2) : Calls Try.prog 21 #[.pointer (some ⟨bq, 0, none⟩)] W fun e w' => e = .returned (.int .i64 (q.held : Int)) ∧ w' = W := by
  obtain ⟨rv, D, en, bs, v, h1, _⟩ := h
  exact (held_any h1).mono fun _ _ ⟨a, b⟩ => ⟨a, b.symm⟩
theorem asks_rheld {w0 W : World} {bq bm br bi bb : Nat} {q q2 : Q} (h : Two w0 W bq bm br bi bb q q2) : Calls Try.prog 22 #[.pointer (some ⟨br, 0, none⟩)] W fun e w' => e = .returned (.int .i64 (q2.held : Int)) ∧ w' = W := by
  obtain ⟨rv, D, en, bs, v, _, h2, _⟩ := h
  exact (rheld_any h2).mono fun _ _ ⟨a, b⟩ => ⟨a, b.symm⟩
theorem asks_ended {w0 W : World} {bq bm br bi bb : Nat} {q q2 : Q} (h : Two w0 W bq bm br bi bb q q2) : Calls Try.prog 23 #[.pointer (some ⟨bq, 0, none⟩)] W fun e w' => e = .returned (.bool q.ended) ∧ w' = W := by
  obtain ⟨rv, D, en, bs, v, h1, _⟩ := h
  exact (ended_any h1).mono fun _ _ ⟨a, b⟩ => ⟨a, b.symm⟩
theorem asks_cells {w0 W : World} {bq bm br bi bb : Nat} {q q2 : Q} (h : Two w0 W bq bm br bi bb q q2) : W.cell? ⟨br, 0, none⟩ = some (.int .u32 (q2.next : Int)) ∧ W.cell? ⟨br, 2, none⟩ = some (.string ⟨q2.ready.toArray⟩) ∧ W.cell? ⟨br, 7, none⟩ = some (.bool q2.ended) := by
  obtain ⟨rv, D, en, bs, v, _, h2, _⟩ := h
  exact ⟨cell_of h2.cells 0 _ rfl, cell_of h2.cells 2 _ rfl, cell_of h2.cells 7 _ rfl⟩

theorem ScriptAt.kept {w w' : World} {sb so len : Nat} {st : Nat → StepV} (h : ScriptAt w sb so len st) (hsb : sb < w.heap.size) (f : Fr (fun _ => False) w w') : ScriptAt w' sb so len st := by
  have e : ∀ o, w'.cell? ⟨sb, o, none⟩ = w.cell? ⟨sb, o, none⟩ := fun o => by
    unfold World.cell?
    rw [f.block sb hsb (fun e => e)]
  intro k hk
  have := h k hk
  exact ⟨this.1, (e _).trans this.2.1, (e _).trans this.2.2.1, (e _).trans this.2.2.2.1, (e _).trans this.2.2.2.2.1, (e _).trans this.2.2.2.2.2⟩

def LRel (w0 wr : World) (bq bm br bi bb : Nat) : Prop := ∃ q, Two w0 wr bq bm br bi bb q q

set_option maxHeartbeats 2000000 in
set_option maxRecDepth 100000 in
theorem law_yes (a : Option Addr) (len cap : Nat) (st : Nat → StepV) (w : World) (ha : len = 0 ∨ ∃ sb so, a = some ⟨sb, so, none⟩ ∧ sb < w.heap.size ∧ ScriptAt w sb so len st) (next : Nat) (x y z : Int) (n : Nat) (h0 : next < M32) (h1 : 1 ≤ n) (h2 : n ≤ 2048) :
    Calls Try.prog 3 #[.int .u32 (next : Int), .int .i64 (n : Int), .slice a len cap, .int .u32 x, .int .u32 y, .int .u32 z] w (WorksPost w) := by
  have hmay : (decide (1 ≤ (n : Int)) && decide ((n : Int) ≤ 65536)) = true := by
    rw [decide_eq_true (by omega), decide_eq_true (by omega)]; rfl
  have HM := Lib.hid hmay
  have g1 : decide (2048 < (n : Int)) = false := decide_eq_false (by omega)
  have ha' : len = 0 ∨ ∃ sb so, a = some ⟨sb, so, none⟩ ∧ ScriptAt w sb so len st := by
    rcases ha with h | ⟨sb, so, h3, _, h4⟩
    · exact .inl h
    · exact .inr ⟨sb, so, h3, h4⟩
  have HA := Lib.hid ha
  have H0 := Lib.hid h0
  clear hmay h0 ha
  go_enter Try.func3, Try.ntmps3
  go_wp2_with fail
  refine (heavy_any a len cap st w ha').mono ?_
  rintro e w1 ⟨⟨b, rfl, hb⟩, rfl⟩
  clear ha'
  cases b with
  | true =>
    go_wp2_with fail
    refine (works_any _).mono ?_
    rintro e w2 ⟨rfl, f⟩
    go_wp2_with fail
    go_ret
    exact ⟨rfl, f⟩
  | false =>
    have hlen : len ≤ 100 := hb rfl
    clear hb
    go_wp2_with fail
    refine (less_any x y _).mono ?_
    rintro e w2 ⟨rfl, rfl⟩
    go_wp2_with fail
    refine (rless_any x y _).mono ?_
    rintro e w2 ⟨rfl, rfl⟩
    go_wp2_with fail
    refine (in_any x y z _).mono ?_
    rintro e w2 ⟨rfl, rfl⟩
    go_wp2_with fail
    refine (rin_any x y z _).mono ?_
    rintro e w2 ⟨rfl, rfl⟩
    go_wp2_with fail
    refine (fnew_yes n next w w.heap.size (Nat.le_refl _) h1 (by omega) H0.out).mono ?_
    rintro e w2 ⟨bq, bm, D0, rfl, F0, hq, hm, f0⟩
    have G0 := Lib.hid f0
    have K0 := Lib.hid F0
    clear f0 F0
    go_wp2_with fail
    refine (may_any (n : Int) _).mono ?_
    rintro e w3 ⟨rfl, rfl⟩
    rw [HM.out]
    go_wp2_with fail
    refine (rnew_any w2 next n w2.heap.size H0.out h1 (by omega) (Nat.le_refl _)).mono ?_
    rintro e w3 ⟨br, bi, bb, bs, v, rfl, R0, f1⟩
    have hT : Two w w3 bq bm br bi bb (Q.new next n) (Q.new next n) := by
      have e1 := lt_of K0.out.cells
      have e2 := map_lt K0.out.own
      have e3 := R0.apart
      have e4 := G0.out.size
      refine ⟨_, _, _, bs, v, K0.out.new f1, ⟨R0.cells, R0.is, R0.b, R0.len, R0.got, R0.endAt, ⟨by omega, by omega, by omega, e3.2.2.2⟩, R0.inv⟩, G0.out.trans f1, (fun r (hr : (Value.slice none 0 0).ownBlock = some r) => by cases hr), by omega⟩
    have HT := Lib.hid hT
    clear hT f1 R0 K0 G0
    go_wp2_with fail
    go_loopw [16] (fun i wr => ∃ k : Nat, k ≤ len ∧ i = .int .i64 k ∧ LRel w wr bq bm br bi bb) (fun i _ => len - (intOf i).toNat)
    case atStart => exact ⟨0, Nat.zero_le _, rfl, _, HT.out⟩
    case round =>
      obtain ⟨k, hk, rfl, q, hq2⟩ := hrel
      have HQ := Lib.hid hq2
      clear HT hq2
      by_cases hkl : k < len
      · have t1 : decide ((k : Int) < (len : Int)) = true := decide_eq_true (by omega)
        rcases HA.out with h9 | ⟨sb, so, rfl, hsb, hsc⟩
        · omega
        · obtain ⟨s1, c0, c1, c2, c3, c4⟩ := hsc.kept hsb HQ.out.fr k hkl
          clear hsc
          generalize st k = sk at *
          obtain ⟨seq, data, fin, reads, m⟩ := sk
          simp only at c0 c1 c2 c3 c4 s1
          have S1 := Lib.hid s1
          clear s1
          cases reads with
          | true =>
            have hb := HQ.out.boxed #[.int .u32 (seq : Int), .string data, .bool fin, .bool true, .int .i64 m]
            go_wp2_with fail
            generalize wr.alloc (.cells #[.int .u32 (seq : Int), .string data, .bool fin, .bool true, .int .i64 m] 36) = W at *
            generalize wr.heap.size = p at *
            have d4 := hb.drew.cell 4 _ rfl
            have HB := Lib.hid hb.drew
            clear hb c0 c1 c2 c3 c4
            go_region_held3 (fun w' => w'.cell? ⟨p, 4, none⟩ = some (.int .i64 m)) (first | exact d4 | exact d5 | exact d6) (first
              | (go_at_call 13; refine (t_read HB.out m).mono ?_; rintro e w4 ⟨rfl, hx⟩; have d5 := hx.cell 4 _ rfl; have HX := Lib.hid hx; clear hx)
              | (go_at_call 14; refine (t_rread HX.out m).mono ?_; rintro e w5 ⟨rfl, hy⟩; have d6 := hy.cell 4 _ rfl; have HY := Lib.hid hy; clear hy))
            have hT2 := HY.out.two
            clear HB HX HY d4 d5 d6
            generalize hq3 : q.read (takesN m q.ready.length) = q3 at *
            clear hq3
            obtain ⟨e0, e2, e7⟩ := asks_cells hT2
            have HT2 := Lib.hid hT2
            clear hT2
            generalize hq4 : q3.ready.length = l3 at *
            have hsz : (⟨q3.ready.toArray⟩ : ByteArray).size = l3 := by rw [← hq4]; rfl
            have HL := Lib.hid hq4
            clear hq4
            go_wp2_with fail
            go_quiet ((first
              | (go_at_call 17; exact Calls.quiet_of_same (asks_next (HT2.out.drewN _)))
              | (go_at_call 18; exact Calls.quiet_of (asks_window (HT2.out.drewN _)))
              | (go_at_call 19; exact Calls.quiet_of (asks_rwindow (HT2.out.drewN _)))
              | (go_at_call 20; exact Calls.quiet_of_same (asks_ready (HT2.out.drewN _) HL.out))
              | (go_at_call 21; exact Calls.quiet_of_same (asks_held (HT2.out.drewN _)))
              | (go_at_call 22; exact Calls.quiet_of_same (asks_rheld (HT2.out.drewN _)))
              | (go_at_call 23; exact Calls.quiet_of_same (asks_ended (HT2.out.drewN _)))))
            have HT3 := Lib.hid (HT2.out.drewN nq)
            clear HT2 HL hsz e0 e2 e7
            generalize w5.drewN nq = w6 at *
            go_wp2_with fail
            go_roundw
            case rel => exact ⟨k + 1, by omega, by go_num, q3, HT3.out⟩
            case measure => simp [intOf]; omega
          | false =>
            have hb := HQ.out.boxed #[.int .u32 (seq : Int), .string data, .bool fin, .bool false, .int .i64 m]
            go_wp2_with fail
            generalize wr.alloc (.cells #[.int .u32 (seq : Int), .string data, .bool fin, .bool false, .int .i64 m] 36) = W at *
            generalize wr.heap.size = p at *
            have d4 : W.drew.cell? ⟨p, 0, none⟩ = some (.int .u32 (seq : Int)) ∧ W.drew.cell? ⟨p, 1, none⟩ = some (.string data) ∧ W.drew.cell? ⟨p, 2, none⟩ = some (.bool fin) := ⟨hb.drew.cell 0 _ rfl, hb.drew.cell 1 _ rfl, hb.drew.cell 2 _ rfl⟩
            have HB := Lib.hid hb.drew
            clear hb c0 c1 c2 c3 c4
            go_region_held3 (fun w' => w'.cell? ⟨p, 0, none⟩ = some (.int .u32 (seq : Int)) ∧ w'.cell? ⟨p, 1, none⟩ = some (.string data) ∧ w'.cell? ⟨p, 2, none⟩ = some (.bool fin)) (first | exact d4 | exact d5 | exact d6) (first
              | (go_at_call 15; refine (t_put HB.out seq data fin).mono ?_; rintro e w4 ⟨rfl, hx⟩; have d5 : w4.cell? ⟨p, 0, none⟩ = some (.int .u32 (seq : Int)) ∧ w4.cell? ⟨p, 1, none⟩ = some (.string data) ∧ w4.cell? ⟨p, 2, none⟩ = some (.bool fin) := ⟨hx.cell 0 _ rfl, hx.cell 1 _ rfl, hx.cell 2 _ rfl⟩; have HX := Lib.hid hx; clear hx)
              | (go_at_call 16; refine (t_rput HX.out seq data fin).mono ?_; rintro e w5 ⟨rfl, hy⟩; have d6 : w5.cell? ⟨p, 0, none⟩ = some (.int .u32 (seq : Int)) ∧ w5.cell? ⟨p, 1, none⟩ = some (.string data) ∧ w5.cell? ⟨p, 2, none⟩ = some (.bool fin) := ⟨hy.cell 0 _ rfl, hy.cell 1 _ rfl, hy.cell 2 _ rfl⟩; have HY := Lib.hid hy; clear hy))
            have hT2 := HY.out.two
            clear HB HX HY d4 d5 d6
            generalize hq3 : q.put seq data.data.toList fin = q3 at *
            clear hq3
            obtain ⟨e0, e2, e7⟩ := asks_cells hT2
            have HT2 := Lib.hid hT2
            clear hT2
            generalize hq4 : q3.ready.length = l3 at *
            have hsz : (⟨q3.ready.toArray⟩ : ByteArray).size = l3 := by rw [← hq4]; rfl
            have HL := Lib.hid hq4
            clear hq4
            go_wp2_with fail
            go_quiet ((first
              | (go_at_call 17; exact Calls.quiet_of_same (asks_next (HT2.out.drewN _)))
              | (go_at_call 18; exact Calls.quiet_of (asks_window (HT2.out.drewN _)))
              | (go_at_call 19; exact Calls.quiet_of (asks_rwindow (HT2.out.drewN _)))
              | (go_at_call 20; exact Calls.quiet_of_same (asks_ready (HT2.out.drewN _) HL.out))
              | (go_at_call 21; exact Calls.quiet_of_same (asks_held (HT2.out.drewN _)))
              | (go_at_call 22; exact Calls.quiet_of_same (asks_rheld (HT2.out.drewN _)))
              | (go_at_call 23; exact Calls.quiet_of_same (asks_ended (HT2.out.drewN _)))))
            have HT3 := Lib.hid (HT2.out.drewN nq)
            clear HT2 HL hsz e0 e2 e7
            generalize w5.drewN nq = w6 at *
            go_wp2_with fail
            go_roundw
            case rel => exact ⟨k + 1, by omega, by go_num, q3, HT3.out⟩
            case measure => simp [intOf]; omega
      · have t1 : decide ((k : Int) < (len : Int)) = false := decide_eq_false (by omega)
        go_wp2_with fail
        refine (works_any _).mono ?_
        rintro e w6 ⟨rfl, f6⟩
        go_wp2_with fail
        go_ret
        exact ⟨rfl, HQ.out.fr.trans f6⟩

end Go.Proofs.Ythcjmghdmcapeaa
