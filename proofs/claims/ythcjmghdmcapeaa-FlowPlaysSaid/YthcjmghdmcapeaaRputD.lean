/-
  The walk of the reference's Put: case D (printed by rputgen.py).
-/
import Derived.Test.YthcjmghdmcapeaaRput
namespace Go.Proofs.Ythcjmghdmcapeaa
open Go.RowKit Go.Maps Go.ChangeShapes

set_option maxHeartbeats 8000000 in
set_option maxRecDepth 100000 in
theorem rput_D {w : World} {B br bi bb : Nat} {bs : List UInt8} {q : Q} {v : Int} (h : RQ w B br bi bb bs q v) (seq : Nat) (s : ByteArray) (he : q.ended = false) (hs : s.size ≤ 65536) (hend : q.e = none) (hwd : decide (q.pos ((seq + s.size) % M32) < q.win + 1) = true) (hcl0 : (q.putN seq s.data.toList s.size).clear (q.pos ((seq + s.size) % M32)) = false) :
    Calls Try.prog 16 #[.pointer (some ⟨br, 0, none⟩), .int .u32 (seq : Int), .string s, .bool true] w (RPutPost w B br bi bb q seq s.data.toList true) := by
  have c7 := cell_of h.cells 7 _ rfl
  have c0 := cell_of h.cells 0 _ rfl
  rw [he] at c7
  have hN := h.inv.next
  have hwin2 : q.win ≤ 65536 := by have := h.inv.size2; unfold Q.win; omega
  have hws : q.win ≤ q.size := by unfold Q.win; omega
  have F := Lib.hid h
  have HE := Lib.hid he
  have hst : R1 w w B br bi bb q seq s.data.toList v 0 := ⟨bs, h, Fr.refl⟩
  have HST := Lib.hid hst
  have Hhend := Lib.hid hend
  have Hhwd := Lib.hid hwd
  have Hhcl0 := Lib.hid hcl0
  clear h he hst hend hwd hcl0
  go_enter Try.func16, Try.ntmps16
  go_wp2_with fail
  go_loopw [10] (fun i wr => ∃ k : Nat, k ≤ s.size ∧ i = .int .i64 k ∧ R1 w wr B br bi bb q seq s.data.toList v k) (fun i _ => s.size - (intOf i).toNat)
  case atStart => exact ⟨0, Nat.zero_le _, rfl, HST.out⟩
  case round =>
    obtain ⟨k, hk, rfl, bk, hF, hfr⟩ := hrel
    clear c0 c7
    by_cases hkl : k < s.size
    · obtain ⟨d, hd⟩ : ∃ d, s.data.toList[k]? = some d := ⟨_, List.getElem?_eq_getElem (by rw [Array.length_toList]; exact hkl)⟩
      have hstep : q.putN seq s.data.toList (k + 1) = _ := putN_succ hd
      have hqk := putN_same q seq s.data.toList k
      have hpk : ∀ j, (q.putN seq s.data.toList k).pos j = q.pos j := putN_pos q seq _ k
      have hwk : (q.putN seq s.data.toList k).win = q.win := putN_win q seq _ k
      generalize hpp : (seq + k) % M32 = pk at *
      have epk : (((seq : Int) + (k : Int)) % 4294967296 - (q.next : Int)) % 4294967296 = (q.pos pk : Int) := by
        rw [← hpp]; unfold Q.pos M32 at *; omega
      generalize q.putN seq s.data.toList k = qk at *
      have c0 := cell_of hF.cells 0 _ rfl
      rw [hqk.1] at c0
      have hbyte : s[k]'hkl = d := by
        rw [Array.getElem?_toList, Array.getElem?_eq_getElem (h := hkl)] at hd
        exact Option.some.inj hd
      have F1 := Lib.hid hF
      have FR := Lib.hid hfr
      have HST := Lib.hid hstep
      have HQ := Lib.hid hqk
      have HW2 := Lib.hid hwk
      have HP2 := Lib.hid hpk
      have hwnd := fun W (hW : RQ W B br bi bb bk qk v) => rwindow_any hW
      have ewin : qk.window = q.win := by unfold Q.window; rw [hqk.2.2.2.2, HE.out]; exact hwk
      rw [ewin] at hwnd
      have HWN := Lib.hid hwnd
      have hT : q.putN seq s.data.toList (k + 1) = qk ∨ qk.takes (q.pos pk) = true := by
        cases ht : qk.takes (q.pos pk) with
        | true => exact .inr rfl
        | false => left; rw [hstep]; exact put1_no ht
      have hsz : qk.size = q.size := hqk.2.1
      clear hF hfr hqk hwk hpk hwnd ewin hstep
      have cs : (¬ q.pos pk < q.win) ∨ (q.pos pk < q.win ∧ (qk.got (q.pos pk)).isSome = true) ∨ (q.pos pk < q.win ∧ qk.got (q.pos pk) = none ∧ qk.e = none) ∨ (∃ x, q.pos pk < q.win ∧ qk.got (q.pos pk) = none ∧ qk.e = some x ∧ ¬ q.pos pk < x) ∨ (∃ x, q.pos pk < q.win ∧ qk.got (q.pos pk) = none ∧ qk.e = some x ∧ q.pos pk < x) := by
        by_cases h1 : q.pos pk < q.win
        · right
          cases hg : qk.got (q.pos pk) with
          | some u => exact .inl ⟨h1, rfl⟩
          | none =>
            right
            cases qk.e with
            | none => exact .inl ⟨h1, rfl, rfl⟩
            | some x =>
              right
              by_cases h : q.pos pk < x
              · exact .inr ⟨x, h1, rfl, rfl, h⟩
              · exact .inl ⟨x, h1, rfl, rfl, h⟩
        · exact .inl h1
      have hno : ¬ qk.takes (q.pos pk) = true → q.putN seq s.data.toList (k + 1) = qk := fun h => hT.resolve_right h
      have HNO := Lib.hid hno
      clear hno hT
      rcases cs with h1 | ⟨h1, h2⟩ | ⟨h1, h2, h3⟩ | ⟨x, h1, h2, h3, h4⟩ | ⟨x, h1, h2, h3, h4⟩
      · have HNT := Lib.hid (HNO.out (fun h => h1 (by have := (takes_iff.1 h).1; rw [HW2.out] at this; exact this)))
        have t1 : decide (((q.pos pk : Nat) : Int) < (q.win : Int)) = false := decide_eq_false (by omega)
        have t2 : decide (q.pos pk < q.win) = false := decide_eq_false h1
        clear h1
        go_wp2_with fail
        rw [epk]
        refine (HWN.out _ F1.out).mono ?_
        rintro e W1 ⟨rfl, n1, rfl⟩
        have F2 := Lib.hid (F1.out.new (Fr.refl.drewN n1))
        have FR2 := Lib.hid (FR.out.drewN n1)
        clear c0 F1 FR
        generalize wr.drewN n1 = W1 at *
        have c3 := cell_of F2.out.cells 3 _ rfl
        have c5 := cell_of F2.out.cells 5 _ rfl
        have c6 := cell_of F2.out.cells 6 _ rfl
        go_wp2_with fail
        go_roundw
        case rel => exact ⟨k + 1, by omega, by go_num, _, by rw [HNT.out]; exact F2.out, FR2.out⟩
        case measure => simp [intOf]; omega
      · have HNT := Lib.hid (HNO.out (fun h => by have := (takes_iff.1 h).2.1; rw [this] at h2; cases h2))
        have t1 : decide (((q.pos pk : Nat) : Int) < (q.win : Int)) = true := decide_eq_true (by omega)
        have t2 : decide (q.pos pk < q.win) = true := decide_eq_true h1
        have hp1 : q.pos pk < qk.size + 1 := by omega
        have HG := Lib.hid h2
        clear h1 h2
        go_wp2_with fail
        rw [epk]
        refine (HWN.out _ F1.out).mono ?_
        rintro e W1 ⟨rfl, n1, rfl⟩
        have F2 := Lib.hid (F1.out.new (Fr.refl.drewN n1))
        have FR2 := Lib.hid (FR.out.drewN n1)
        clear c0 F1 FR
        generalize wr.drewN n1 = W1 at *
        have c3 := cell_of F2.out.cells 3 _ rfl
        have c5 := cell_of F2.out.cells 5 _ rfl
        have c6 := cell_of F2.out.cells 6 _ rfl
        have ci := F2.out.isAt hp1
        rw [HG.out] at ci
        go_wp2_with fail
        go_roundw
        case rel => exact ⟨k + 1, by omega, by go_num, _, by rw [HNT.out]; exact F2.out, FR2.out⟩
        case measure => simp [intOf]; omega
      · have HT := Lib.hid (show qk.takes (q.pos pk) = true from takes_iff.2 ⟨by rw [HW2.out]; exact h1, h2, fun x hx => by rw [h3] at hx; cases hx⟩)
        have t1 : decide (((q.pos pk : Nat) : Int) < (q.win : Int)) = true := decide_eq_true (by omega)
        have t2 : decide (q.pos pk < q.win) = true := decide_eq_true h1
        have hp1 : q.pos pk < qk.size + 1 := by omega
        have HG := Lib.hid (And.intro h2 h3)
        clear h1 h2 h3
        go_wp2_with fail
        rw [epk]
        refine (HWN.out _ F1.out).mono ?_
        rintro e W1 ⟨rfl, n1, rfl⟩
        have F2 := Lib.hid (F1.out.new (Fr.refl.drewN n1))
        have FR2 := Lib.hid (FR.out.drewN n1)
        clear c0 F1 FR
        generalize wr.drewN n1 = W1 at *
        have c3 := cell_of F2.out.cells 3 _ rfl
        have c5 := cell_of F2.out.cells 5 _ rfl
        have c6 := cell_of F2.out.cells 6 _ rfl
        have ci := F2.out.isAt hp1
        rw [HG.out.1] at ci
        rw [HG.out.2] at c5
        have f1 := frozen_of F2.out.is (q.pos pk)
        obtain ⟨u0, hu0⟩ := F2.out.bAny hp1
        have HB := Lib.hid hu0
        clear hu0
        go_wp2_with fail
        have F3 := Lib.hid (rput_step F2.out (d := d) HT.out rfl)
        have hm := rput_mid F2.out HB.out
        obtain ⟨c4, cb, fb⟩ := hm
        clear c3 c5 c6 ci f1 F2
        generalize W1.setCell ⟨bi, q.pos pk, none⟩ (.bool true) = W2 at *
        go_region
        go_wp2_with fail
        go_roundw
        case rel => exact ⟨k + 1, by omega, by go_num, _, by rw [HST.out]; exact F3.out.1, FR2.out.trans F3.out.2⟩
        case measure => simp [intOf]; omega
      · have HNT := Lib.hid (HNO.out (fun h => h4 ((takes_iff.1 h).2.2 x h3)))
        have t1 : decide (((q.pos pk : Nat) : Int) < (q.win : Int)) = true := decide_eq_true (by omega)
        have t2 : decide (q.pos pk < q.win) = true := decide_eq_true h1
        have hp1 : q.pos pk < qk.size + 1 := by omega
        have HG := Lib.hid (And.intro h2 h3)
        have hv := F1.out.endAt x h3 (by rw [HQ.out.2.2.2.2]; exact HE.out)
        have t3 : decide (q.pos pk < x) = false := decide_eq_false h4
        clear h1 h2 h3 h4
        go_wp2_with fail
        rw [epk]
        refine (HWN.out _ F1.out).mono ?_
        rintro e W1 ⟨rfl, n1, rfl⟩
        have F2 := Lib.hid (F1.out.new (Fr.refl.drewN n1))
        have FR2 := Lib.hid (FR.out.drewN n1)
        clear c0 F1 FR
        generalize wr.drewN n1 = W1 at *
        have c3 := cell_of F2.out.cells 3 _ rfl
        have c5 := cell_of F2.out.cells 5 _ rfl
        have c6 := cell_of F2.out.cells 6 _ rfl
        have ci := F2.out.isAt hp1
        rw [HG.out.1] at ci
        rw [HG.out.2] at c5
        rw [hv] at c6
        go_wp2_with fail
        go_roundw
        case rel => exact ⟨k + 1, by omega, by go_num, _, by rw [HNT.out]; exact F2.out, FR2.out⟩
        case measure => simp [intOf]; omega
      · have HT := Lib.hid (show qk.takes (q.pos pk) = true from takes_iff.2 ⟨by rw [HW2.out]; exact h1, h2, fun y hx => by rw [h3] at hx; injection hx with hx; rw [← hx]; exact h4⟩)
        have t1 : decide (((q.pos pk : Nat) : Int) < (q.win : Int)) = true := decide_eq_true (by omega)
        have t2 : decide (q.pos pk < q.win) = true := decide_eq_true h1
        have hp1 : q.pos pk < qk.size + 1 := by omega
        have HG := Lib.hid (And.intro h2 h3)
        have hv := F1.out.endAt x h3 (by rw [HQ.out.2.2.2.2]; exact HE.out)
        have t3 : decide (q.pos pk < x) = true := decide_eq_true h4
        clear h1 h2 h3 h4
        go_wp2_with fail
        rw [epk]
        refine (HWN.out _ F1.out).mono ?_
        rintro e W1 ⟨rfl, n1, rfl⟩
        have F2 := Lib.hid (F1.out.new (Fr.refl.drewN n1))
        have FR2 := Lib.hid (FR.out.drewN n1)
        clear c0 F1 FR
        generalize wr.drewN n1 = W1 at *
        have c3 := cell_of F2.out.cells 3 _ rfl
        have c5 := cell_of F2.out.cells 5 _ rfl
        have c6 := cell_of F2.out.cells 6 _ rfl
        have ci := F2.out.isAt hp1
        rw [HG.out.1] at ci
        rw [HG.out.2] at c5
        rw [hv] at c6
        have f1 := frozen_of F2.out.is (q.pos pk)
        obtain ⟨u0, hu0⟩ := F2.out.bAny hp1
        have HB := Lib.hid hu0
        clear hu0
        go_wp2_with fail
        have F3 := Lib.hid (rput_step F2.out (d := d) HT.out rfl)
        have hm := rput_mid F2.out HB.out
        obtain ⟨c4, cb, fb⟩ := hm
        clear c3 c5 c6 ci f1 F2
        generalize W1.setCell ⟨bi, q.pos pk, none⟩ (.bool true) = W2 at *
        go_region
        go_wp2_with fail
        go_roundw
        case rel => exact ⟨k + 1, by omega, by go_num, _, by rw [HST.out]; exact F3.out.1, FR2.out.trans F3.out.2⟩
        case measure => simp [intOf]; omega
    · have hk2 : k = s.size := by omega
      subst hk2
      have hend := Hhend.out
      have hwd := Hhwd.out
      have hcl0 := Hhcl0.out
      have hlen0 : s.data.toList.length = s.size := by rw [Array.length_toList]; rfl
      have hqk := putN_same q seq s.data.toList s.size
      have hmid : ∀ f, q.mid seq s.data.toList f = (q.putN seq s.data.toList s.size).fin (q.pos ((seq + s.size) % M32)) f := fun f => by unfold Q.mid; rw [hlen0]
      have hpk : ∀ j, (q.putN seq s.data.toList s.size).pos j = q.pos j := putN_pos q seq _ _
      have hwk : (q.putN seq s.data.toList s.size).win = q.win := putN_win q seq _ _
      generalize q.putN seq s.data.toList s.size = q1 at *
      generalize hpp : (seq + s.size) % M32 = pe at *
      have hpe32 : pe < M32 := by rw [← hpp]; exact Nat.mod_lt _ (by decide)
      have epe : (((seq : Int) + (s.size : Int)) % 4294967296 - (q.next : Int)) % 4294967296 = (q.pos pe : Int) := by
        rw [← hpp]; unfold Q.pos M32 at *; omega
      have hlen : s.data.toList.length ≤ 65536 := by omega
      have c0 := cell_of hF.cells 0 _ rfl
      rw [hqk.1] at c0
      have F1 := Lib.hid hF
      have HM := Lib.hid hmid
      have FR := Lib.hid hfr
      have HQ := Lib.hid hqk
      have HW2 := Lib.hid hwk
      clear hF hfr hqk hwk hpk hmid
      skip
      have HCL0 := Lib.hid hcl0
      have HEN := Lib.hid (show q1.e = none by rw [HQ.out.2.2.2.1]; exact hend)
      have hsz : q1.size = q.size := HQ.out.2.1
      have hwnd := fun W (hW : RQ W B br bi bb bk q1 v) => rwindow_any hW
      have ewin : q1.window = q.win := by unfold Q.window; rw [HQ.out.2.2.2.2, HE.out]; exact HW2.out
      rw [ewin] at hwnd
      have HWN := Lib.hid hwnd
      clear hwnd ewin
      have c5 := cell_of F1.out.cells 5 _ rfl
      rw [HQ.out.2.2.2.1, hend] at c5
      clear hend hcl0
      go_wp2_with fail
      rw [epe]
      refine (HWN.out _ F1.out).mono ?_
      rintro e W1 ⟨rfl, n1, rfl⟩
      have F3 := Lib.hid (F1.out.new (Fr.refl.drewN n1))
      have FR3 := Lib.hid (FR.out.drewN n1)
      clear c0 c5 F1 FR
      generalize wr.drewN n1 = W3 at *
      have c3 := cell_of F3.out.cells 3 _ rfl
      have hs2 := F3.out.inv.size2
      have hx : q.pos pe ≤ q1.size + 1 := by have := of_decide_eq_true hwd; omega
      have t1 : decide (((q.pos pe : Nat) : Int) < (q.win : Int) + 1) = true := decide_eq_true (by have := of_decide_eq_true hwd; omega)
      have HWD := Lib.hid hwd
      clear hwd
      generalize hxx : q.pos pe = x at *
      go_wp2_with fail
      go_loop [13, 14] (fun f i => ∃ k : Nat, x ≤ k ∧ k ≤ q1.size + 1 ∧ i = .int .i64 k ∧ f = .bool (clrN q1 x k)) (fun _ i => q1.size + 1 - (intOf i).toNat)
      case atStart => exact ⟨x, Nat.le_refl _, hx, rfl, by rw [clrN_zero]⟩
      case round =>
        obtain ⟨k, hk1, hk2, rfl, rfl⟩ := hrel
        by_cases hkl : k < q1.size + 1
        · have ck := F3.out.isAt hkl
          have hcl := clrN_succ (q := q1) hk1
          cases hc : clrN q1 x k
          · rw [hc] at hcl
            have HCL := Lib.hid hcl
            clear hcl ck
            go_wp2_with fail
            go_round
            case rel => exact ⟨k + 1, by omega, by omega, by go_num, by rw [HCL.out]; rfl⟩
            case measure => simp [intOf]; omega
          · rw [hc] at hcl
            have HCL := Lib.hid hcl
            clear hcl
            go_wp2_with fail
            go_round
            case rel => exact ⟨k + 1, by omega, by omega, by go_num, by rw [HCL.out]; cases q1.got k <;> rfl⟩
            case measure => simp [intOf]; omega
        · have hk3 : k = q1.size + 1 := by omega
          subst hk3
          have hcc := clrN_end F3.out.inv hx
          rw [hcc]
          rw [HCL0.out]
          have hM : q.mid seq s.data.toList true = q1 := by rw [HM.out]; unfold Q.fin; rw [HCL0.out]; simp
          have F4 := Lib.hid (show RQ W3 B br bi bb bk (q.mid seq s.data.toList true) v by rw [hM]; exact F3.out)
          have FR4 := FR3
          clear hM hcc F3
          go_upto_region 21 with fail
          clear c3
          generalize hq4 : q.mid seq s.data.toList true = q4 at *
          have HPUT := Lib.hid (show q.put seq s.data.toList true = (q4.pop (lead q4.h)).close by rw [← hq4]; exact put_open HE.out hlen true)
          have HNE := Lib.hid (show q4.ended = false by rw [← hq4, (mid_same q seq s.data.toList true).2.2.2]; exact HE.out)
          have HNX := Lib.hid (show q4.next = q.next by rw [← hq4, (mid_same q seq s.data.toList true).1])
          clear hq4
          obtain ⟨v4, hF4⟩ := F4.out.ex
          have F4 := Lib.hid hF4
          clear hF4
          have c3 := cell_of F4.out.cells 3 _ rfl
          have hs4 := F4.out.inv.size2
          have hlw := lead_win F4.out.inv
          have hw4 : q4.win ≤ q4.size := by unfold Q.win; omega
          go_wp2_with fail
          go_loop [15] (fun i => ∃ k : Nat, k ≤ lead q4.h ∧ i = .int .i64 k) (fun i => q4.size + 1 - (intOf i).toNat)
          case atStart => exact ⟨0, Nat.zero_le _, rfl⟩
          case round =>
            obtain ⟨k, hk, rfl⟩ := hrel
            have hkl : k < q4.size + 1 := by omega
            have ck := F4.out.isAt hkl
            by_cases hlt : k < lead q4.h
            · have hg : (q4.got k).isSome = true := by
                obtain ⟨u, hu⟩ := lead_get hlt
                unfold Q.got; rw [hu]; rfl
              rw [hg] at ck
              clear hg
              go_wp2_with fail
              go_round
              case rel => exact ⟨k + 1, by omega, by go_num⟩
              case measure => simp [intOf]; omega
            · have hk4 : k = lead q4.h := by omega
              subst hk4
              have hg : (q4.got (lead q4.h)).isSome = false := by
                unfold Q.got; rw [lead_end]; rfl
              rw [hg] at ck
              have c2 := cell_of F4.out.cells 2 _ rfl
              have c4 := cell_of F4.out.cells 4 _ rfl
              have f2 := frozen_of F4.out.cells 2
              have hstr := F4.out.bString hkl
              have hadd := F4.out.addString (m := lead q4.h)
              clear hg
              generalize hm : lead q4.h = m at *
              go_wp2_with fail
              have hS0 := sq_start (r := q4.ready ++ bk.take m) (m := m) F4.out
              have HAP := F4.out.apart.2.2.2
              have hF0 := FR4.out.setCell (p := ⟨br, 2, none⟩) (.inl (.inl rfl)) (.string ⟨(q4.ready ++ bk.take m).toArray⟩)
              have S0 := Lib.hid (And.intro hS0 hF0)
              clear hS0 hF0
              go_region
              clear c3 ck c2 c4 f2 hstr hadd
              go_wp2_with fail
              go_loopw [16] (fun i wr => ∃ k : Nat, k ≤ q4.size + 1 ∧ i = .int .i64 k ∧ ∃ H bs, SQ wr br bi bb q4 (q4.ready ++ bk.take m) m k H bs v4 ∧ Fr (Own3r br bi bb) w wr) (fun i _ => q4.size + 1 - (intOf i).toNat)
              case atStart => exact ⟨0, Nat.zero_le _, rfl, _, _, S0.out.1.new Fr.refl.drew, S0.out.2.drew⟩
              case round =>
                obtain ⟨k, hk, rfl, H, bs4, hS, hfr4⟩ := hrel
                have c3 := cell_of hS.cells 3 _ rfl
                have S1 := Lib.hid hS
                have FR5 := Lib.hid hfr4
                clear hS hfr4
                by_cases hkl : k < q4.size + 1
                · have ck := S1.out.isAt hkl
                  have fk := frozen_of S1.out.is k
                  rw [if_neg (by omega)] at ck
                  cases hg : q4.got (k + m) with
                  | some u =>
                    have hkm : k + m < q4.size + 1 := by have := got_lt hg; rw [F4.out.inv.len] at this; exact this
                    have ckm := S1.out.isAt hkm
                    rw [if_neg (by omega), hg] at ckm
                    have t1 : decide ((k : Int) + (m : Int) < (q4.size : Int) + 1) = true := decide_eq_true (by omega)
                    obtain ⟨u0, hu0⟩ := S1.out.bAny hkl
                    have S2 := Lib.hid (sq_some S1.out HAP hkl hg)
                    obtain ⟨d3, d4, dk, db, fb⟩ := sq_mid S1.out HAP hkl true
                    have cb1 := db k u0 hu0
                    have cb2 := db (k + m) u (S1.out.src hg)
                    have FR6 := Lib.hid ((FR5.out.setCell (p := ⟨bi, k, none⟩) (.inl (.inr (.inl rfl))) (.bool true)).setCell (p := ⟨bb, k, none⟩) (.inl (.inr (.inr rfl))) (.int .u8 (u.toNat : Int)))
                    clear hg hu0 db
                    go_wp2_with fail
                    go_region
                    clear ck fk ckm c3
                    generalize wr.setCell ⟨bi, k, none⟩ (.bool true) = W2 at *
                    go_wp2_with fail
                    go_region
                    go_wp2_with fail
                    go_roundw
                    case rel => exact ⟨k + 1, by omega, by go_num, _, _, S2.out.new (Fr.refl.drewN 2), FR6.out.drewN 2⟩
                    case measure => simp [intOf]; omega
                  | none =>
                    have S2 := Lib.hid (sq_none S1.out HAP hkl hg)
                    obtain ⟨d3, _, dk, _, _⟩ := sq_mid S1.out HAP hkl false
                    have FR6 := Lib.hid (FR5.out.setCell (p := ⟨bi, k, none⟩) (.inl (.inr (.inl rfl))) (.bool false))
                    by_cases hkm : k + m < q4.size + 1
                    · have ckm := S1.out.isAt hkm
                      rw [if_neg (by omega), hg] at ckm
                      have t1 : decide ((k : Int) + (m : Int) < (q4.size : Int) + 1) = true := decide_eq_true (by omega)
                      clear hg
                      go_wp2_with fail
                      go_region
                      clear ck fk ckm c3
                      generalize wr.setCell ⟨bi, k, none⟩ (.bool false) = W2 at *
                      go_wp2_with fail
                      go_roundw
                      case rel => exact ⟨k + 1, by omega, by go_num, _, _, S2.out.new (Fr.refl.drewN 1), FR6.out.drewN 1⟩
                      case measure => simp [intOf]; omega
                    · have t1 : decide ((k : Int) + (m : Int) < (q4.size : Int) + 1) = false := decide_eq_false (by omega)
                      clear hg
                      go_wp2_with fail
                      go_region
                      clear ck fk c3
                      generalize wr.setCell ⟨bi, k, none⟩ (.bool false) = W2 at *
                      go_wp2_with fail
                      go_roundw
                      case rel => exact ⟨k + 1, by omega, by go_num, _, _, S2.out.new (Fr.refl.drewN 1), FR6.out.drewN 1⟩
                      case measure => simp [intOf]; omega
                · have hk5 : k = q4.size + 1 := by omega
                  subst hk5
                  have c0 := cell_of S1.out.cells 0 _ rfl
                  have f0 := frozen_of S1.out.cells 0
                  have c5 := cell_of S1.out.cells 5 _ rfl
                  have c6 := cell_of S1.out.cells 6 _ rfl
                  have f6 := frozen_of S1.out.cells 6
                  have f7 := frozen_of S1.out.cells 7
                  have c7 := cell_of S1.out.cells 7 _ rfl
                  rw [HNE.out] at c7
                  have R5 := Lib.hid (sq_close F4.out hm S1.out HNE.out)
                  have FR7 := Lib.hid ((FR5.out.setCell (p := ⟨br, 0, none⟩) (.inl (.inl rfl)) (.int .u32 (((q4.next : Int) + (m : Int)) % 4294967296))).setCell (p := ⟨br, 6, none⟩) (.inl (.inl rfl)) (.int .i64 (wrap64 (v4 - (m : Int)))))
                  go_upto_region 33 with fail
                  clear c0 f0 c5 c6 f6 f7 c7
                  generalize (wr.setCell ⟨br, 0, none⟩ (.int .u32 (((q4.next : Int) + (m : Int)) % 4294967296))).setCell ⟨br, 6, none⟩ (.int .i64 (wrap64 (v4 - (m : Int)))) = W5 at *
                  generalize wrap64 (v4 - (m : Int)) = v5 at *
                  generalize hq5 : q4.pop m = q5 at *
                  have HNE5 := Lib.hid (show q5.ended = false by rw [← hq5]; exact HNE.out)
                  have c0 := cell_of R5.out.cells 0 _ rfl
                  have f0 := frozen_of R5.out.cells 0
                  have c5 := cell_of R5.out.cells 5 _ rfl
                  have c6 := cell_of R5.out.cells 6 _ rfl
                  have f7 := frozen_of R5.out.cells 7
                  have c7 := cell_of R5.out.cells 7 _ rfl
                  rw [HNE5.out] at c7
                  have hw5 := R5.out.inv.size2
                  cases he5 : q5.e with
                  | none =>
                    rw [he5] at c5
                    have HCL := Lib.hid (show q5.close = q5 by unfold Q.close; rw [he5]; rfl)
                    clear he5
                    go_wp2_with fail
                    go_ret
                    exact rput_end HPUT.out HCL.out R5.out FR7.out rfl
                  | some x =>
                    rw [he5] at c5
                    have hv5 := R5.out.endAt x he5 HNE5.out
                    rw [hv5] at c6
                    by_cases hx : x = 0
                    · subst hx
                      have R6 := Lib.hid (rclose_step R5.out he5)
                      have FR8 := Lib.hid ((FR7.out.setCell (p := ⟨br, 7, none⟩) (.inl (.inl rfl)) (.bool true)).setCell (p := ⟨br, 0, none⟩) (.inl (.inl rfl)) (.int .u32 (((q5.next : Int) + 1) % 4294967296)))
                      have HCN := Lib.hid (show ((q5.close.next : Nat) : Int) = ((q5.next : Int) + 1) % 4294967296 by unfold Q.close; rw [if_pos he5]; show (((q5.next + 1) % M32 : Nat) : Int) = _; unfold M32; omega)
                      clear he5 hv5
                      go_wp2_with fail
                      go_ret
                      exact rput_end HPUT.out rfl R6.out FR8.out HCN.out
                    · have HCL := Lib.hid (show q5.close = q5 by unfold Q.close; rw [he5, if_neg (by intro h; injection h with h; exact hx h)])
                      have t1 : ((x : Int) == 0) = false := by rw [beq_eq_false_iff_ne]; omega
                      have t2 : (x == 0) = false := by rw [beq_eq_false_iff_ne]; exact hx
                      clear he5 hv5
                      go_wp2_with fail
                      go_ret
                      exact rput_end HPUT.out HCL.out R5.out FR7.out rfl

end Go.Proofs.Ythcjmghdmcapeaa
