/-
  The walk of the program's Put: it does to the queue what the data's 'put' says.
-/
import Derived.Test.YthcjmghdmcapeaaMoves
namespace Go.Proofs.Ythcjmghdmcapeaa
open Go.RowKit Go.Maps Go.ChangeShapes

theorem u8_wf (d : UInt8) : (Lit.int .u8 (d.toNat : Int)).wf = true := by
  have h := d.toNat_lt
  simp [Lit.wf, IntKind.min, IntKind.max, IntKind.bits, IntKind.signed]
  omega

theorem in_pos {q : Q} (h : q.next < M32) (k m : Nat) (w : World) : Calls Try.prog 8 #[.int .u32 (k : Int), .int .u32 (q.next : Int), .int .u32 (m : Int)] w fun e w' => e = .returned (.bool (decide (q.pos k < m))) ∧ w' = w := by
  have h1 := in_any (k : Int) (q.next : Int) (m : Int) w
  rw [pos_int h] at h1
  have e : decide (((q.pos k : Nat) : Int) < (m : Int)) = decide (q.pos k < m) := by rw [decide_eq_decide]; omega
  rw [e] at h1
  exact h1.mono fun _ _ ⟨h1, h2⟩ => ⟨h1, h2.symm⟩

/-- where the new value of what is ready lies -/
def Loc (w : World) (rv0 rv : Value) : Prop := rv.ownBlock = rv0.ownBlock ∨ ∃ r, rv.ownBlock = some r ∧ w.heap.size ≤ r

theorem putN_pos (q : Q) (seq : Nat) (s : List UInt8) (k j : Nat) : (q.putN seq s k).pos j = q.pos j := by
  unfold Q.pos; rw [(putN_same q seq s k).1]
theorem putN_win (q : Q) (seq : Nat) (s : List UInt8) (k : Nat) : (q.putN seq s k).win = q.win := by
  unfold Q.win; rw [(putN_same q seq s k).2.1, (putN_same q seq s k).2.2.1]

/-- a byte that is not taken -/
theorem put1_no {q : Q} {i : Nat} {d : UInt8} (h : q.takes i = false) : q.put1 i d = q := by unfold Q.put1; rw [h]; rfl
theorem put1_yes {q : Q} {i : Nat} {d : UInt8} (h : q.takes i = true) : q.put1 i d = { q with h := q.h.set i (some d) } := by unfold Q.put1; rw [h]; rfl

/-- the store into what is held -/
theorem put_step {w w' : World} {B bq bm : Nat} {rv : Value} {q : Q} {D : Dm} {en : Nat} (h : FQ w B bq bm rv q D en) {k : Nat} (hk : k < M32) {d : UInt8} (ht : q.takes (q.pos k) = true) {n : Nat}
    (ho : w'.ownsMap Try.prog 22 (plainElem Try.prog 5) bm n (D.put (key k) (u8d d))) (hg : w.grownBy w' (some bm)) : FQ w' B bq bm rv (q.put1 (q.pos k) d) (D.put (key k) (u8d d)) en := by
  obtain ⟨h1, h2, _⟩ := takes_iff.1 ht
  have hl := Nat.lt_trans h1 (win_lt h.inv)
  have f : Fr (fun i => i = bm) w w' := Fr.refl.grown hg (fun j hj => by cases hj; exact .inl rfl)
  have hinv := inv_put1 h.inv (q.pos k) d
  rw [put1_yes ht] at hinv ⊢
  exact ⟨f.keeps h.cells (fun e => h.apart.2.2.1 e), rdy_kept h.rdy f (fun r hr e => h.apart.2.2.2.2 (by rw [hr, e])), map_tight ho, mapis_put h.is hk d hl h2, h.endAt, h.en, h.apart, hinv⟩

def PutPost (w : World) (B bq bm : Nat) (rv : Value) (q : Q) (seq : Nat) (s : List UInt8) (fin : Bool) (e : Ending) (w' : World) : Prop :=
  e = .returned (.bool (decide ((q.put seq s fin).next ≠ q.next))) ∧ ∃ rv' D' en', FQ w' B bq bm rv' (q.put seq s fin) D' en' ∧ Fr (Own3 bq bm rv) w w' ∧ Loc w rv rv'

theorem fput_no {w : World} {B bq bm : Nat} {rv : Value} {q : Q} {D : Dm} {en : Nat} (h : FQ w B bq bm rv q D en) (seq : Nat) (s : ByteArray) (fin : Bool) (hno : q.ended = true ∨ 65536 < s.size) :
    Calls Try.prog 15 #[.pointer (some ⟨bq, 0, none⟩), .int .u32 (seq : Int), .string s, .bool fin] w (PutPost w B bq bm rv q seq s.data.toList fin) := by
  have hp : q.put seq s.data.toList fin = q := by
    unfold Q.put
    rw [if_pos]
    rcases hno with h1 | h1
    · rw [h1]; rfl
    · have : s.data.toList.length = s.size := by rw [Array.length_toList]; rfl
      rw [this, decide_eq_true h1]; simp
  have hpost : ∀ w', w = w' → PutPost w B bq bm rv q seq s.data.toList fin (.returned (.bool false)) w' := by
    rintro w' rfl
    unfold PutPost
    rw [hp]
    exact ⟨by simp, rv, D, en, h, Fr.refl, .inl rfl⟩
  have HP := Lib.hid hpost
  have c6 := cell_of h.cells 6 _ rfl
  clear hp hpost
  cases he : q.ended
  · rw [he] at c6
    have h2 : 65536 < s.size := by
      rcases hno with h1 | h1
      · rw [he] at h1; cases h1
      · exact h1
    clear hno he
    go_enter Try.func15, Try.ntmps15
    go_wp2_with fail
    go_ret
    exact HP.out _ rfl
  · rw [he] at c6
    clear hno he
    go_enter Try.func15, Try.ntmps15
    go_wp2_with fail
    go_ret
    exact HP.out _ rfl

theorem Fr.mono {S S' : Nat → Prop} {a c : World} (h : Fr S a c) (k : ∀ i, S i → S' i) : Fr S' a c := ⟨h.os, h.tape, h.output, h.size, fun i hi hn => h.block i hi (fun e => hn (k i e))⟩

theorem put_open {q : Q} {seq : Nat} {s : List UInt8} (he : q.ended = false) (hl : s.length ≤ 65536) (fin : Bool) : q.put seq s fin = ((q.mid seq s fin).pop (lead (q.mid seq s fin).h)).close := by
  unfold Q.put
  rw [he, if_neg]
  simp; omega

theorem ne_int (a b : Nat) : ((a : Int) != (b : Int)) = decide (a ≠ b) := by
  by_cases h : a = b
  · subst h; simp
  · rw [decide_eq_true h, bne_iff_ne]; omega

theorem put_loc {S : Nat → Prop} {w W : World} {rv rv5 : Value} (f : Fr S w W) (h : rv5.ownBlock = rv.ownBlock ∨ ∃ r, rv5.ownBlock = some r ∧ W.heap.size ≤ r) : Loc w rv rv5 := by
  rcases h with h | ⟨r, h1, h2⟩
  · exact .inl h
  · exact .inr ⟨r, h1, Nat.le_trans f.size h2⟩

/-- the end is told -/
theorem fin_step {W : World} {B bq bm : Nat} {rv : Value} {q : Q} {D : Dm} {en : Nat} (h : FQ W B bq bm rv q D en) {pe : Nat} (hpe : pe < M32) (h1 : q.pos pe ≤ q.win) (h2 : q.clear (q.pos pe) = true) (hne : q.e = none) :
    FQ ((W.setCell ⟨bq, 4, none⟩ (.bool true)).setCell ⟨bq, 5, none⟩ (.int .u32 (pe : Int))) B bq bm rv { q with e := some (q.pos pe) } D pe := by
  have hinv := inv_fin h.inv (q.pos pe) true
  have hf : q.fin (q.pos pe) true = { q with e := some (q.pos pe) } := by unfold Q.fin; rw [hne, h2, decide_eq_true (by omega)]; rfl
  rw [hf] at hinv
  have f5 : Fr (fun i => i = bq) W ((W.setCell ⟨bq, 4, none⟩ (.bool true)).setCell ⟨bq, 5, none⟩ (.int .u32 (pe : Int))) := Fr.setCell (S := fun i => i = bq) (Fr.setCell (S := fun i => i = bq) Fr.refl (.inl rfl) _) (.inl rfl) _
  refine ⟨heap_set (heap_set h.cells 4 (.bool true)) 5 (.int .u32 (pe : Int)), rdy_kept h.rdy f5 (fun r hr e => h.apart.2.2.2.1 (by rw [hr, e])), map_kept h.own (f5.block bm (map_lt h.own) (fun e => h.apart.2.2.1 e.symm)), ⟨h.is.tidy, h.is.has, h.is.val, h.is.size⟩, ?_, hpe, h.apart, hinv⟩
  intro x hx _
  injection hx with hx
  rw [← hx]
  exact (pos_back h.inv.next hpe).symm

/-- what holds at a round's head -/
def PRel (w wr : World) (B bq bm : Nat) (rv : Value) (q : Q) (seq : Nat) (s : List UInt8) (en : Nat) (k : Nat) : Prop :=
  ∃ D, FQ wr B bq bm rv (q.putN seq s k) D en ∧ Fr (fun i => i = bm) w wr

set_option maxHeartbeats 4000000 in
set_option maxRecDepth 100000 in
theorem fput_yes {w : World} {B bq bm : Nat} {rv : Value} {q : Q} {D : Dm} {en : Nat} (h : FQ w B bq bm rv q D en) (hB : B ≤ w.heap.size) (seq : Nat) (s : ByteArray) (fin : Bool) (he : q.ended = false) (hs : s.size ≤ 65536) :
    Calls Try.prog 15 #[.pointer (some ⟨bq, 0, none⟩), .int .u32 (seq : Int), .string s, .bool fin] w (PutPost w B bq bm rv q seq s.data.toList fin) := by
  have c6 := cell_of h.cells 6 _ rfl
  have c0 := cell_of h.cells 0 _ rfl
  rw [he] at c6
  have hwin : q.window = q.win := by unfold Q.window; rw [he]; rfl
  have hwin2 : q.win ≤ 65536 := by have := h.inv.size2; unfold Q.win; omega
  have hW := fun W (hW : FQ W B bq bm rv q D en) => window_any hW
  rw [hwin] at hW
  have HW := Lib.hid hW
  have F := Lib.hid h
  have HE := Lib.hid he
  clear hW hwin h he
  go_enter Try.func15, Try.ntmps15
  go_wp2_with fail
  go_quiet ((go_at_call 18; exact Calls.quiet_of (HW.out _ (F.out.new (Fr.refl.drewN _)))))
  go_wp2_with fail
  go_loopw [38] (fun i wr => ∃ k : Nat, k ≤ s.size ∧ i = .int .i64 k ∧ PRel w wr B bq bm rv q seq s.data.toList en k) (fun i _ => s.size - (intOf i).toNat)
  case atStart => exact ⟨0, Nat.zero_le _, rfl, D, F.out.new (Fr.refl.drewN _), Fr.refl.drewN _⟩
  case round =>
    obtain ⟨k, hk, rfl, Dk, hF, hfr⟩ := hrel
    by_cases hkl : k < s.size
    · obtain ⟨d, hd⟩ : ∃ d, s.data.toList[k]? = some d := ⟨_, List.getElem?_eq_getElem (by rw [Array.length_toList]; exact hkl)⟩
      have hstep : q.putN seq s.data.toList (k + 1) = _ := putN_succ hd
      have hqk := putN_same q seq s.data.toList k
      have hpk : ∀ j, (q.putN seq s.data.toList k).pos j = q.pos j := putN_pos q seq _ k
      have hwk : (q.putN seq s.data.toList k).win = q.win := putN_win q seq _ k
      generalize hpp : (seq + k) % M32 = pk at *
      have hpk32 : pk < M32 := by rw [← hpp]; exact Nat.mod_lt _ (by decide)
      have epk : ((seq : Int) + (k : Int)) % 4294967296 = (pk : Int) := by rw [← hpp]; unfold M32; omega
      generalize hqq : q.putN seq s.data.toList k = qk at *
      have c0 := cell_of hF.cells 0 _ rfl
      have c3 := cell_of hF.cells 3 _ rfl
      have c4 := cell_of hF.cells 4 _ rfl
      have c5 := cell_of hF.cells 5 _ rfl
      rw [hqk.1] at c0
      have hlook := look_held hF.own hF.is hpk32
      rw [hpk] at hlook
      have hN := hF.inv.next
      rw [hqk.1] at hN
      have hin1 := fun W => in_pos (q := q) hN pk q.win W
      have HI1 := Lib.hid hin1
      have hsub : ∀ x, qk.e = some x → ((en : Int) - (q.next : Int)) % 4294967296 = (x : Int) := fun x hx => by
        have h1 := hF.endAt x hx (by rw [hqk.2.2.2.2]; exact HE.out)
        have h2 := hF.inv.fin1 x hx
        rw [hwk] at h2
        rw [hqk.1] at h1
        rw [h1]; unfold M32 at *; omega
      have hnotake : ((decide (q.pos pk < q.win) = false) ∨ (qk.got (q.pos pk)).isSome = true ∨ (∃ x, qk.e = some x ∧ ¬ q.pos pk < x)) → q.putN seq s.data.toList (k + 1) = qk := by
        intro h
        rw [hstep]
        refine put1_no ?_
        cases ht : qk.takes (q.pos pk) with
        | false => rfl
        | true =>
          exfalso
          obtain ⟨h1, h2, h3⟩ := takes_iff.1 ht
          rw [hwk] at h1
          rcases h with h | h | ⟨x, h, h'⟩
          · rw [decide_eq_true h1] at h; cases h
          · rw [h2] at h; cases h
          · exact h' (h3 x h)
      have hbyte : s[k]'hkl = d := by
        rw [Array.getElem?_toList, Array.getElem?_eq_getElem (h := hkl)] at hd
        exact Option.some.inj hd
      have F1 := Lib.hid hF
      have FR := Lib.hid hfr
      have HNT := Lib.hid hnotake
      have HST := Lib.hid hstep
      have HQ := Lib.hid hqk
      have HW2 := Lib.hid hwk
      have HP2 := Lib.hid hpk
      clear hF hfr hnotake hstep hqk hwk hpk hin1
      have cs : (decide (q.pos pk < q.win) = false) ∨ (decide (q.pos pk < q.win) = true ∧ qk.e = none) ∨ (∃ x, decide (q.pos pk < q.win) = true ∧ qk.e = some x ∧ decide (q.pos pk < x) = false) ∨ (∃ x, decide (q.pos pk < q.win) = true ∧ qk.e = some x ∧ decide (q.pos pk < x) = true) := by
        cases decide (q.pos pk < q.win) with
        | false => exact .inl rfl
        | true =>
          right
          cases qk.e with
          | none => exact .inl ⟨rfl, rfl⟩
          | some x =>
            right
            cases h : decide (q.pos pk < x) with
            | false => exact .inl ⟨x, rfl, rfl, h⟩
            | true => exact .inr ⟨x, rfl, rfl, h⟩
      rcases cs with h1 | ⟨h1, h2⟩ | ⟨x, h1, h2, h3⟩ | ⟨x, h1, h2, h3⟩
      · have HX := Lib.hid h1
        rw [h1] at HI1
        clear h1 c4 c5 hlook hsub c3
        go_wp2_with fail
        rw [epk]
        go_quiet ((go_at_call 8; exact Calls.quiet_of_same (HI1.out _)))
        go_wp2_with fail
        go_roundw
        case rel => exact ⟨k + 1, by omega, by go_num, Dk, by rw [HNT.out (.inl HX.out)]; exact F1.out.new (Fr.refl.drewN _), FR.out.drewN _⟩
        case measure => simp [intOf]; omega
      · have HT := Lib.hid (show q.pos pk < q.win ∧ ∀ x, qk.e = some x → q.pos pk < x from ⟨of_decide_eq_true h1, fun x hx => by rw [h2] at hx; cases hx⟩)
        rw [h2] at c4
        rw [h1] at HI1
        clear h1 h2
        go_wp2_with fail
        rw [epk]
        go_quiet ((go_at_call 8; exact Calls.quiet_of_same (HI1.out _)))
        clear c4 c5 hsub
        by_cases hg : (qk.got (q.pos pk)).isSome = true
        · rw [hg] at hlook
          have HX := Lib.hid hg
          clear hg
          go_wp2_with fail
          go_roundw
          case rel => exact ⟨k + 1, by omega, by go_num, Dk, by rw [HNT.out (.inr (.inl HX.out))]; exact F1.out.new (Fr.refl.drewN _), FR.out.drewN _⟩
          case measure => simp [intOf]; omega
        · have hgn : qk.got (q.pos pk) = none := by
            cases hh : qk.got (q.pos pk) with
            | none => rfl
            | some v => rw [hh] at hg; exact absurd rfl hg
          have hlook2 := hlook
          rw [hgn] at hlook2
          have HX := Lib.hid hgn
          clear hg hgn hlook
          go_wp2_with fail
          have F2 := Lib.hid (F1.out.new (Fr.refl.drewN nq))
          have FR2 := Lib.hid (FR.out.drewN nq)
          clear c0 c3 hlook2 F1 FR
          generalize wr.drewN nq = W1 at *
          have c3 := cell_of F2.out.cells 3 _ rfl
          have hkey := key_of hpk32
          go_still_tail 8, (by kernel_rfl)
          change wpList _ _ _ _ _ W1.drew
          have F3 := Lib.hid (F2.out.new Fr.refl.drew)
          have FR3 := Lib.hid FR2.out.drew
          clear c3 F2 FR2
          generalize W1.drew = W2 at *
          have hown := F3.out.own
          have hmax : Maps.size Dk < maxLen := by
            have h4 := F3.out.is.size
            have h5 := held_le qk
            have h6 := F3.out.inv.len
            have h7 := F3.out.inv.size2
            unfold maxLen; omega
          refine wpList_mapUpdate_own W2 rfl _ _ _ 46 rfl 22 5 law22 Try.underlying46 _ bm _ Dk rfl hown hmax _ (.int .u8 (d.toNat : Int)) (key pk) rfl ?_ hkey (u8d d) [] (plainElem_int Try.underlying5 (u8_wf d)) ?_
          · simp [Act.eval]
          intro w4 hown4 hg4
          have hF5 := put_step (d := d) F3.out (k := pk) hpk32 (by rw [HP2.out]; exact takes_iff.2 ⟨by rw [HW2.out]; exact HT.out.1, HX.out, HT.out.2⟩) hown4 hg4
          have FR5 := FR3.out.grown hg4 (fun j hj => by cases hj; exact .inl rfl)
          clear hown hown4
          go_wp2_with fail
          go_roundw
          case rel => exact ⟨k + 1, by omega, by go_num, _, by rw [HST.out, ← HP2.out]; exact hF5, FR5⟩
          case measure => simp [intOf]; omega
      · have HI2 := Lib.hid (fun W => in_pos (q := q) hN pk x W)
        have HX := Lib.hid (HNT.out (.inr (.inr ⟨x, h2, of_decide_eq_false h3⟩)))
        rw [h3] at HI2
        have hsx := hsub x h2
        have HSX := Lib.hid hsx
        clear hsx
        rw [h2] at c4
        rw [h1] at HI1
        clear h1 h2 h3 hlook hsub c3
        go_wp2_with fail
        rw [epk]
        go_quiet ((go_at_call 8; first | (rw [HSX.out]; exact Calls.quiet_of_same (HI2.out _)) | exact Calls.quiet_of_same (HI1.out _)))
        go_wp2_with fail
        go_roundw
        case rel => exact ⟨k + 1, by omega, by go_num, Dk, by rw [HX.out]; exact F1.out.new (Fr.refl.drewN _), FR.out.drewN _⟩
        case measure => simp [intOf]; omega
      · have HI2 := Lib.hid (fun W => in_pos (q := q) hN pk x W)
        have HT := Lib.hid (show q.pos pk < q.win ∧ ∀ x, qk.e = some x → q.pos pk < x from ⟨of_decide_eq_true h1, fun y hx => by rw [h2] at hx; injection hx with hx; rw [← hx]; exact of_decide_eq_true h3⟩)
        rw [h3] at HI2
        have hsx := hsub x h2
        have HSX := Lib.hid hsx
        clear hsx
        rw [h2] at c4
        rw [h1] at HI1
        clear h1 h2 h3
        go_wp2_with fail
        rw [epk]
        go_quiet ((go_at_call 8; first | (rw [HSX.out]; exact Calls.quiet_of_same (HI2.out _)) | exact Calls.quiet_of_same (HI1.out _)))
        clear c4 c5 hsub
        by_cases hg : (qk.got (q.pos pk)).isSome = true
        · rw [hg] at hlook
          have HX := Lib.hid hg
          clear hg
          go_wp2_with fail
          go_roundw
          case rel => exact ⟨k + 1, by omega, by go_num, Dk, by rw [HNT.out (.inr (.inl HX.out))]; exact F1.out.new (Fr.refl.drewN _), FR.out.drewN _⟩
          case measure => simp [intOf]; omega
        · have hgn : qk.got (q.pos pk) = none := by
            cases hh : qk.got (q.pos pk) with
            | none => rfl
            | some v => rw [hh] at hg; exact absurd rfl hg
          have hlook2 := hlook
          rw [hgn] at hlook2
          have HX := Lib.hid hgn
          clear hg hgn hlook
          go_wp2_with fail
          have F2 := Lib.hid (F1.out.new (Fr.refl.drewN nq))
          have FR2 := Lib.hid (FR.out.drewN nq)
          clear c0 c3 hlook2 F1 FR
          generalize wr.drewN nq = W1 at *
          have c3 := cell_of F2.out.cells 3 _ rfl
          have hkey := key_of hpk32
          go_still_tail 8, (by kernel_rfl)
          change wpList _ _ _ _ _ W1.drew
          have F3 := Lib.hid (F2.out.new Fr.refl.drew)
          have FR3 := Lib.hid FR2.out.drew
          clear c3 F2 FR2
          generalize W1.drew = W2 at *
          have hown := F3.out.own
          have hmax : Maps.size Dk < maxLen := by
            have h4 := F3.out.is.size
            have h5 := held_le qk
            have h6 := F3.out.inv.len
            have h7 := F3.out.inv.size2
            unfold maxLen; omega
          refine wpList_mapUpdate_own W2 rfl _ _ _ 46 rfl 22 5 law22 Try.underlying46 _ bm _ Dk rfl hown hmax _ (.int .u8 (d.toNat : Int)) (key pk) rfl ?_ hkey (u8d d) [] (plainElem_int Try.underlying5 (u8_wf d)) ?_
          · simp [Act.eval]
          intro w4 hown4 hg4
          have hF5 := put_step (d := d) F3.out (k := pk) hpk32 (by rw [HP2.out]; exact takes_iff.2 ⟨by rw [HW2.out]; exact HT.out.1, HX.out, HT.out.2⟩) hown4 hg4
          have FR5 := FR3.out.grown hg4 (fun j hj => by cases hj; exact .inl rfl)
          clear hown hown4
          go_wp2_with fail
          go_roundw
          case rel => exact ⟨k + 1, by omega, by go_num, _, by rw [HST.out, ← HP2.out]; exact hF5, FR5⟩
          case measure => simp [intOf]; omega
    · have hk2 : k = s.size := by omega
      subst hk2
      have hlen0 : s.data.toList.length = s.size := by rw [Array.length_toList]; rfl
      have hqk := putN_same q seq s.data.toList s.size
      have hmid : ∀ f, q.mid seq s.data.toList f = (q.putN seq s.data.toList s.size).fin (q.pos ((seq + s.size) % M32)) f := fun f => by unfold Q.mid; rw [hlen0]
      have hpk : ∀ j, (q.putN seq s.data.toList s.size).pos j = q.pos j := putN_pos q seq _ _
      have hwk : (q.putN seq s.data.toList s.size).win = q.win := putN_win q seq _ _
      generalize q.putN seq s.data.toList s.size = q1 at *
      generalize hpp : (seq + s.size) % M32 = pe at *
      have hpe32 : pe < M32 := by rw [← hpp]; exact Nat.mod_lt _ (by decide)
      have epe : ((seq : Int) + (s.size : Int)) % 4294967296 = (pe : Int) := by rw [← hpp]; unfold M32; omega
      have hlen : s.data.toList.length ≤ 65536 := by omega
      have c0 := cell_of hF.cells 0 _ rfl
      have c4 := cell_of hF.cells 4 _ rfl
      have f4 := frozen_of hF.cells 4
      have f5 := frozen_of hF.cells 5
      have c5 := cell_of hF.cells 5 _ rfl
      rw [hqk.1] at c0
      have hN := hF.inv.next
      rw [hqk.1] at hN
      have hin3 := fun W => in_pos (q := q) hN pe (q.win + 1) W
      have F1 := Lib.hid hF
      have HM := Lib.hid hmid
      have FR := Lib.hid (hfr.mono (S' := Own3 bq bm rv) (fun i e => .inr (.inl e)))
      have HQ := Lib.hid hqk
      have HW2 := Lib.hid hwk
      have HP2 := Lib.hid hpk
      clear hF hfr hqk hwk hpk hmid hpp
      cases fin with
      | false =>
        have FM : Hid (FQ wr B bq bm rv (q.mid seq s.data.toList false) Dk en) := Lib.hid (by rw [HM.out]; exact F1.out)
        have FRM := FR
        clear hin3 c4 f4 f5 c5
        go_wp2_with fail
        refine (moves_any FM.out (by rw [(mid_same q seq s.data.toList false).2.2.2]; exact HE.out) (Nat.le_trans hB FRM.out.size)).mono ?_
        rintro e W5 ⟨rfl, rv5, D5, F5, fr5, hloc5⟩
        have hput := put_open HE.out hlen false (seq := seq)
        have HPUT := Lib.hid hput
        rw [← hput] at F5
        have c05 := cell_of F5.cells 0 _ rfl
        have F6 := Lib.hid (And.intro F5 (And.intro fr5 hloc5))
        clear hput F5 fr5 hloc5
        go_wp2_with fail
        go_ret
        exact ⟨congrArg (fun x => Ending.returned (.bool x)) (ne_int _ _), rv5, D5, _, F6.out.1, FRM.out.trans F6.out.2.1, put_loc FRM.out F6.out.2.2⟩
      | true =>
        cases he : q1.e with
        | some x =>
          have FM : Hid (FQ wr B bq bm rv (q.mid seq s.data.toList true) Dk en) := Lib.hid (by
            rw [HM.out]
            have : q1.fin (q.pos pe) true = q1 := by unfold Q.fin; rw [he]; rfl
            rw [this]; exact F1.out)
          have FRM := FR
          rw [he] at c4
          clear hin3 f4 f5 c5 he
          go_wp2_with fail
          refine (moves_any FM.out (by rw [(mid_same q seq s.data.toList true).2.2.2]; exact HE.out) (Nat.le_trans hB FRM.out.size)).mono ?_
          rintro e W5 ⟨rfl, rv5, D5, F5, fr5, hloc5⟩
          have hput := put_open HE.out hlen true (seq := seq)
          have HPUT := Lib.hid hput
          rw [← hput] at F5
          have c05 := cell_of F5.cells 0 _ rfl
          have F6 := Lib.hid (And.intro F5 (And.intro fr5 hloc5))
          clear hput F5 fr5 hloc5
          go_wp2_with fail
          go_ret
          exact ⟨congrArg (fun x => Ending.returned (.bool x)) (ne_int _ _), rv5, D5, _, F6.out.1, FRM.out.trans F6.out.2.1, put_loc FRM.out F6.out.2.2⟩
        | none =>
          have HEN := Lib.hid he
          rw [he] at c4
          clear he
          cases hw : decide (q.pos pe < q.win + 1) with
          | false =>
            rw [hw] at hin3
            have FM : Hid (FQ wr B bq bm rv (q.mid seq s.data.toList true) Dk en) := Lib.hid (by
              rw [HM.out]
              have : q1.fin (q.pos pe) true = q1 := by unfold Q.fin; rw [HW2.out, hw]; simp
              rw [this]; exact F1.out)
            have FRM := FR
            have HI3 := Lib.hid hin3
            clear hin3 f4 f5 c5 hw
            go_wp2_with fail
            rw [epe]
            refine (HI3.out _).mono ?_
            rintro e W4 ⟨rfl, rfl⟩
            go_wp2_with fail
            refine (moves_any FM.out (by rw [(mid_same q seq s.data.toList true).2.2.2]; exact HE.out) (Nat.le_trans hB FRM.out.size)).mono ?_
            rintro e W5 ⟨rfl, rv5, D5, F5, fr5, hloc5⟩
            have hput := put_open HE.out hlen true (seq := seq)
            have HPUT := Lib.hid hput
            rw [← hput] at F5
            have c05 := cell_of F5.cells 0 _ rfl
            have F6 := Lib.hid (And.intro F5 (And.intro fr5 hloc5))
            clear hput F5 fr5 hloc5
            go_wp2_with fail
            go_ret
            exact ⟨congrArg (fun x => Ending.returned (.bool x)) (ne_int _ _), rv5, D5, _, F6.out.1, FRM.out.trans F6.out.2.1, put_loc FRM.out F6.out.2.2⟩
          | true =>
            rw [hw] at hin3
            have HI3 := Lib.hid hin3
            have HWN := Lib.hid (of_decide_eq_true hw)
            clear hin3 hw
            have hfree := fun (W : World) (D : Dm) (h : FQ W B bq bm rv q1 D en) => free_any h pe
            rw [HP2.out] at hfree
            have HFREE := Lib.hid hfree
            clear hfree
            cases hc : q1.clear (q.pos pe) with
            | false =>
              have hM : q.mid seq s.data.toList true = q1 := by
                rw [HM.out]; unfold Q.fin; rw [hc]; simp
              rw [hc] at HFREE
              clear f4 f5 c5 hc
              go_wp2_with fail
              rw [epe]
              refine (HI3.out _).mono ?_
              rintro e W4 ⟨rfl, rfl⟩
              go_wp2_with fail
              refine (HFREE.out _ _ F1.out).mono ?_
              rintro e W4 ⟨rfl, frf⟩
              have FM : Hid (FQ W4 B bq bm rv (q.mid seq s.data.toList true) Dk en) := Lib.hid (by rw [hM]; exact F1.out.new frf)
              have FRM := Lib.hid (FR.out.step frf (fun _ h => h.elim))
              clear hM F1 FR frf c0 c4
              go_wp2_with fail
              refine (moves_any FM.out (by rw [(mid_same q seq s.data.toList true).2.2.2]; exact HE.out) (Nat.le_trans hB FRM.out.size)).mono ?_
              rintro e W5 ⟨rfl, rv5, D5, F5, fr5, hloc5⟩
              have hput := put_open HE.out hlen true (seq := seq)
              have HPUT := Lib.hid hput
              rw [← hput] at F5
              have c05 := cell_of F5.cells 0 _ rfl
              have F6 := Lib.hid (And.intro F5 (And.intro fr5 hloc5))
              clear hput F5 fr5 hloc5
              go_wp2_with fail
              go_ret
              exact ⟨congrArg (fun x => Ending.returned (.bool x)) (ne_int _ _), rv5, D5, _, F6.out.1, FRM.out.trans F6.out.2.1, put_loc FRM.out F6.out.2.2⟩
            | true =>
              rw [hc] at HFREE
              have HC := Lib.hid hc
              clear hc
              clear f4 f5 c5
              go_wp2_with fail
              rw [epe]
              refine (HI3.out _).mono ?_
              rintro e W4 ⟨rfl, rfl⟩
              go_wp2_with fail
              refine (HFREE.out _ _ F1.out).mono ?_
              rintro e W4 ⟨rfl, frf⟩
              have F2 := F1.out.new frf
              have FR2 := Lib.hid (FR.out.step frf (fun _ h => h.elim))
              have c4 := cell_of F2.cells 4 _ rfl
              have f4 := frozen_of F2.cells 4
              have f5 := frozen_of F2.cells 5
              have c5 := cell_of F2.cells 5 _ rfl
              have hFS := fin_step F2 hpe32 (by rw [HP2.out, HW2.out]; have := HWN.out; omega) (by rw [HP2.out]; exact HC.out) HEN.out
              rw [HP2.out] at hFS
              have hM : q.mid seq s.data.toList true = { q1 with e := some (q.pos pe) } := by
                rw [HM.out]; unfold Q.fin; rw [HEN.out, HC.out, HW2.out, decide_eq_true HWN.out]; rfl
              rw [← hM] at hFS
              have FM := Lib.hid hFS
              have FRM := Lib.hid (Fr.setCell (S := Own3 bq bm rv) (p := ⟨bq, 5, none⟩) (Fr.setCell (S := Own3 bq bm rv) (p := ⟨bq, 4, none⟩) FR2.out (.inl (.inl rfl)) (.bool true)) (.inl (.inl rfl)) (.int .u32 (pe : Int)))
              have hM3 := (Fr.size FRM.out)
              clear hM F1 FR frf c0 hFS F2 FR2 hM3
              go_wp2_with fail
              refine (moves_any FM.out (by rw [(mid_same q seq s.data.toList true).2.2.2]; exact HE.out) (Nat.le_trans hB FRM.out.size)).mono ?_
              rintro e W5 ⟨rfl, rv5, D5, F5, fr5, hloc5⟩
              have hput := put_open HE.out hlen true (seq := seq)
              have HPUT := Lib.hid hput
              rw [← hput] at F5
              have c05 := cell_of F5.cells 0 _ rfl
              have F6 := Lib.hid (And.intro F5 (And.intro fr5 hloc5))
              clear hput F5 fr5 hloc5
              go_wp2_with fail
              go_ret
              exact ⟨congrArg (fun x => Ending.returned (.bool x)) (ne_int _ _), rv5, D5, _, F6.out.1, FRM.out.trans F6.out.2.1, put_loc FRM.out F6.out.2.2⟩

end Go.Proofs.Ythcjmghdmcapeaa
