/-
  An append to what is ready; the walk of 'moves': what is held next is ready.
-/
import Derived.Test.YthcjmghdmcapeaaFree
import Derived.Maps.AppendAt
namespace Go.Proofs.Ythcjmghdmcapeaa
open Go.RowKit Go.Maps Go.ChangeShapes

theorem info5 : (Try.prog.info? 5).map (fun i => (i.zero, i.size, i.bytes)) = some (some (.int .u8 0), 1, 1) := by kernel_rfl

theorem bytesV_length (l : List UInt8) : (bytesV l).length = l.length := by unfold bytesV; simp
theorem bytesV_append (l m : List UInt8) : bytesV (l ++ m) = bytesV l ++ bytesV m := by unfold bytesV; simp
theorem bytesV_one (l : List UInt8) : ∀ u, u ∈ bytesV l → u.oneCell' = true := by
  intro u hu
  unfold bytesV at hu
  obtain ⟨c, _, rfl⟩ := List.mem_map.1 hu
  rfl

/-- AN APPEND TO WHAT IS READY: so many bytes from somewhere -/
theorem run_append_rdy {w : World} {B : Nat} {v : Value} {l m : List UInt8} (hr : Rdy w B v l) (ad : Addr) (c : Nat) (hm : m ≠ []) (hc : ∀ j u, (bytesV m)[j]? = some u → w.cell? (ad.add j) = some u)
    (hB : B ≤ w.heap.size) (hlen : l.length + m.length ≤ 1048576) (ty : TypeId) :
    ∃ v' w', (Builtin.append_ #[41, 41] ty #[v, .slice (some ad) m.length c]).run Try.prog w = .ok v' w' ∧ Rdy w' B v' (l ++ m) ∧ w.grownBy w' v.ownBlock ∧ (v'.ownBlock = v.ownBlock ∨ v'.ownBlock = some w.heap.size) := by
  obtain ⟨i0, hi, hz0, hz1, hz2⟩ := info_parts info5
  have hm0 : 0 < m.length := List.length_pos_iff.2 hm
  rcases hr with ⟨rfl, a, rfl, _⟩ | hown
  · cases a with
    | none =>
      obtain ⟨v', w', h1, h2, h3, _, h5⟩ := run_append_own_at (P := Try.prog) w B 41 ty 5 i0 (.int .u8 0) 1 1 Try.underlying41 hi hz0 hz1 hz2 rfl (by decide) (.slice none 0 0) 0 [] (World.ownsRow_nil w B 5 1) ad m.length c (bytesV m) (by rw [bytesV_length, Nat.mul_one]) hc (bytesV_one m)
        (by unfold maxLen; simp at hlen ⊢; omega) (by simp at hlen ⊢; omega) hB
      refine ⟨v', w', h1, .inr ?_, h3, h5⟩
      simpa using h2
    | some b =>
      have h := run_append_grow (P := Try.prog) w 41 ty 5 i0 (.int .u8 0) Try.underlying41 hi hz0 b 0 0 [] (by simp) (by simp) ad m.length c (bytesV m) (by rw [bytesV_length, hz1, Nat.mul_one]) hc (by omega) (by simp at hlen; omega)
        (by rw [hz2]; unfold Builtin.nextslicecap; simp at hlen; split <;> omega)
      simp only [Nat.zero_add] at h
      have hge := grownCap_ge w m.length 0 5
      have hle := grownCap_le_maxLen w m.length 0 5 (by unfold maxLen; simp at hlen; omega)
      refine ⟨_, _, h, .inr ⟨by rw [bytesV_length]; simp, .inr ⟨w.heap.size, _, _, ?_, hB, box_at w.drew _, hge, hle, ?_, ?_⟩⟩, ⟨rfl, rfl, rfl, by simp, fun k hk _ => Below.heap_alloc w.drew _ k hk⟩, .inr rfl⟩
      · simp
      · simp only [Array.size_append, List.size_toArray, size_zeroCells, bytesV_length, List.length_nil, Nat.zero_add, Value.cells]
        simp; omega
      · have e : m.length * 1 = (bytesV m).length := by rw [bytesV_length, Nat.mul_one]
        simp only [Array.toList_append, List.nil_append]
        rw [e]
        exact List.take_left
  · obtain ⟨v', w', h1, h2, h3, _, h5⟩ := run_append_own_at (P := Try.prog) w B 41 ty 5 i0 (.int .u8 0) 1 1 Try.underlying41 hi hz0 hz1 hz2 rfl (by decide) v l.length (bytesV l) hown ad m.length c (bytesV m) (by rw [bytesV_length, Nat.mul_one]) hc (bytesV_one m)
      (by unfold maxLen; omega) (by omega) hB
    refine ⟨v', w', h1, .inr ?_, h3, h5⟩
    rw [bytesV_append, List.length_append]
    exact h2

theorem wp_append_rdy {w : World} {ops : Array Oper} {rest : List Oper} {o : Oper} {a : Act} {Q' : Exit → Act → World → Prop} (hgd : o.guard = none) (s x : Operand)
    (ho : o.op = .call { callee := .builtin .append, args := #[s, x], argTypes := #[41, 41] }) {B : Nat} {v : Value} {l m : List UInt8} (hs : a.eval s = v) (hr : Rdy w B v l) (ad : Addr) (c : Nat) (hx : a.eval x = .slice (some ad) m.length c)
    (hm : m ≠ []) (hc : ∀ j u, (bytesV m)[j]? = some u → w.cell? (ad.add j) = some u) (hB : B ≤ w.heap.size) (hlen : l.length + m.length ≤ 1048576)
    (h : ∀ (a' : Option Addr) (k c' : Nat) (w' : World), k = (l ++ m).length → Rdy w' B (.slice a' k c') (l ++ m) → w.grownBy w' v.ownBlock → ((Value.slice a' k c').ownBlock = v.ownBlock ∨ (Value.slice a' k c').ownBlock = some w.heap.size) → wpList Try.prog ops Q' rest (a.put o.dst (.slice a' k c')) w') :
    wpList Try.prog ops Q' (o :: rest) a w := by
  refine wpList_plain hgd fun K hK => ?_
  obtain ⟨v', w', h1, h2, h3, h4⟩ := run_append_rdy hr ad c hm hc hB hlen o.type
  obtain ⟨a', c', rfl, _⟩ := rdy_len h2
  unfold Oper.wp execOp
  simp only [ho, resolve, invoke, builtin, Sem.run_bind, Sem.run_pure, Result.andThen_ok, List.map_toArray, List.map_cons, List.map_nil, hs, hx, h1]
  exact hK _ _ (h a' _ c' w' rfl h2 h3 h4)

theorem key_of {k : Nat} (hk : k < M32) : keyOf Try.prog 22 (.int .u32 (k : Int)) = some (key k) :=
  keyOf_int_mk Try.underlying22 (by unfold M32 at hk; simp [Lit.wf, IntKind.min, IntKind.max, IntKind.bits, IntKind.signed]; omega)

/-- a look-up of what is held at a number -/
theorem look_held {w : World} {bm : Nat} {q : Q} {D : Dm} (ho : w.ownsMap Try.prog 22 (plainElem Try.prog 5) bm (Maps.size D) D) (hi : MapIs D q) {k : Nat} (hk : k < M32) (n : Nat) :
    (Instr.lookup 46 (.map (some bm)) (.int .u32 (k : Int)) true).run Try.prog (w.drewN n) = .ok (.tuple #[.int .u8 ((((q.got (q.pos k)).getD 0).toNat : Nat) : Int), .bool (q.got (q.pos k)).isSome]) (w.drewN n) := by
  have ho' : (w.drewN n).ownsMap Try.prog 22 (plainElem Try.prog 5) bm (Maps.size D) D := map_kept ho rfl
  obtain ⟨v, ps, h1, h2⟩ := ho'.look_ok law22 Try.underlying46 (zero5 _) (zd := z8) (zp := []) (plainElem_int Try.underlying5 (by decide)) (key_of hk)
  obtain ⟨c, rfl, h3, _⟩ := plainElem_int_inv Try.underlying5 h2
  have h6 : D.atKey (key k) z8 = .lit (.int .u8 c) := congrArg Prod.fst h3
  rw [hi.has k hk] at h1
  have hc : c = ((((q.got (q.pos k)).getD 0).toNat : Nat) : Int) := by
    cases hg : q.got (q.pos k) with
    | none =>
      have hh := hi.has k hk
      rw [hg] at hh
      rw [atKey_of_not_has hh] at h6
      unfold z8 at h6
      injection h6 with h6
      injection h6 with _ h6
      rw [← h6]; rfl
    | some u =>
      have h5 := hi.val k u hk hg
      rw [h5] at h6
      unfold u8d at h6
      injection h6 with h6
      injection h6 with _ h6
      rw [← h6]; rfl
  rw [← hc]
  exact h1

/-- how many entries a map's block bears -/
def mapSize (w : World) (b : Nat) : Nat := match w.heap[b]? with
  | some (.map es _) => es.size
  | _ => 0
theorem mapSize_eq {w : World} {P : Program} {k : TypeId} {R : Value → Option (Dm × List MemPlace)} {b n : Nat} {D : Dm} (h : w.ownsMap P k R b n D) : mapSize w b = Maps.size D := by
  obtain ⟨es, clock, h1, _, _, h4⟩ := h
  unfold mapSize
  rw [h1, h4, Maps.size_eq, length_read]

/-- which blocks a queue's method may turn -/
def Own3 (bq bm : Nat) (rv : Value) (i : Nat) : Prop := i = bq ∨ i = bm ∨ rv.ownBlock = some i

/-- what holds at the head of 'moves' -/
def MovRel (w wr : World) (B bq bm : Nat) (rv0 : Value) (q : Q) (en : Nat) (n : Nat) : Prop :=
  ∃ rv D, FQ wr B bq bm rv (q.pop n) D en ∧ n ≤ lead q.h ∧ Fr (Own3 bq bm rv0) w wr ∧ (rv.ownBlock = rv0.ownBlock ∨ ∃ r, rv.ownBlock = some r ∧ w.heap.size ≤ r)

/-- one more is ready: the queue in memory -/
theorem mov_step {w3 w4 : World} {B bq bm : Nat} {rv v4 : Value} {qn : Q} {D : Dm} {en : Nat} {v : UInt8} (hinv : Inv qn) (hinv1 : Inv (qn.pop 1)) (his : MapIs D qn) (hend : ∀ x, qn.e = some x → qn.ended = false → en = (qn.next + x) % M32) (hen : en < M32) (hap : Apart B bq bm rv)
    (hv : qn.h = some v :: qn.h.tail) (hcell : w4.heap[bq]? = some (.cells #[.int .u32 (qn.next : Int), .int .i64 (qn.size : Int), rv, .map (some bm), .bool qn.e.isSome, .int .u32 (en : Int), .bool qn.ended] 48 (0, 0)))
    (hrdy : Rdy w4 B v4 (qn.ready ++ [v])) (hown : w3.ownsMap Try.prog 22 (plainElem Try.prog 5) bm (Maps.size D) (D.del (key qn.next))) (hg : w3.grownBy w4 rv.ownBlock) (hloc : v4.ownBlock = rv.ownBlock ∨ v4.ownBlock = some w3.heap.size) (hbq : bq < w3.heap.size) :
    FQ ((w4.setCell ⟨bq, 2, none⟩ v4).setCell ⟨bq, 0, none⟩ (.int .u32 (((qn.next : Int) + 1) % 4294967296))) B bq bm v4 (qn.pop 1) (D.del (key qn.next)) en := by
  have hbm := map_lt hown
  have hN := hinv.next
  have hh : (qn.pop 1).ready = qn.ready ++ [v] := by
    show qn.ready ++ (qn.h.take 1).filterMap id = _
    rw [hv]; simp
  have hv4 : v4.ownBlock ≠ some bq ∧ v4.ownBlock ≠ some bm := by
    rcases hloc with e | e
    · rw [e]; exact ⟨hap.2.2.2.1, hap.2.2.2.2⟩
    · rw [e]
      exact ⟨fun h => by injection h; omega, fun h => by injection h; omega⟩
  have f5 : Fr (fun i => i = bq) w4 ((w4.setCell ⟨bq, 2, none⟩ v4).setCell ⟨bq, 0, none⟩ (.int .u32 (((qn.next : Int) + 1) % 4294967296))) := Fr.setCell (S := fun i => i = bq) (Fr.setCell (S := fun i => i = bq) Fr.refl (.inl rfl) _) (.inl rfl) _
  have hown4 : w4.ownsMap Try.prog 22 (plainElem Try.prog 5) bm (Maps.size D) (D.del (key qn.next)) := map_kept hown (hg.block bm hbm (fun e => hap.2.2.2.2 e.symm))
  refine ⟨?_, ?_, ?_, mapis_pop his hN (by have := hinv.len; have := hinv.size2; unfold M32; omega) hv, ?_, hen, ⟨hap.1, hap.2.1, hap.2.2.1, hv4.1, hv4.2⟩, hinv1⟩
  · have h1 := heap_set (heap_set hcell 2 v4) 0 (.int .u32 (((qn.next : Int) + 1) % 4294967296))
    have e1 : (((qn.next : Int) + 1) % 4294967296) = (((qn.pop 1).next : Nat) : Int) := by
      show _ = (((qn.next + 1) % M32 : Nat) : Int)
      unfold M32; omega
    have e2 : (qn.pop 1).e.isSome = qn.e.isSome := by
      show (qn.e.map (· - 1)).isSome = _
      cases qn.e <;> rfl
    rw [e1] at h1 ⊢
    rw [e2]
    exact h1
  · rw [hh]
    exact rdy_kept hrdy f5 (fun r hr e => hv4.1 (by rw [hr, e]))
  · exact map_tight (map_kept hown4 (f5.block bm (map_lt hown4) (fun e => hap.2.2.1 e.symm)))
  · intro x hx hne
    have hx' : qn.e.map (· - 1) = some x := hx
    cases he : qn.e with
    | none => rw [he] at hx'; cases hx'
    | some y =>
      rw [he] at hx'
      simp only [Option.map_some, Option.some.injEq] at hx'
      have h0 : 0 < y := hinv.fin2 y 0 v he (by unfold Q.got; rw [hv]; rfl)
      have h1 := hend y he hne
      show en = ((qn.next + 1) % M32 + x) % M32
      rw [h1, Nat.mod_add_mod]
      congr 1; omega

/-- the end is next: the queue has ended -/
theorem close_step {W : World} {B bq bm : Nat} {rv : Value} {q : Q} {D : Dm} {en : Nat} (h : FQ W B bq bm rv q D en) (he : q.e = some 0) :
    FQ ((W.setCell ⟨bq, 6, none⟩ (.bool true)).setCell ⟨bq, 0, none⟩ (.int .u32 (((q.next : Int) + 1) % 4294967296))) B bq bm rv q.close D en := by
  have hcl : q.close = { q with ended := true, next := (q.next + 1) % M32 } := by unfold Q.close; rw [he]; rfl
  have hinv := inv_close h.inv
  have hnone : ∀ i, q.got i = none := fun i => by
    cases hg : q.got i with
    | none => rfl
    | some v => have := h.inv.fin2 0 i v he hg; omega
  have f5 : Fr (fun i => i = bq) W ((W.setCell ⟨bq, 6, none⟩ (.bool true)).setCell ⟨bq, 0, none⟩ (.int .u32 (((q.next : Int) + 1) % 4294967296))) := Fr.setCell (S := fun i => i = bq) (Fr.setCell (S := fun i => i = bq) Fr.refl (.inl rfl) _) (.inl rfl) _
  rw [hcl] at hinv ⊢
  refine ⟨?_, rdy_kept h.rdy f5 (fun r hr e => h.apart.2.2.2.1 (by rw [hr, e])), map_kept h.own (f5.block bm (map_lt h.own) (fun e => h.apart.2.2.1 e.symm)), ?_, ?_, h.en, h.apart, hinv⟩
  · have h1 := heap_set (heap_set h.cells 6 (.bool true)) 0 (.int .u32 (((q.next : Int) + 1) % 4294967296))
    have e1 : (((q.next : Int) + 1) % 4294967296) = (((q.next + 1) % M32 : Nat) : Int) := by unfold M32; omega
    rw [e1] at h1 ⊢
    exact h1
  · refine ⟨h.is.tidy, ?_, ?_, h.is.size⟩
    · intro k hk
      have h1 := h.is.has k hk
      rw [hnone] at h1
      rw [h1]
      show _ = (q.got _).isSome
      rw [hnone]
    · intro k v _ hg
      have hg' : q.got (Q.pos { q with ended := true, next := (q.next + 1) % M32 } k) = some v := hg
      rw [hnone] at hg'; cases hg'
  · intro x _ hne
    cases hne

set_option maxHeartbeats 1000000 in
theorem moves_any {w : World} {B bq bm : Nat} {rv0 : Value} {q : Q} {D0 : Dm} {en : Nat} (h : FQ w B bq bm rv0 q D0 en) (hne : q.ended = false) (hB : B ≤ w.heap.size) :
    Calls Try.prog 25 #[.pointer (some ⟨bq, 0, none⟩)] w fun e w' => e = .returned (.tuple #[]) ∧ ∃ rv D, FQ w' B bq bm rv (q.pop (lead q.h)).close D en ∧ Fr (Own3 bq bm rv0) w w' ∧ (rv.ownBlock = rv0.ownBlock ∨ ∃ r, rv.ownBlock = some r ∧ w.heap.size ≤ r) := by
  have hq0 : q.pop 0 = q := pop_zero q h.inv.next
  have hstart : MovRel w w B bq bm rv0 q en 0 := ⟨rv0, D0, by rw [hq0]; exact h, Nat.zero_le _, Fr.refl, .inl rfl⟩
  have hmeas0 : ∀ {wr : World} {rv : Value} {q : Q} {D : Dm} {en : Nat}, FQ wr B bq bm rv q D en → mapSize wr bm = Maps.size D := fun h => mapSize_eq h.own
  go_enter Try.func25, Try.ntmps25
  go_wp2_with fail
  go_loopw [3] (fun _ wr => ∃ n, MovRel w wr B bq bm rv0 q en n) (fun _ wr => mapSize wr bm)
  case atStart => exact ⟨0, hstart⟩
  case round =>
    obtain ⟨n, rv, D, hF, hn, hfr, hloc⟩ := hrel
    clear hstart
    have hN := hF.inv.next
    have hp0 : (q.pop n).pos (q.pop n).next = 0 := by unfold Q.pos M32 at *; omega
    have hlook := look_held hF.own hF.is hN
    rw [hp0] at hlook
    generalize hqn : q.pop n = qn at *
    have c0 := cell_of hF.cells 0 _ rfl
    have c3 := cell_of hF.cells 3 _ rfl
    by_cases hg : (qn.got 0).isSome = true
    · -- ONE MORE IS READY
      obtain ⟨v, hv⟩ := Option.isSome_iff_exists.1 hg
      rw [hv] at hlook
      have HV := Lib.hid hv
      have hnl : n < lead q.h := by
        rcases Nat.lt_or_ge n (lead q.h) with h1 | h1
        · exact h1
        · exfalso
          have h2 : n = lead q.h := by omega
          have h3 := got_pop (q := q) (n := n) (by have := lead_le q.h; omega) 0
          rw [hqn, hv, Nat.zero_add, h2] at h3
          unfold Q.got at h3
          rw [lead_end] at h3
          cases h3
      have F := Lib.hid hF
      clear hF hg hv
      go_wp2_with fail
      go_quiet (fail)
      have hcell : (wr.drewN nq).heap[bq]? = _ := F.out.cells
      have hownD : (wr.drewN nq).ownsMap Try.prog 22 (plainElem Try.prog 5) bm (Maps.size D) D := map_kept F.out.own rfl
      have hfr1 : Fr (Own3 bq bm rv0) w (wr.drewN nq) := hfr.drewN _
      have hrdy1 : Rdy (wr.drewN nq) B rv qn.ready := rdy_kept (S := fun _ => False) F.out.rdy (Fr.refl.drewN _) (fun _ _ h => h)
      clear c0 c3 hlook hfr
      generalize wr.drewN nq = W1 at *
      have c0 := cell_of hcell 0 _ rfl
      have c3 := cell_of hcell 3 _ rfl
      have hkey := key_of hN
      go_wp2_with fail
      go_still_tail 8, (by kernel_rfl)
      change wpList _ _ _ _ _ W1.drew
      have hcell2 : W1.drew.heap[bq]? = _ := hcell
      have hown2 : W1.drew.ownsMap Try.prog 22 (plainElem Try.prog 5) bm (Maps.size D) D := map_kept hownD rfl
      have hfr2 : Fr (Own3 bq bm rv0) w W1.drew := hfr1.drew
      have hrdy2 : Rdy W1.drew B rv qn.ready := rdy_kept (S := fun _ => False) hrdy1 Fr.refl.drew (fun _ _ h => h)
      clear hcell hownD hfr1 hrdy1 c0 c3
      generalize W1.drew = W2 at *
      refine wpList_delete_own _ rfl _ _ 46 22 rfl 5 law22 Try.underlying46 _ bm _ _ rfl hown2 _ _ rfl hkey ?_
      intro w3 hown3 hturn3
      have hap := F.out.apart
      have hg3 := hturn3.grown
      have hcell3 : w3.heap[bq]? = _ := (hg3.block bq (lt_of hcell2) (fun e => hap.2.2.1 (Option.some.inj e))).trans hcell2
      have hfr3 : Fr (Own3 bq bm rv0) w w3 := hfr2.grown hg3 (fun j hj => by cases hj; exact .inl (.inr (.inl rfl)))
      have hrdy3 : Rdy w3 B rv qn.ready := rdy_kept (S := fun i => i = bm) hrdy2 (Fr.refl.grown hg3 (fun j hj => by cases hj; exact .inl rfl)) (fun r hr e => hap.2.2.2.2 (by rw [hr, e]))
      clear hcell2 hown2 hfr2 hrdy2 hturn3 hg3 hkey
      have c2 := cell_of hcell3 2 _ rfl
      have hB3 : B ≤ w3.heap.size := Nat.le_trans hB hfr3.size
      have hlen : qn.ready.length + [v].length ≤ 1048576 := by
        have h1 := F.out.inv.ready
        have h2 := F.out.inv.size2
        simp; omega
      have hrdyA : ∀ o, Rdy (w3.alloc o) B rv qn.ready := fun o => rdy_kept (S := fun _ => False) hrdy3 (Fr.refl.alloc _) (fun _ _ h => h)
      have hcellA : ∀ o, (w3.alloc o).heap[bq]? = _ := fun o => (Below.heap_alloc w3 o bq (lt_of hcell3)).trans hcell3
      have hfrA : ∀ o, Fr (Own3 bq bm rv0) w (w3.alloc o) := fun o => hfr3.alloc o
      have hownA : ∀ o, (w3.alloc o).ownsMap Try.prog 22 (plainElem Try.prog 5) bm (Maps.size D) (D.del (key qn.next)) := fun o => map_kept hown3 (Below.heap_alloc w3 o bm (map_lt hown3))
      have hBA : ∀ o, B ≤ (w3.alloc o).heap.size := fun o => by simp; omega
      go_wp2_with (first | (at_builtin; refine wp_append_rdy rfl (.tmp 30) (.tmp 32) rfl (B := B) (v := rv) (l := qn.ready) (m := [v]) rfl (hrdyA _) ⟨w3.heap.size, 0, none⟩ 1 rfl (by simp) (cell_one_new _ _ _) (hBA _) hlen ?_; intro a4 k4 cp4 w4 hk4 hrdy4 hg4 hloc4; have HK4 := Lib.hid hk4; clear hk4; have hcell4 : w4.heap[bq]? = _ := (hg4.block bq (lt_of (hcellA _)) (fun e => hap.2.2.2.1 e.symm)).trans (hcellA _); have d2 := cell_of hcell4 2 _ rfl; have d0 := cell_of hcell4 0 _ rfl; have f2 := frozen_of hcell4 2; have f0 := frozen_of hcell4 0))
      have hnext : q.pop (n + 1) = qn.pop 1 ∧ qn.h = some v :: qn.h.tail := by
        have h1 : q.h[n]? = some (some v) := by
          have h2 := got_pop (q := q) (n := n) (by have := lead_le q.h; omega) 0
          rw [hqn, HV.out, Nat.zero_add] at h2
          obtain ⟨u, hu⟩ := lead_get hnl
          unfold Q.got at h2
          rw [hu] at h2 ⊢
          rw [h2]; rfl
        have h3 := pop_succ h1
        rw [hqn] at h3
        exact ⟨h3.1.symm, h3.2.1⟩
      have hinv1 : Inv (qn.pop 1) := by
        rw [← hnext.1]; exact inv_pop h.inv (by omega)
      have hF5 := mov_step F.out.inv hinv1 F.out.is F.out.endAt F.out.en hap hnext.2 hcell4 hrdy4 (hownA _) hg4 hloc4 (lt_of (hcellA _))
      have hszD : Maps.size (D.del (key qn.next)) < Maps.size D := by
        have hs := size_del (k := key qn.next) F.out.is.tidy
        have hh : Maps.has D (key qn.next) = true := by
          rw [F.out.is.has _ hN, hp0, HV.out]; rfl
        rw [hh] at hs
        simp only [if_true] at hs
        omega
      have hm5 := mapSize_eq hF5.own
      have hm0 := mapSize_eq F.out.own
      have hloc5 : (Value.slice a4 k4 cp4).ownBlock = rv0.ownBlock ∨ ∃ r, (Value.slice a4 k4 cp4).ownBlock = some r ∧ w.heap.size ≤ r := by
        rcases hloc4 with e | e
        · rw [e]; exact hloc
        · right; exact ⟨_, e, Nat.le_trans hfr3.size (by simp)⟩
      have hfr5 := ((hfrA (.cells #[.int .u8 (v.toNat : Int)] 5)).grown hg4 (fun j hj => by
        rcases hloc with e | ⟨r, e, hr⟩
        · left; right; right; rw [← e]; exact hj
        · right; rw [e] at hj; injection hj with hj; omega))
      refine ⟨⟨n + 1, _, _, by rw [hnext.1]; exact hF5, by omega, (hfr5.setCell (.inl (.inl rfl)) _).setCell (.inl (.inl rfl)) _, hloc5⟩, ?_⟩
      rw [hm5, hm0]
      exact hszD
    · -- NOTHING STANDS NEXT
      have hn0 : qn.got 0 = none := by
        cases hh : qn.got 0 with
        | none => rfl
        | some v => rw [hh] at hg; exact absurd rfl hg
      have hnl : n = lead q.h := by
        rcases Nat.lt_or_ge n (lead q.h) with h1 | h1
        · exfalso
          obtain ⟨u, hu⟩ := lead_get h1
          have h2 := got_pop (q := q) (n := n) (by have := lead_le q.h; omega) 0
          rw [hqn, hn0, Nat.zero_add] at h2
          unfold Q.got at h2
          rw [hu] at h2; cases h2
        · omega
      have hpl : q.pop (lead q.h) = qn := by rw [← hnl]; exact hqn
      have HPL := Lib.hid hpl
      clear hpl
      have hend : qn.ended = false := by rw [← hqn]; exact hne
      have hlook' := hlook
      rw [hn0] at hlook'
      clear hlook hg hn
      have c4 := cell_of hF.cells 4 _ rfl
      have c5 := cell_of hF.cells 5 _ rfl
      have f6 := frozen_of hF.cells 6
      have c6 := cell_of hF.cells 6 _ rfl
      have f0 := frozen_of hF.cells 0
      cases he : qn.e with
      | none =>
        rw [he] at c4
        have hcl : qn.close = qn := by unfold Q.close; rw [he]; rfl
        have HCL := Lib.hid hcl
        have F := Lib.hid hF
        clear hF he hcl
        go_wp2_with fail
        go_quiet (fail)
        go_wp2_with fail
        go_quiet (fail)
        go_wp2_with fail
        go_end0
        exact ⟨rfl, rv, D, by rw [HPL.out, HCL.out]; exact F.out.new ((Fr.refl.drewN _).drewN _), (hfr.drewN _).drewN _, hloc⟩
      | some x =>
        rw [he] at c4
        have hat := hF.endAt x he hend
        have hx1 := hF.inv.fin1 x he
        have hx2 := win_lt hF.inv
        have hx3 := hF.inv.len
        have hx4 := hF.inv.size2
        have F := Lib.hid hF
        clear hF
        by_cases hx : x = 0
        · have HE := Lib.hid (show qn.e = some 0 by rw [he, hx])
          have hen : en = qn.next := by rw [hat, hx, Nat.add_zero, Nat.mod_eq_of_lt hN]
          rw [hen] at c5
          clear hat hen hx he
          go_wp2_with fail
          go_quiet (fail)
          go_wp2_with fail
          go_quiet (fail)
          go_wp2_with fail
          go_end0
          refine ⟨rfl, rv, D, ?_, ?_, hloc⟩
          · rw [HPL.out]
            exact close_step (F.out.new (Fr.refl.drewN _)) HE.out
          · exact Fr.setCell (S := Own3 bq bm rv0) (p := ⟨bq, 0, none⟩) (Fr.setCell (S := Own3 bq bm rv0) (p := ⟨bq, 6, none⟩) (hfr.drewN _) (.inl (.inl rfl)) _) (.inl (.inl rfl)) _
        · have hcl : qn.close = qn := by unfold Q.close; rw [he, if_neg (by intro h; injection h with h; exact hx h)]
          have HCL := Lib.hid hcl
          have t1 : ((en : Int) == (qn.next : Int)) = false := by
            rw [beq_eq_false_iff_ne, hat]
            unfold M32 at *
            omega
          clear hat hx he hcl hx1 hx2 hx3 hx4
          go_wp2_with fail
          go_quiet (fail)
          go_wp2_with fail
          go_quiet (fail)
          go_wp2_with fail
          go_end0
          exact ⟨rfl, rv, D, by rw [HPL.out, HCL.out]; exact F.out.new ((Fr.refl.drewN _).drewN _), (hfr.drewN _).drewN _, hloc⟩

end Go.Proofs.Ythcjmghdmcapeaa
