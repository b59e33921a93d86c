/-
  The walk of the program's Read.
-/
import Derived.Test.YthcjmghdmcapeaaPut
import Derived.Laws.IdiomStrings
import Derived.Laws.BytesArg
import Derived.Deep.RegionLawGrows
namespace Go.Proofs.Ythcjmghdmcapeaa
open Go.RowKit Go.Maps Go.ChangeShapes

theorem run_append0_empty (w : World) (ty : TypeId) (a x : Option Addr) (c : Nat) : (Builtin.append_ #[41, 41] ty #[.slice a 0 0, .slice x 0 c]).run Try.prog w = .ok (.slice a 0 0) w := by
  obtain ⟨i0, hi, _, _, hz2⟩ := info_parts info5
  cases a <;> cases x <;> simp [Builtin.append_, run_underlying Try.underlying41, sizeOf, typeInfo, hi, Builtin.lenOf, Builtin.firstCells, loadCells, loadCellsFrom, storeCells, hz2]

theorem run_append0 {w : World} {B : Nat} (hB : B ≤ w.heap.size) (ty : TypeId) (a x : Option Addr) (l : List UInt8) (c : Nat) (hc : l ≠ [] → ∃ ad, x = some ad ∧ ∀ j u, (bytesV l)[j]? = some u → w.cell? (ad.add j) = some u) (hlen : l.length ≤ 1048576) (ha : ∀ ad, a = some ad → ad.block < w.heap.size) :
    ∃ a' k' c' w', (Builtin.append_ #[41, 41] ty #[.slice a 0 0, .slice x l.length c]).run Try.prog w = .ok (.slice a' k' c') w' ∧ k' = l.length ∧ Rdy w' B (.slice a' k' c') l ∧ w.grownBy w' (Value.slice a 0 0).ownBlock ∧ ((Value.slice a' k' c').ownBlock = (Value.slice a 0 0).ownBlock ∨ (Value.slice a' k' c').ownBlock = some w.heap.size) := by
  by_cases hl : l = []
  · subst hl
    exact ⟨a, 0, 0, w, run_append0_empty w ty a x c, rfl, .inl ⟨rfl, a, rfl, ha⟩, ⟨rfl, rfl, rfl, Nat.le_refl _, fun _ _ _ => rfl⟩, .inl rfl⟩
  · obtain ⟨ad, rfl, hcells⟩ := hc hl
    have hr0 : Rdy w B (.slice a 0 0) [] := .inl ⟨rfl, a, rfl, ha⟩
    obtain ⟨v', w', h1, h2, h3, h4⟩ := run_append_rdy hr0 ad c hl hcells hB (by simpa using hlen) ty
    rw [List.nil_append] at h2
    obtain ⟨a', c', rfl, _⟩ := rdy_len h2
    exact ⟨a', _, c', w', h1, rfl, h2, h3, h4⟩

theorem rdy_cell {w : World} {g : Nat} {cur : Array Value} {l : List UInt8} (h : w.heap[g]? = some (.cells cur 5 (0, 0))) (h7 : cur.toList.take (l.length * 1) = bytesV l) (o j : Nat) (u : Value) (hj : (bytesV (l.drop o))[j]? = some u) :
    w.cell? (Addr.add ⟨g, o, none⟩ j) = some u := by
  have e : Addr.add ⟨g, o, none⟩ j = ⟨g, o + j, none⟩ := by unfold Addr.add; split <;> simp_all
  rw [e]
  have h2 : w.cell? ⟨g, o + j, none⟩ = cur[o + j]? := by simp [World.cell?, h]
  rw [h2]
  have h3 : (bytesV l)[o + j]? = some u := by
    unfold bytesV at hj ⊢
    rw [List.map_drop, List.getElem?_drop] at hj
    exact hj
  rw [← h7] at h3
  have h4 := (List.getElem?_eq_some_iff.1 h3).1
  rw [List.length_take] at h4
  rw [List.getElem?_take_of_lt (by omega)] at h3
  rw [← h3, Array.getElem?_toList]

theorem step_append0 {ops : Array Oper} {o : Oper} {a : Act} {w : World} {K : Act → World → Prop} {Q' : Exit → Act → World → Prop} {E : Prop}
    (hg : o.guard = none) (s x : Operand) (hop : o.op = Op.call { callee := Callee.builtin Builtin.append, args := #[s, x], argTypes := #[41, 41] })
    {B : Nat} (hB : B ≤ w.heap.size) {ao xo : Option Addr} {l : List UInt8} {k c : Nat} (hs : a.eval s = .slice ao 0 0) (hx : a.eval x = .slice xo k c) (hk : k = l.length)
    (hc : l ≠ [] → ∃ ad, xo = some ad ∧ ∀ j u, (bytesV l)[j]? = some u → w.cell? (ad.add j) = some u) (hlen : l.length ≤ 1048576) (ha : ∀ ad, ao = some ad → ad.block < w.heap.size)
    (hK : ∀ (a' : Option Addr) (k' c' : Nat) (w' : World), k' = l.length → Rdy w' B (.slice a' k' c') l → w.grownBy w' (Value.slice ao 0 0).ownBlock → ((Value.slice a' k' c').ownBlock = (Value.slice ao 0 0).ownBlock ∨ (Value.slice a' k' c').ownBlock = some w.heap.size) → K (a.put o.dst (.slice a' k' c')) w') :
    if Region.wanted o (yielded ops a.tmps) = true then Oper.wp Try.prog o a w K Q' else E := by
  have hw : Region.wanted o (yielded ops a.tmps) = true := by simp [Region.wanted, hg]
  rw [if_pos hw]
  subst hk
  obtain ⟨a', k', c', w', hrun, r1, r2, r3, r4⟩ := run_append0 hB o.type ao xo l c hc hlen ha
  unfold Oper.wp
  simp [execOp, hop, resolve, invoke, builtin, hs, hx, hrun, Result.andThen]
  exact hK a' k' c' w' r1 r2 r3 r4

/-- a string of the first bytes -/
theorem run_string {w : World} {B : Nat} {a : Option Addr} {k c : Nat} {l : List UInt8} (h : Rdy w B (.slice a k c) l) (m : Nat) (hm : m ≤ l.length) (c' : Nat) : (convert 41 9 (.slice a m c')).run Try.prog w = .ok (.string ⟨(l.take m).toArray⟩) w := by
  rcases h with ⟨rfl, a', _⟩ | ⟨_, ⟨h1, h2⟩ | ⟨g, cap, cur, h1, _, h3, h4, h5, h6, h7⟩⟩
  · simp at hm
    subst hm
    cases a with
    | none => rw [run_convert_bytes_string w 41 9 5 none 0 c' Try.underlying41 Try.underlying5 Try.underlying9]; simp [Conv.bytesToString]; rfl
    | some ad => exact run_convert_bytes_back w 41 9 5 ad c' [] Try.underlying41 Try.underlying5 Try.underlying9 (fun j hj => absurd hj (by simp))
  · injection h1 with h1 _ _
    subst h1
    have hm0 : m = 0 := by omega
    subst hm0
    rw [run_convert_bytes_string w 41 9 5 none 0 c' Try.underlying41 Try.underlying5 Try.underlying9]; simp [Conv.bytesToString]; rfl
  · injection h1 with h1 _ _
    subst h1
    have e : (l.take m).length = m := by simp; omega
    have := run_convert_bytes_back w 41 9 5 ⟨g, 0, none⟩ c' (l.take m) Try.underlying41 Try.underlying5 Try.underlying9 (fun j hj => by
      refine rdy_cell h3 h7 0 j _ ?_
      have hj' : j < l.length := by rw [e] at hj; omega
      unfold bytesV
      rw [List.drop_zero, List.getElem?_map, List.getElem?_eq_getElem hj', List.getElem_take]
      rfl)
    rw [e] at this
    exact this

theorem rdy_cap {w : World} {B : Nat} {a : Option Addr} {k c : Nat} {l : List UInt8} (h : Rdy w B (.slice a k c) l) : l.length ≤ c := by
  rcases h with ⟨rfl, a', _⟩ | ⟨_, ⟨h1, h2⟩ | ⟨g, cap, cur, h1, _, h3, h4, h5, h6, h7⟩⟩
  · simp
  · rw [h2]; simp
  · injection h1 with h1 h1' h1''
    rw [h1'']; exact h4

theorem rdy_tail {w : World} {B : Nat} {a : Option Addr} {k c : Nat} {l : List UInt8} (h : Rdy w B (.slice a k c) l) (o : Nat) (hne : l.drop o ≠ []) :
    ∃ g, a = some ⟨g, 0, none⟩ ∧ c ≠ o ∧ ∀ j u, (bytesV (l.drop o))[j]? = some u → w.cell? (Addr.add ⟨g, o, none⟩ j) = some u := by
  rcases h with ⟨rfl, a', _⟩ | ⟨_, ⟨h1, h2⟩ | ⟨g, cap, cur, h1, _, h3, h4, h5, h6, h7⟩⟩
  · simp at hne
  · rw [List.eq_nil_of_length_eq_zero h2] at hne; simp at hne
  · injection h1 with h1 h1' h1''
    have : o < l.length := by
      rcases Nat.lt_or_ge o l.length with h' | h'
      · exact h'
      · exact absurd (List.drop_eq_nil_of_le h') hne
    exact ⟨g, h1, by omega, fun j u hj => rdy_cell h3 h7 o j u hj⟩

theorem rdy_tail0 {w : World} {B : Nat} {a : Option Addr} {k c : Nat} {l : List UInt8} (h : Rdy w B (.slice a k c) l) :
    l.drop 0 ≠ [] → ∃ ad, a = some ad ∧ ∀ j u, (bytesV (l.drop 0))[j]? = some u → w.drew.cell? (ad.add j) = some u := fun hne => by
  obtain ⟨g, h1, _, h3⟩ := rdy_tail h 0 hne
  exact ⟨_, h1, h3⟩

theorem rdy_tailk {w : World} {B : Nat} {a : Option Addr} {k c : Nat} {l : List UInt8} (h : Rdy w B (.slice a k c) l) (o : Nat) :
    l.drop o ≠ [] → ∃ ad, (if c = o then a else Option.map (fun x => x.add o) a) = some ad ∧ ∀ j u, (bytesV (l.drop o))[j]? = some u → w.drew.cell? (ad.add j) = some u := fun hne => by
  obtain ⟨g, h1, h2, h3⟩ := rdy_tail h o hne
  refine ⟨⟨g, o, none⟩, ?_, h3⟩
  rw [if_neg h2, h1]
  simp [Addr.add]; omega

/-- the queue behind a reading -/
theorem read_step {w w' : World} {B bq bm : Nat} {a a' : Option Addr} {l c k' c' : Nat} {q : Q} {D : Dm} {en : Nat} (h : FQ w B bq bm (.slice a l c) q D en) (m : Nat)
    (hr : Rdy w' B (.slice a' k' c') (q.ready.drop m)) (hg : w.drew.grownBy w' (Value.slice a 0 0).ownBlock) (hloc : (Value.slice a' k' c').ownBlock = (Value.slice a 0 0).ownBlock ∨ (Value.slice a' k' c').ownBlock = some w.drew.heap.size) :
    ∃ rv', FQ (w'.setCell ⟨bq, 2, none⟩ (.slice a' k' c')) B bq bm rv' (q.read m) D en ∧ Fr (Own3 bq bm (.slice a l c)) w (w'.setCell ⟨bq, 2, none⟩ (.slice a' k' c')) ∧ Loc w (.slice a l c) rv' := by
  have hown : (Value.slice a 0 0).ownBlock = (Value.slice a l c).ownBlock := by cases a <;> rfl
  rw [hown] at hg hloc
  have hap := h.apart
  have hbm := map_lt h.own
  have hbq := lt_of h.cells
  have f1 : Fr (Own3 bq bm (.slice a l c)) w w' := (Fr.refl.drew).grown hg (fun j hj => .inl (.inr (.inr hj)))
  have f2 := f1.setCell (p := ⟨bq, 2, none⟩) (.inl (.inl rfl)) (.slice a' k' c')
  have hne : (Value.slice a' k' c').ownBlock ≠ some bq ∧ (Value.slice a' k' c').ownBlock ≠ some bm := by
    rcases hloc with e | e
    · rw [e]; exact ⟨hap.2.2.2.1, hap.2.2.2.2⟩
    · rw [e]
      have e2 : w.drew.heap.size = w.heap.size := rfl
      exact ⟨fun h => by injection h; omega, fun h => by injection h; omega⟩
  have hc1 : w'.heap[bq]? = _ := (hg.block bq hbq (fun e => hap.2.2.2.1 e.symm)).trans h.cells
  have hm1 : w'.heap[bm]? = w.heap[bm]? := hg.block bm hbm (fun e => hap.2.2.2.2 e.symm)
  have f3 : Fr (fun i => i = bq) w' (w'.setCell ⟨bq, 2, none⟩ (.slice a' k' c')) := Fr.setCell (S := fun i => i = bq) Fr.refl (.inl rfl) _
  refine ⟨.slice a' k' c', ⟨heap_set hc1 2 _, rdy_kept hr f3 (fun r hr e => hne.1 (by rw [hr, e])), ?_, ⟨h.is.tidy, h.is.has, h.is.val, h.is.size⟩, h.endAt, h.en, ⟨hap.1, hap.2.1, hap.2.2.1, hne.1, hne.2⟩, inv_read h.inv m⟩, f2, ?_⟩
  · have h5 := map_kept h.own hm1
    exact map_kept h5 (f3.block bm (map_lt h5) (fun e => hap.2.2.1 e.symm))
  · rcases hloc with e | e
    · exact .inl e
    · exact .inr ⟨_, e, Nat.le_refl _⟩

/-- how many bytes a reading takes -/
def takesN (n0 : Int) (l : Nat) : Nat := min n0.toNat l

def ReadPost (w : World) (B bq bm : Nat) (rv : Value) (q : Q) (m : Nat) (D : Dm) (en : Nat) (e : Ending) (w' : World) : Prop :=
  e = .returned (.string ⟨(q.ready.take m).toArray⟩) ∧ ∃ rv', FQ w' B bq bm rv' (q.read m) D en ∧ Fr (Own3 bq bm rv) w w' ∧ Loc w rv rv'

set_option maxHeartbeats 1000000 in
theorem fread_any {w : World} {B bq bm : Nat} {rv : Value} {q : Q} {D : Dm} {en : Nat} (h : FQ w B bq bm rv q D en) (hB : B ≤ w.heap.size) (n0 : Int) :
    Calls Try.prog 13 #[.pointer (some ⟨bq, 0, none⟩), .int .i64 n0] w (ReadPost w B bq bm rv q (takesN n0 q.ready.length) D en) := by
  obtain ⟨a, c, hv, _⟩ := rdy_len h.rdy
  subst hv
  have hcap := rdy_cap h.rdy
  have HAB := Lib.hid (show ∀ ad, a = some ad → ad.block < w.drew.heap.size from fun ad e => rdy_real h.rdy ad.block (by rw [e]; rfl))
  have c2 := cell_of h.cells 2 _ rfl
  have f2 := frozen_of h.cells 2
  have hstr := fun m hm c' => run_string h.rdy m hm c'
  have hbq := lt_of h.cells
  have hnq : some bq ≠ (Value.slice a 0 0).ownBlock := fun e => h.apart.2.2.2.1 (by rw [← show (Value.slice a 0 0).ownBlock = (Value.slice a q.ready.length c).ownBlock by cases a <;> rfl, e])
  have hlen : q.ready.length ≤ 65536 := Nat.le_trans h.inv.ready h.inv.size2
  have hff : ∀ w', w.drew.grownBy w' (Value.slice a 0 0).ownBlock → w'.cell? ⟨bq, 2, none⟩ = some (.slice a q.ready.length c) ∧ w'.frozen? ⟨bq, 2, none⟩ = false := fun w' hg =>
    ⟨cell_of ((hg.block bq hbq hnq).trans h.cells) 2 _ rfl, frozen_of ((hg.block bq hbq hnq).trans h.cells) 2⟩
  have HFF := Lib.hid hff
  have F := Lib.hid h
  clear h hff hnq
  generalize hl : q.ready.length = l at *
  have hcs : (n0 < 0 ∧ takesN n0 l = 0) ∨ (∃ k : Nat, n0 = (k : Int) ∧ k ≤ l ∧ takesN n0 l = k) ∨ ((l : Int) < n0 ∧ takesN n0 l = l) := by
    unfold takesN
    by_cases h1 : n0 < 0
    · exact .inl ⟨h1, by omega⟩
    · by_cases h2 : (l : Int) < n0
      · exact .inr (.inr ⟨h2, by omega⟩)
      · exact .inr (.inl ⟨n0.toNat, by omega, by omega, by omega⟩)
  rcases hcs with ⟨h1, h2⟩ | ⟨k, rfl, h1, h2⟩ | ⟨h1, h2⟩
  · rw [h2]
    have hcells := rdy_tail0 F.out.rdy
    have hstr2 := hstr 0 (Nat.zero_le _) c
    have hRS := Lib.hid (fun a' k' c' w' h1 h2 h3 => read_step (w' := w') (a' := a') (k' := k') (c' := c') F.out (0) h1 h2 h3)
    have HKK := Lib.hid (show l = (q.ready.drop (0)).length by rw [List.length_drop, hl]; try omega)
    have HLE := Lib.hid (show (q.ready.drop (0)).length ≤ 1048576 by rw [List.length_drop]; omega)
    have HCE := Lib.hid hcells
    clear h2 hstr hcells
    go_enter Try.func13, Try.ntmps13
    go_wp2_with fail
    go_region_law (refine step_append0 (w := w.drew) rfl (.tmp 29) (.tmp 35) rfl (k := l) (c := c) (ao := a) (xo := a) (l := q.ready.drop (0)) (show B ≤ w.drew.heap.size from hB) (by exact rfl) (by exact rfl) HKK.out HCE.out HLE.out HAB.out ?_; intro a' k' c' w' hk4 hr4 hg4 hl4; have d2 := (HFF.out w' hg4).1; have e2 := (HFF.out w' hg4).2; clear hk4)
    all_goals (go_wp2_with fail)
    all_goals go_ret
    all_goals first
      | exact ⟨rfl, hRS.out _ _ _ _ hr4 hg4 hl4⟩
      | (have hck : c = 0 := (by assumption); subst hck; exact ⟨rfl, hRS.out _ _ _ _ hr4 hg4 hl4⟩)
  · rw [h2]
    have hcells := rdy_tailk F.out.rdy k
    have hstr2 := hstr k h1 c
    have hRS := Lib.hid (fun a' k' c' w' h1 h2 h3 => read_step (w' := w') (a' := a') (k' := k') (c' := c') F.out (k) h1 h2 h3)
    have HKK := Lib.hid (show l - k = (q.ready.drop (k)).length by rw [List.length_drop, hl]; try omega)
    have HLE := Lib.hid (show (q.ready.drop (k)).length ≤ 1048576 by rw [List.length_drop]; omega)
    have HCE := Lib.hid hcells
    clear h2 hstr hcells
    go_enter Try.func13, Try.ntmps13
    go_wp2_with fail
    go_region_law (refine step_append0 (w := w.drew) rfl (.tmp 29) (.tmp 35) rfl (k := l - k) (c := c - k) (ao := a) (xo := if c = k then a else Option.map (fun x => x.add k) a) (l := q.ready.drop (k)) (show B ≤ w.drew.heap.size from hB) (by exact rfl) (by exact rfl) HKK.out HCE.out HLE.out HAB.out ?_; intro a' k' c' w' hk4 hr4 hg4 hl4; have d2 := (HFF.out w' hg4).1; have e2 := (HFF.out w' hg4).2; clear hk4)
    all_goals (go_wp2_with fail)
    all_goals go_ret
    all_goals first
      | exact ⟨rfl, hRS.out _ _ _ _ hr4 hg4 hl4⟩
      | (have hck : c = k := (by assumption); subst hck; exact ⟨rfl, hRS.out _ _ _ _ hr4 hg4 hl4⟩)
  · rw [h2]
    have hcells := rdy_tailk F.out.rdy l
    have hstr2 := hstr l (Nat.le_refl _) c
    have hRS := Lib.hid (fun a' k' c' w' h1 h2 h3 => read_step (w' := w') (a' := a') (k' := k') (c' := c') F.out (l) h1 h2 h3)
    have HKK := Lib.hid (show 0 = (q.ready.drop (l)).length by rw [List.length_drop, hl]; try omega)
    have HLE := Lib.hid (show (q.ready.drop (l)).length ≤ 1048576 by rw [List.length_drop]; omega)
    have HCE := Lib.hid hcells
    clear h2 hstr hcells
    go_enter Try.func13, Try.ntmps13
    go_wp2_with fail
    go_region_law (refine step_append0 (w := w.drew) rfl (.tmp 29) (.tmp 35) rfl (k := 0) (c := c - l) (ao := a) (xo := if c = l then a else Option.map (fun x => x.add l) a) (l := q.ready.drop (l)) (show B ≤ w.drew.heap.size from hB) (by exact rfl) (by exact rfl) HKK.out HCE.out HLE.out HAB.out ?_; intro a' k' c' w' hk4 hr4 hg4 hl4; have d2 := (HFF.out w' hg4).1; have e2 := (HFF.out w' hg4).2; clear hk4)
    all_goals (go_wp2_with fail)
    all_goals go_ret
    all_goals first
      | exact ⟨rfl, hRS.out _ _ _ _ hr4 hg4 hl4⟩
      | (have hck : c = l := (by assumption); subst hck; exact ⟨rfl, hRS.out _ _ _ _ hr4 hg4 hl4⟩)

end Go.Proofs.Ythcjmghdmcapeaa
