/- DecdivLarge, the tied card: for every context and all Decs x and y the law answers true and leaves its arguments as they were, for a Dec with too many words gives ErrSize from each of the seven functions. Conditions: none beyond the given statement (part 2 of 8) -/
import Derived.Test.YtilkfpaelkekfaaDoorK00
import Derived.Laws.CopyRow
namespace Go.Rk
open Go.RowKit
variable {C : Ctx} {w0 w w' : World} {N : Nat} {E : Env} {σ : St} {a : Act} {Wr : Nat → Prop} {cells cells' : List AV} {xs ys : List Value}
theorem RepL.append (h : RepL E Wr w cells xs) (h' : RepL E Wr w cells' ys) : RepL E Wr w (cells ++ cells') (xs ++ ys) := by
  refine ⟨by simp [h.len, h'.len], fun j hj => ?_, fun j hj hj' => ?_⟩
  · rw [List.getElem_append]
    split
    · exact h.one j _
    · exact h'.one _ _
  · by_cases hlt : j < cells.length
    · have hlt' : j < xs.length := by rw [h.len]; exact hlt
      rw [List.getElem_append_left hlt, List.getElem_append_left hlt']
      exact h.rep j hlt hlt'
    · have hl := h.len
      have hge : cells.length ≤ j := by omega
      have hge' : xs.length ≤ j := by omega
      rw [List.getElem_append_right hge, List.getElem_append_right hge']
      have e : j - xs.length = j - cells.length := by omega
      simp only [e]
      exact h'.rep _ _ _
theorem RepL.take (h : RepL E Wr w cells xs) (n : Nat) : RepL E Wr w (cells.take n) (xs.take n) :=
  ⟨by simp [h.len], fun j hj => by rw [List.getElem_take]; exact h.one j _, fun j hj hj' => by rw [List.getElem_take, List.getElem_take]; exact h.rep j _ _⟩
theorem RepL.drop (h : RepL E Wr w cells xs) (n : Nat) : RepL E Wr w (cells.drop n) (xs.drop n) :=
  ⟨by simp [h.len], fun j hj => by rw [List.getElem_drop]; exact h.one _ _, fun j hj hj' => by rw [List.getElem_drop, List.getElem_drop]; exact h.rep _ _ _⟩
theorem updC_eq : ∀ (xs cells : List AV) (off : Nat), off + xs.length ≤ cells.length → updC cells off xs = cells.take off ++ xs ++ cells.drop (off + xs.length)
  | [], cells, off, _ => by simp [updC]
  | x :: xs, cells, off, h => by
    simp only [List.length_cons] at h
    rw [updC, updC_eq xs _ _ (by simp; omega)]
    have hlt : off < cells.length := by omega
    rw [List.set_eq_take_append_cons_drop, if_pos hlt]
    have hl : (cells.take off).length = off := by simp; omega
    have e1 : (cells.take off ++ x :: cells.drop (off + 1)).take (off + 1) = cells.take off ++ [x] := by
      rw [List.take_append, List.take_of_length_le (by omega), hl, show off + 1 - off = 1 by omega]
      rfl
    have e2 : (cells.take off ++ x :: cells.drop (off + 1)).drop (off + 1 + xs.length) = cells.drop (off + (x :: xs).length) := by
      rw [List.drop_append, hl, List.drop_eq_nil_of_le (by omega), List.nil_append]
      rw [show off + 1 + xs.length - off = xs.length + 1 by omega, List.drop_succ_cons, List.drop_drop]
      congr 1
      simp; omega
    rw [e1, e2]
    simp
theorem RepL.upd {xs' : List Value} (h : RepL E Wr w cells xs) (h' : RepL E Wr w cells' xs') {off : Nat} (hl : off + cells'.length ≤ cells.length) :
    RepL E Wr w (updC cells off cells') (xs.take off ++ xs' ++ xs.drop (off + xs'.length)) := by
  rw [updC_eq _ _ _ hl, h'.len]
  exact ((h.take off).append h').append (h.drop _)
/-- Cells that can be read from an address on. -/
structure Win (E : Env) (Wr : Nat → Prop) (w : World) (cells : List AV) (b o : Nat) : Prop where
  cell : ∀ j (h : j < cells.length), ∃ v, w.cell? ⟨b, o + j, none⟩ = some v ∧ Rep E Wr w (cells[j]) v
  one : ∀ j (h : j < cells.length), (cells[j]).one = true
theorem Win.load (hC : C.Ok) {b o off : Nat} {t : TypeId} {K : AV → Prop} (h : Win E Wr w cells b o) (hk : loadW C t cells off K) :
    ∃ av v, (loadVar t ⟨b, o + off, none⟩).run C.P w = .ok v w ∧ Rep E Wr w av v ∧ K av := by
  obtain ⟨i, hi, hk⟩ := onO_some hk
  have h1 := T_isAgg hC hi w
  cases hg : i.k.isAgg with
  | true =>
    rw [hg] at hk h1
    obtain ⟨hl, hk⟩ := hk
    refine ⟨_, .agg (((List.range i.size).map fun j => (w.cell? ⟨b, o + (off + j), none⟩).getD undef).toArray), ?_, .agg ?_ (fun j hj => ?_) (fun j hj hj' => ?_), hk⟩
    · have hl2 := run_loadCells_list (P := C.P) w ⟨b, o + off, none⟩ ((List.range i.size).map fun j => (w.cell? ⟨b, o + (off + j), none⟩).getD undef) (fun j v hv => by
        rw [List.getElem?_map] at hv
        cases hr : (List.range i.size)[j]? with
        | none => rw [hr] at hv; cases hv
        | some k =>
          have hkj := (List.getElem?_eq_some_iff.1 hr)
          obtain ⟨hjl, hkj⟩ := hkj
          rw [List.getElem_range] at hkj
          subst hkj
          rw [hr] at hv
          simp only [List.length_range] at hjl
          obtain ⟨u, hu, _⟩ := h.cell (off + j) (by omega)
          simp only [Option.map_some, hu, Option.getD_some, Option.some.injEq] at hv
          subst hv
          rw [Addr.add_lit, Nat.add_assoc]
          exact hu)
      rw [List.length_map, List.length_range] at hl2
      simp only [loadVar, Sem.run_bind, h1, T_size hC hi w, Result.andThen_ok, if_true, hl2, Sem.run_pure]
    · simp; omega
    · rw [List.getElem_take, List.getElem_drop]; exact h.one _ _
    · simp only [List.length_take, List.length_drop] at hj
      obtain ⟨u, hu, hr⟩ := h.cell (off + j) (by omega)
      simp only [List.getElem_toArray, List.getElem_map, List.getElem_range, List.getElem_take, List.getElem_drop, hu, Option.getD_some]
      exact hr
  | false =>
    rw [hg] at hk h1
    obtain ⟨av, ha, hk⟩ := onO_some hk
    obtain ⟨hlt, rfl⟩ := List.getElem?_eq_some_iff.1 ha
    obtain ⟨v, hv, hr⟩ := h.cell off hlt
    refine ⟨_, v, ?_, hr, hk⟩
    simp [loadVar, h1, hv]
theorem RepL.win {g : Nat} {arr : Array Value} {e : TypeId} {fr : Nat × Nat} (h : RepL E Wr w cells arr.toList) (hg : w.heap[g]? = some (.cells arr e fr)) : Win E Wr w cells g 0 :=
  ⟨fun j hj => by
    have hj' : j < arr.toList.length := by rw [h.len]; exact hj
    refine ⟨arr.toList[j], ?_, h.rep j hj hj'⟩
    rw [Nat.zero_add, cell_of_row w g j arr e fr hg, ← Array.getElem?_toList, List.getElem?_eq_getElem hj'], h.one⟩
/-- An own row that isn't empty: where it lies. -/
theorem ownsRow_block {B e size : Nat} {v : Value} {n : Nat} (h : w.ownsRow B e size v n xs) (hne : xs ≠ []) :
    ∃ g cap cur, v = .slice (some ⟨g, 0, none⟩) n cap ∧ B ≤ g ∧ w.heap[g]? = some (.cells cur e (0, 0)) ∧ n ≤ cap ∧ cap ≤ maxLen ∧ cur.size = cap * size ∧ cur.toList.take (n * size) = xs := by
  rcases h.2 with ⟨rfl, rfl⟩ | h2
  · exact absurd (List.eq_nil_of_length_eq_zero (by simpa using h.1)) hne
  · exact h2
theorem Rel.rowWin (h : Rel w0 N E σ a w) {d : Nat} {r : ORow} (hd : look d σ.rows = some (some r)) {g m k : Nat} (hv : E.hv d = .slice (some ⟨g, 0, none⟩) m k) : Win E (σ.wr E) w r.cells g 0 := by
  obtain ⟨_, xs, h2, h3⟩ := h.rows d r hd
  refine ⟨fun j hj => ?_, h3.one⟩
  have hj' : j < xs.length := by rw [h3.len]; exact hj
  refine ⟨xs[j], ?_, h3.rep j hj hj'⟩
  have := h2.cells (g := g) (by rw [hv]; rfl) j _ (List.getElem?_eq_getElem hj')
  rw [Addr.add_lit] at this
  exact this
theorem Rel.load (hC : C.Ok) (h : Rel w0 N E σ a w) {p : AV} {pv : Value} {t : TypeId} {K : AV → Prop} (hp : Rep E (σ.wr E) w p pv) (hk : ldW C σ t p K) :
    ∃ av v, (Instr.loadAt t pv).run C.P w = .ok v w ∧ Rep E (σ.wr E) w av v ∧ K av := by
  cases hp with
  | @ptr d off h1 =>
    obtain ⟨bx, hb, hk⟩ := onO_some hk
    obtain ⟨_, _, arr, h3, h4⟩ := h.boxes d bx hb
    obtain ⟨av, v, h5, h6, h7⟩ := (h4.win h3).load hC hk
    rw [Nat.zero_add] at h5
    exact ⟨av, v, by simp [Instr.loadAt, Instr.sureAddr, h5], h6, h7⟩
  | radd b o f hA hc h1 hr =>
    obtain ⟨av, v, h5, h6, h7⟩ := Win.load hC (E := E) (Wr := σ.wr E) (w := w) (b := b) (o := o) ⟨fun j hj => ⟨f j, hc j hj, hr j hj⟩, h1⟩ hk
    exact ⟨av, v, by simp [Instr.loadAt, Instr.sureAddr, h5], h6, h7⟩
  | @addr d off g m k h1 hA =>
    simp only [ldW] at hk
    cases hd : look d σ.rows with
    | none => rw [hd] at hk; exact hk.elim
    | some o =>
      cases o with
      | none => rw [hd] at hk; exact hk.elim
      | some r =>
        rw [hd] at hk
        obtain ⟨av, v, h5, h6, h7⟩ := (h.rowWin hd hA).load hC hk
        rw [Nat.zero_add] at h5
        exact ⟨av, v, by simp [Instr.loadAt, Instr.sureAddr, h5], h6, h7⟩
  | _ => exact hk.elim
/-- A store: into a variable or a row of the call's own. -/
theorem Rel.store (hC : C.Ok) (h : Rel w0 N E σ a w) {p x : AV} {pv xv : Value} {t : TypeId} {K : St → Prop} (hp : Rep E (σ.wr E) w p pv) (hx : Rep E (σ.wr E) w x xv) (hk : stW C σ t p x K) :
    ∃ w' σ', (Instr.storeAt t pv xv).run C.P w = .ok () w' ∧ Rel w0 N E σ' a w' ∧ K σ' := by
  obtain ⟨x', σ', hk, h', hx', hsl⟩ := h.frz hx hk
  obtain ⟨cs, hcs, hk⟩ := onO_some hk
  obtain ⟨i, hi, hk⟩ := onO_some hk
  obtain ⟨hlen, hk⟩ := hk
  have hRL := hx'.cells hcs
  have hsz := T_size hC hi w
  have hn : xv.cells.size = i.size := by rw [← hlen, ← hRL.len]; simp
  have hone := hRL.oneCell
  have hrun : ∀ (g off : Nat) (cur : Array Value) (e : TypeId), w.heap[g]? = some (.cells cur e (0, 0)) → off + cs.length ≤ cur.size →
      (storeVar t ⟨g, off, none⟩ xv).run C.P w = .ok () (w.setRow g (cur.toList.take off ++ xv.cells.toList ++ cur.toList.drop (off + xv.cells.toList.length)).toArray) := by
    intro g off cur e hg hfit
    have := run_storeCells_at C.P g off e xv.cells.toList 0 cur w hg (by rw [hRL.len]; simpa using hfit) hone
    simp only [Nat.add_zero] at this
    simp [storeVar, hsz, hn, this]
  cases hp with
  | @ptr d off h1 =>
    obtain ⟨bx, hb, hfit, hk⟩ := onO_some hk
    obtain ⟨_, hB, arr, h3, h4⟩ := h'.boxes d bx hb
    have hl : arr.size = bx.cells.length := by have := h4.len; simpa using this
    refine ⟨_, _, by simp only [Instr.storeAt, Instr.sureAddr, Sem.run_bind, Sem.run_pure, Result.andThen_ok]; exact hrun _ _ _ _ h3 (by rw [hl]; exact hfit), ?_, hk⟩
    refine h'.setBox hb ?_ (by simp [World.setRow]) (fun b hne => setRow_other _ _ _ _ hne) (setRow_heap _ _ _ _ _ _ h3) ?_
    · exact h'.below.trans ⟨rfl, rfl, rfl, by simp [World.setRow], fun k hk => setRow_other _ _ _ _ (by omega)⟩
    · exact h4.upd hRL hfit
  | @addr d off g m k h1 hA =>
    dsimp only at hk
    cases hd : look d σ'.rows with
    | none => rw [hd] at hk; exact hk.elim
    | some o =>
      cases o with
      | none => rw [hd] at hk; exact hk.elim
      | some r =>
        rw [hd] at hk
        obtain ⟨hfit, hk⟩ := hk
        obtain ⟨_, xs, h2, h3⟩ := h'.rows d r hd
        have hl := h3.len
        rcases h2.2 with ⟨e1, _⟩ | ⟨g', cap, cur, e1, e2, e3, e4, e5, e6, e7⟩
        · rw [hA] at e1; cases e1
        · rw [hA] at e1
          injection e1 with q1 q2 q3
          injection q1 with q1
          injection q1 with q1
          subst q1 q2 q3
          have hcl : xs.length ≤ cur.size := by rw [← e7]; simp; omega
          refine ⟨_, _, by simp only [Instr.storeAt, Instr.sureAddr, Sem.run_bind, Sem.run_pure, Result.andThen_ok]; exact hrun _ _ _ _ e3 (by omega), ?_, hk⟩
          refine h'.setRow hd ?_ (by simp [World.setRow]) (fun b hne => setRow_other _ _ _ _ (fun e => hne (by rw [hA, e]; rfl))) ?_ (h3.upd hRL hfit)
          · exact h'.below.trans ⟨rfl, rfl, rfl, by simp [World.setRow], fun k hk => setRow_other _ _ _ _ (by omega)⟩
          · have hvl := hRL.len
            refine ⟨?_, .inr ⟨g, k, _, hA, e2, setRow_heap _ _ _ _ _ _ e3, e4, e5, ?_, ?_⟩⟩
            · have := h2.1
              simp only [List.length_append, List.length_take, List.length_drop]
              omega
            · simp only [List.size_toArray, List.length_append, List.length_take, List.length_drop, Array.length_toList]
              omega
            · have hn2 := h2.1
              have ec : cur.toList = xs ++ cur.toList.drop (r.n * r.sz) := by rw [← e7, List.take_append_drop]
              have hx1 : cur.toList.take off = xs.take off := by
                rw [ec, List.take_append_of_le_length (by omega)]
              have hx2 : cur.toList.drop (off + xv.cells.toList.length) = xs.drop (off + xv.cells.toList.length) ++ cur.toList.drop (r.n * r.sz) := by
                conv => lhs; rw [ec]
                rw [List.drop_append_of_le_length (by omega)]
              simp only [hx1, hx2, ← List.append_assoc]
              rw [List.take_append_of_le_length (by simp only [List.length_append, List.length_take, List.length_drop]; omega), List.take_of_length_le (by simp only [List.length_append, List.length_take, List.length_drop]; omega)]
  | _ => exact hk.elim
end Go.Rk

set_option linter.unusedVariables false
namespace Go.Rk
open Go.RowKit
variable {C : Ctx} {w0 w w' : World} {N : Nat} {E : Env} {σ : St} {a : Act} {Wr : Nat → Prop} {cells cells' : List AV} {xs ys : List Value}
theorem rep_ptr_new {n b : Nat} {Wr : Nat → Prop} : Rep (E.addB n b) Wr w (.ptr n 0) (.pointer (some ⟨b, 0, none⟩)) := by
  have h : (E.addB n b).blk n = b := if_pos rfl
  have := Rep.ptr (E := E.addB n b) (Wr := Wr) (w := w) (d := n) (off := 0) (Or.inr rfl)
  rw [h] at this
  exact this
theorem rep_own_new {n : Nat} {v : Value} {Wr : Nat → Prop} (h1 : v.oneCell' = true) : Rep (E.addH n v) Wr w (.own n) v := by
  have h : (E.addH n v).hv n = v := if_pos rfl
  have := Rep.own (E := E.addH n v) (Wr := Wr) (w := w) (d := n) (Or.inr rfl) (by rw [h]; exact h1)
  rw [h] at this
  exact this
/-- A new variable: the operation's part. -/
theorem Rel.box (h : Rel w0 N E σ a w) {o : Oper} (hd : ∀ d, o.dst = some d → d < N) {K : St → Prop} {e : TypeId} {v : Value} {cs : List AV} (hc : RepL E (σ.wr E) w cs v.cells.toList)
    (hk : K ((σ.newBox ⟨e, cs⟩).put o.dst (.ptr (2 * σ.nb) 0))) : Nxt w0 N E K (a.put o.dst (.pointer (some ⟨w.heap.size, 0, none⟩))) (w.alloc (.cells v.cells e)) :=
  ⟨_, _, hk, (h.newBox (ty := e) (arr := v.cells) hc).put hd rep_ptr_new, rfl, rfl, rfl⟩
theorem run_newVar (e : TypeId) (v : Value) : (newVar e v).run C.P w = .ok ⟨w.heap.size, 0, none⟩ (w.alloc (.cells v.cells e)) := by
  simp only [newVar, newRow, Sem.run_bind, run_newObj, Result.andThen_ok, Sem.run_pure]
  rfl
theorem run_newRow (e : TypeId) (cs : Array Value) : (newRow e cs).run C.P w = .ok ⟨w.heap.size, 0, none⟩ (w.alloc (.cells cs e)) := by
  simp only [newRow, Sem.run_bind, run_newObj, Result.andThen_ok, Sem.run_pure]
  rfl
/-- The row that a literal or make has laid. -/
theorem Rel.made (h : Rel w0 N E σ a w) {o : Oper} (hd : ∀ d, o.dst = some d → d < N) {K : St → Prop} {e sz n : Nat} {arr : Array Value} {cs : List AV} (hn : n ≤ maxLen) (hl : arr.size = n * sz) (hc : RepL E (σ.wr E) w cs arr.toList)
    (hk : K ((σ.newRow ⟨e, sz, n, cs⟩).put o.dst (.own (2 * σ.nr + 1)))) : Nxt w0 N E K (a.put o.dst (.slice (some ⟨w.heap.size, 0, none⟩) n n)) (w.alloc (.cells arr e)) := by
  have hB : E.B ≤ w.heap.size := Nat.le_trans (Nat.le_of_eq h.base) h.below.size
  refine ⟨_, _, hk, (h.newRow (r := ⟨e, sz, n, cs⟩) (v := .slice (some ⟨w.heap.size, 0, none⟩) n n) (xs := arr.toList) (h.below.alloc hB _) (by simp) (fun b hb => Below.heap_alloc w _ b hb) ?_ ?_ hc).put hd (rep_own_new rfl), rfl, rfl, rfl⟩
  · refine ⟨by simpa using hl, .inr ⟨w.heap.size, n, arr, rfl, hB, heap_alloc_new w _, Nat.le_refl _, hn, hl, ?_⟩⟩
    rw [List.take_of_length_le (by simp [hl])]
  · intro g hg
    simp only [Value.ownBlock, Option.some.injEq] at hg
    omega
theorem Rel.frzL : ∀ (l : List (Nat × Operand)) (σ1 : St), Rel w0 N E σ1 a w → ∀ {K : List (Nat × AV) → St → Prop}, Go.Rk.frzL σ1 l K →
    ∃ ps σ', K ps σ' ∧ Rel w0 N E σ' a w ∧ ps.length = l.length ∧ (∀ b, σ'.wr E b → σ1.wr E b) ∧ ∀ j (hj : j < ps.length) (hj' : j < l.length), (ps[j]).1 = (l[j]).1 ∧ Rep E (σ'.wr E) w (ps[j]).2 (a.eval (l[j]).2)
  | [], σ1, h1, K, hk => ⟨[], σ1, hk, h1, rfl, fun _ hb => hb, fun j hj => by cases hj⟩
  | p :: l, σ1, h1, K, hk => by
    obtain ⟨av, hav, hk⟩ := onO_some hk
    obtain ⟨av', σ2, hk, h2, hr, hw⟩ := h1.frz (h1.ev hav) hk
    obtain ⟨ps, σ', hk, h3, hl, hw', hps⟩ := Rel.frzL l σ2 h2 hk
    refine ⟨_, σ', hk, h3, by simp [hl], fun b hb => hw b (hw' b hb), fun j hj hj' => ?_⟩
    cases j with
    | zero => exact ⟨rfl, hr.shrink hw'⟩
    | succ j => exact hps j (by simpa using hj) (by simpa using hj')
theorem fold_cells (o : Nat) : ∀ (us : List Value) (k : Nat) (cs : Array Value), o + k + us.length ≤ cs.size →
    ((us.zipIdx k).foldl (fun cs (c : Value × Nat) => cs.setIfInBounds (o + c.2) c.1) cs).toList = cs.toList.take (o + k) ++ us ++ cs.toList.drop (o + k + us.length) := by
  intro us
  induction us with
  | nil => intro k cs hk; simp
  | cons u us ih =>
    intro k cs hk
    simp only [List.length_cons] at hk
    rw [List.zipIdx_cons, List.foldl_cons, ih (k + 1) _ (by simp; omega)]
    have hlt : o + k < cs.toList.length := by simp; omega
    rw [Array.toList_setIfInBounds, List.set_eq_take_append_cons_drop, if_pos hlt]
    have hl2 : (cs.toList.take (o + k)).length = o + k := by rw [List.length_take]; omega
    have e1 : (cs.toList.take (o + k) ++ u :: cs.toList.drop (o + k + 1)).take (o + (k + 1)) = cs.toList.take (o + k) ++ [u] := by
      rw [List.take_append, List.take_of_length_le (by omega), hl2, show o + (k + 1) - (o + k) = 1 by omega]
      rfl
    have e2 : (cs.toList.take (o + k) ++ u :: cs.toList.drop (o + k + 1)).drop (o + (k + 1) + us.length) = cs.toList.drop (o + k + (u :: us).length) := by
      rw [List.drop_append, hl2, List.drop_eq_nil_of_le (by omega), List.nil_append]
      rw [show o + (k + 1) + us.length - (o + k) = us.length + 1 by omega, List.drop_succ_cons, List.drop_drop]
      congr 1
      simp; omega
    rw [e1, e2]
    simp
/-- The parts of a struct that is built. -/
theorem fill_ok (hC : C.Ok) {fs : List (Nat × TypeId)} {place : Nat → Option (Nat × Nat)} (hp : ∀ j f i, fs[j]? = some f → C.T f.2 = some i → place j = some (f.1, i.size)) :
    ∀ (ps : List (Nat × AV)) (vs : List (Nat × Value)) {cells : List AV} {arr : Array Value} {K : List AV → Prop}, ps.length = vs.length →
      (∀ j (hj : j < ps.length) (hj' : j < vs.length), (ps[j]).1 = (vs[j]).1 ∧ Rep E Wr w (ps[j]).2 (vs[j]).2) → RepL E Wr w cells arr.toList → fillW C fs cells ps K →
      ∃ cells' arr', Instr.fill place arr vs = some arr' ∧ RepL E Wr w cells' arr'.toList ∧ K cells'
  | [], [], cells, arr, K, _, _, hr, hk => ⟨cells, arr, rfl, hr, hk⟩
  | [], v :: vs, _, _, _, hl, _, _, _ => by simp at hl
  | p :: ps, [], _, _, _, hl, _, _, _ => by simp at hl
  | p :: ps, v :: vs, cells, arr, K, hl, hps, hr, hk => by
    obtain ⟨f, hf, hk⟩ := onO_some hk
    obtain ⟨i, hi, hk⟩ := onO_some hk
    obtain ⟨xs, hx, hk⟩ := onO_some hk
    obtain ⟨h1, h2, hk⟩ := hk
    obtain ⟨e1, e2⟩ := hps 0 (by simp) (by simp)
    simp only [List.getElem_cons_zero] at e1 e2
    have hRL := e2.cells hx
    have hla : arr.size = cells.length := by have := hr.len; simpa using this
    have hlx : v.2.cells.size = xs.length := by have := hRL.len; simpa using this
    have hfold := fold_cells f.1
    have hupd := hr.upd hRL (off := f.1) h2
    obtain ⟨cells', arr', h3, h4, h5⟩ := fill_ok hC hp ps vs (arr := (v.2.cells.zipIdx.foldl (fun cs (c : Value × Nat) => cs.setIfInBounds (f.1 + c.2) c.1) arr)) (by simpa using hl)
      (fun j hj hj' => hps (j + 1) (by simpa using hj) (by simpa using hj')) (by
        have := hfold v.2.cells.toList 0 arr (by simp; omega)
        rw [Nat.add_zero] at this
        rw [← Array.foldl_toList, Array.toList_zipIdx, this]
        exact hupd) hk
    refine ⟨cells', arr', ?_, h4, h5⟩
    have hpl := hp p.1 f i hf hi
    rw [e1] at hpl
    unfold Instr.fill
    rw [hpl]
    dsimp only
    rw [if_neg (by simp; omega)]
    exact h3
theorem RepL.nil : RepL E Wr w [] [] := ⟨rfl, fun j hj => (Nat.not_lt_zero _ hj).elim, fun j hj => (Nat.not_lt_zero _ hj).elim⟩
theorem take_two {α : Type} {A V D : List α} {x s : Nat} (hA : A.length = x) (hV : V.length = s) : (A ++ V ++ D).take (x + s) = A ++ V := by
  rw [List.take_append_of_le_length (by simp; omega), List.take_of_length_le (by simp; omega)]
/-- The elements of a literal. -/
theorem lit_ok {size : Nat} : ∀ (ps : List (Nat × AV)) (vs : List (Nat × Value)) (j : Nat) {arr : Array Value} {K : List AV → Prop}, ps.length = vs.length →
    (∀ j (hj : j < ps.length) (hj' : j < vs.length), (ps[j]).1 = (vs[j]).1 ∧ Rep E Wr w (ps[j]).2 (vs[j]).2) → arr.size = (j + vs.length) * size → litW size j ps K →
    ∃ cs arr' ys, Instr.fill (fun i => some (i * size, size)) arr vs = some arr' ∧ arr'.size = arr.size ∧ arr'.toList = arr.toList.take (j * size) ++ ys ∧ RepL E Wr w cs ys ∧ K cs
  | [], [], j, arr, K, _, _, hs, hk => ⟨[], arr, [], rfl, rfl, by simp at hs; rw [List.append_nil, List.take_of_length_le (by simp [hs])], RepL.nil, hk⟩
  | [], v :: vs, _, _, _, hl, _, _, _ => by simp at hl
  | p :: ps, [], _, _, _, hl, _, _, _ => by simp at hl
  | p :: ps, v :: vs, j, arr, K, hl, hps, hs, hk => by
    obtain ⟨hj, hk⟩ := hk
    obtain ⟨xs, hx, hk⟩ := onO_some hk
    obtain ⟨h1, hk⟩ := hk
    obtain ⟨e1, e2⟩ := hps 0 (by simp) (by simp)
    simp only [List.getElem_cons_zero] at e1 e2
    have hRL := e2.cells hx
    have hlx : v.2.cells.size = xs.length := by have := hRL.len; simpa using this
    simp only [List.length_cons] at hs
    have hsz : (j + (vs.length + 1)) * size = j * size + size + vs.length * size := by rw [Nat.add_mul, Nat.add_mul]; omega
    have hfit : j * size + 0 + v.2.cells.toList.length ≤ arr.size := by simp; omega
    have hfold := fold_cells (j * size) v.2.cells.toList 0 arr hfit
    have hsz2 : (v.2.cells.zipIdx.foldl (fun cs (c : Value × Nat) => cs.setIfInBounds (j * size + c.2) c.1) arr).size = arr.size := by
      rw [← Array.foldl_toList, Array.toList_zipIdx, ← Array.length_toList, hfold]
      simp; omega
    obtain ⟨cs, arr', ys, h3, h4, h5, h6, h7⟩ := lit_ok ps vs (j + 1) (arr := (v.2.cells.zipIdx.foldl (fun cs (c : Value × Nat) => cs.setIfInBounds (j * size + c.2) c.1) arr)) (by simpa using hl)
      (fun j hj hj' => hps (j + 1) (by simpa using hj) (by simpa using hj')) (by rw [hsz2, hs]; congr 1; omega) hk
    refine ⟨xs ++ cs, arr', v.2.cells.toList ++ ys, ?_, by rw [h4, hsz2], ?_, hRL.append h6, h7⟩
    · unfold Instr.fill
      rw [← e1, hj]
      dsimp only
      rw [if_neg (by simp; omega)]
      exact h3
    · rw [h5, ← Array.foldl_toList, Array.toList_zipIdx, hfold]
      have hl2 : (arr.toList.take (j * size + 0)).length = j * size := by rw [List.length_take]; simp; omega
      have hl3 : (j + 1) * size = j * size + size := by rw [Nat.add_mul]; omega
      rw [hl3, take_two hl2 (by simp; omega), Nat.add_zero, List.append_assoc]
end Go.Rk

namespace Go.Rk
open Go.RowKit
variable {C : Ctx} {w0 w w' : World} {N : Nat} {E : Env} {σ : St} {a : Act} {Wr : Nat → Prop} {cells cells' : List AV} {xs ys : List Value}
theorem onI_some {av : AV} {K : IntKind → Int → Prop} (h : onI av K) : ∃ k n, av = .val (.int k n) ∧ K k n := by
  cases av with
  | val v => cases v <;> first | exact h.elim | exact ⟨_, _, rfl, h⟩
  | _ => exact h.elim
theorem Rep.val_eq {E : Env} {u v : Value} (h : Rep E Wr w (.val u) v) : v = u := by cases h; rfl
/-- What a value reads as, where a row is read. -/
theorem Rel.row (h : Rel w0 N E σ a w) {av : AV} {v : Value} {K : Nat → List AV → Prop} (hr : Rep E (σ.wr E) w av v) (hk : rowW σ av K) :
    ∃ n cells A c, K n cells ∧ v = .slice A n c ∧ n ≤ c ∧ c ≤ maxLen ∧ (∀ j (hj : j < cells.length), (cells[j]).one = true) ∧ (cells ≠ [] → ∃ b o, A = some ⟨b, o, none⟩ ∧ Win E (σ.wr E) w cells b o) := by
  cases hr with
  | val v =>
    cases v with
    | slice A n c =>
      cases A with
      | none =>
        cases n with
        | zero =>
          cases c with
          | zero => exact ⟨0, [], none, 0, hk, rfl, Nat.le_refl _, Nat.zero_le _, fun j hj => (Nat.not_lt_zero _ hj).elim, fun h => absurd rfl h⟩
          | succ c => exact hk.elim
        | succ n => exact hk.elim
      | some ad => exact hk.elim
    | _ => exact hk.elim
  | @row fr n cells c A b o f hn hm hA hc h1 hr => exact ⟨n, cells, A, c, hk, rfl, hn, hm, h1, fun hne => ⟨b, o, (hA hne).1, ⟨fun j hj => ⟨f j, hc j hj, hr j hj⟩, h1⟩⟩⟩
  | @own d h1 h2 =>
    simp only [rowW] at hk
    cases hd : look d σ.rows with
    | none => rw [hd] at hk; exact hk.elim
    | some o =>
      cases o with
      | none => rw [hd] at hk; exact hk.elim
      | some r =>
        rw [hd] at hk
        obtain ⟨_, xs, h3, h4⟩ := h.rows d r hd
        obtain ⟨A, c, hv, hn, hm⟩ := ownsRow_shape h3
        refine ⟨r.n, r.cells, A, c, hk, hv, hn, hm, h4.one, fun hne => ?_⟩
        obtain ⟨g, cap, cur, e1, _⟩ := ownsRow_block h3 (fun e => hne (List.eq_nil_of_length_eq_zero (by rw [← h4.len, e]; rfl)))
        rw [hv] at e1
        injection e1 with e1 _ e3
        subst e1
        exact ⟨g, 0, rfl, h.rowWin hd hv⟩
  | @sub d off n c A h1 hn hm hA =>
    simp only [rowW] at hk
    cases hd : look d σ.rows with
    | none => rw [hd] at hk; exact hk.elim
    | some o =>
      cases o with
      | none => rw [hd] at hk; exact hk.elim
      | some r =>
        rw [hd] at hk
        obtain ⟨hl, hk⟩ := hk
        have hlen : ((r.cells.drop off).take (n * r.sz)).length = n * r.sz := by simp; omega
        obtain ⟨_, xs, h3, h4⟩ := h.rows d r hd
        refine ⟨n, _, A, c, hk, rfl, hn, hm, fun j hj => by rw [List.getElem_take, List.getElem_drop]; exact h4.one _ _, fun hne => ?_⟩
        have hn0 : 0 < n := by
          rcases Nat.eq_zero_or_pos n with e | e
          · exact absurd (List.eq_nil_of_length_eq_zero (by rw [hlen, e, Nat.zero_mul])) hne
          · exact e
        obtain ⟨g, m, k, hv, rfl⟩ := hA hn0
        have hw := h.rowWin hd hv
        refine ⟨g, off, rfl, ⟨fun j hj => ?_, fun j hj => by rw [List.getElem_take, List.getElem_drop]; exact h4.one _ _⟩⟩
        rw [hlen] at hj
        obtain ⟨u, hu, hr⟩ := hw.cell (off + j) (by omega)
        refine ⟨u, by rw [Nat.zero_add] at hu; exact hu, ?_⟩
        rw [List.getElem_take, List.getElem_drop]
        exact hr
  | _ => exact hk.elim
theorem run_sliceBound_ok (k : IntKind) (i : Int) (y : Nat) (code : BoundsCode) (h0 : 0 ≤ i) (h1 : i.toNat ≤ y) : (Instr.sliceBound (.int k i) y code).run C.P w = .ok i.toNat w := by
  have h : 0 ≤ i ∧ i ≤ y := ⟨h0, by omega⟩
  simp [Instr.sliceBound, asIntOf, h]
theorem Rel.bnd (h : Rel w0 N E σ a w) {x : Option Operand} {d : Nat} {K : Nat → Prop} (hk : bndW σ x d K) :
    (x = none ∧ K d) ∨ ∃ o k i, x = some o ∧ a.eval o = .int k i ∧ 0 ≤ i ∧ K i.toNat := by
  cases x with
  | none => exact .inl ⟨rfl, hk⟩
  | some o =>
    obtain ⟨av, hav, hk⟩ := onO_some hk
    obtain ⟨k, n, rfl, h0, hk⟩ := onI_some hk
    exact .inr ⟨o, k, n, rfl, (h.ev hav).val_eq, h0, hk⟩
/-- The three bounds of a slice expression. -/
theorem bounds_run {lo hi mx : Option Operand} {n c l hh m : Nat} (hlo : (lo = none ∧ l = 0) ∨ ∃ o k i, lo = some o ∧ a.eval o = .int k i ∧ 0 ≤ i ∧ l = i.toNat)
    (hhi : (hi = none ∧ hh = n) ∨ ∃ o k i, hi = some o ∧ a.eval o = .int k i ∧ 0 ≤ i ∧ hh = i.toNat) (hmx : (mx = none ∧ m = n) ∨ ∃ o k i, mx = some o ∧ a.eval o = .int k i ∧ 0 ≤ i ∧ m = i.toNat)
    (hs : mx.isSome = true → hi.isSome = true) (h1 : l ≤ hh) (h2 : hh ≤ m) (h3 : m ≤ n) (hn : n ≤ c) :
    ∃ M, (Instr.sliceBounds true n c (lo.map a.eval) (hi.map a.eval) (mx.map a.eval)).run C.P w = .ok (l, hh, M) w ∧ hh ≤ M ∧ M ≤ c := by
  rcases hmx with ⟨rfl, rfl⟩ | ⟨om, km, im, rfl, em, hm0, rfl⟩
  · refine ⟨c, ?_, by omega, Nat.le_refl _⟩
    rcases hhi with ⟨rfl, rfl⟩ | ⟨oh, kh, ih, rfl, eh, hh0, rfl⟩
    · rcases hlo with ⟨rfl, rfl⟩ | ⟨ol, kl, il, rfl, el, hl0, rfl⟩
      · simp [Instr.sliceBounds]
      · simp [Instr.sliceBounds, el, run_sliceBound_ok kl il _ _ hl0 h1]
    · rcases hlo with ⟨rfl, rfl⟩ | ⟨ol, kl, il, rfl, el, hl0, rfl⟩
      · simp [Instr.sliceBounds, eh, run_sliceBound_ok kh ih c _ hh0 (by omega)]
      · simp [Instr.sliceBounds, eh, el, run_sliceBound_ok kh ih c _ hh0 (by omega), run_sliceBound_ok kl il _ _ hl0 h1]
  · refine ⟨im.toNat, ?_, h2, by omega⟩
    rcases hhi with ⟨rfl, rfl⟩ | ⟨oh, kh, ih, rfl, eh, hh0, rfl⟩
    · simp at hs
    · rcases hlo with ⟨rfl, rfl⟩ | ⟨ol, kl, il, rfl, el, hl0, rfl⟩
      · simp [Instr.sliceBounds, em, eh, run_sliceBound_ok km im c _ hm0 (by omega), run_sliceBound_ok kh ih _ _ hh0 h2]
      · simp [Instr.sliceBounds, em, eh, el, run_sliceBound_ok km im c _ hm0 (by omega), run_sliceBound_ok kh ih _ _ hh0 h2, run_sliceBound_ok kl il _ _ hl0 h1]
end Go.Rk

namespace Go.Rk
open Go.RowKit
variable {C : Ctx} {w0 w w' : World} {N : Nat} {E : Env} {σ : St} {a : Act} {Wr : Nat → Prop} {cells cells' : List AV} {xs ys : List Value}
theorem T_kind (hC : C.Ok) {t : TypeId} {i : TI} (h : C.T t = some i) {k : TK} (hk : i.k = k) : k.fits C.P t := hk ▸ (hC.T t i h).under
theorem run_cut (hC : C.Ok) {t e : TypeId} {ti ei : TI} (ht : C.T t = some ti) (hk : ti.k = .slice e) (he : C.T e = some ei) {A : Option Addr} {n c l hh M : Nat} {lo hi mx : Option Value}
    (hb : (Instr.sliceBounds true n c lo hi mx).run C.P w = .ok (l, hh, M) w) :
    (Instr.sliceAt t (.slice A n c) lo hi mx).run C.P w = .ok (.slice (if M = l then A else A.map (·.add (l * ei.size))) (hh - l) (M - l)) w := by
  have hu : C.P.underlying t = some (.slice e) := T_kind hC ht hk
  simp [Instr.sliceAt, Instr.slice, run_underlying hu, hb, T_size hC he w]
theorem Rel.cut (hC : C.Ok) (h : Rel w0 N E σ a w) {t : TypeId} {x : AV} {xv : Value} {lo hi mx : Option Operand} {K : AV → Prop} (hr : Rep E (σ.wr E) w x xv) (hk : cutW C σ t x lo hi mx K) :
    ∃ av v, (Instr.sliceAt t xv (lo.map a.eval) (hi.map a.eval) (mx.map a.eval)).run C.P w = .ok v w ∧ Rep E (σ.wr E) w av v ∧ K av := by
  obtain ⟨ti, ht, hk⟩ := onO_some hk
  cases htk : ti.k with
  | slice e =>
    rw [htk] at hk
    obtain ⟨ei, he, hk⟩ := onO_some hk
    have fixh : ∀ {n : Nat} {K : Nat → Prop} {y : Option Operand}, bndW σ y n K → ∃ m, ((y = none ∧ m = n) ∨ ∃ o k i, y = some o ∧ a.eval o = .int k i ∧ 0 ≤ i ∧ m = i.toNat) ∧ K m := by
      intro n K y hy
      rcases h.bnd hy with ⟨h1, h2⟩ | ⟨o, k, i, h1, h2, h3, h4⟩
      · exact ⟨n, .inl ⟨h1, rfl⟩, h2⟩
      · exact ⟨_, .inr ⟨o, k, i, h1, h2, h3, rfl⟩, h4⟩
    have none_ : ∀ n : Nat, ((none : Option Operand) = none ∧ n = n) ∨ ∃ o k i, (none : Option Operand) = some o ∧ a.eval o = .int k i ∧ 0 ≤ i ∧ n = i.toNat := fun n => .inl ⟨rfl, rfl⟩
    cases hr with
    | val =>
      cases xv with
      | slice A n c =>
        cases A with
        | none =>
          cases n with
          | zero =>
            cases c with
            | zero =>
              obtain ⟨hh, e1, hk⟩ := fixh hk
              obtain ⟨m, e2, hk⟩ := fixh hk
              obtain ⟨l, e3, hs, h1, h2, h3, hk⟩ := fixh hk
              obtain ⟨M, hb, h4, h5⟩ := bounds_run (C := C) (w := w) (c := 0) e3 e1 e2 hs h1 h2 h3 (Nat.le_refl _)
              refine ⟨_, _, run_cut hC ht htk he hb, ?_, hk⟩
              obtain rfl : l = 0 := by omega
              obtain rfl : hh = 0 := by omega
              obtain rfl : M = 0 := by omega
              exact .val _
            | succ c => exact hk.elim
          | succ n => exact hk.elim
        | some ad => exact hk.elim
      | _ => exact hk.elim
    | @row fr n cells c A b o f hn hm hA hc h1 hr =>
      obtain ⟨hh, e1, hk⟩ := fixh hk
      obtain ⟨m, e2, hk⟩ := fixh hk
      obtain ⟨l, e3, hs, h2, h3, h4, hk⟩ := fixh hk
      obtain ⟨M, hb, h5, h6⟩ := bounds_run (C := C) (w := w) e3 e1 e2 hs h2 h3 h4 hn
      refine ⟨_, _, run_cut hC ht htk he hb, ?_, hk⟩
      have hlen : ((cells.drop (l * ei.size)).take ((hh - l) * ei.size)).length ≤ cells.length - l * ei.size := by simp; omega
      refine .row b (o + l * ei.size) (fun j => f (l * ei.size + j)) (by omega) (by omega) (fun hne => ?_) (fun j hj => ?_) (fun j hj => ?_) (fun j hj => ?_)
      · have hcn : cells ≠ [] := fun e => hne (by rw [e]; simp)
        have hlt : l < hh := by
          rcases Nat.lt_or_ge l hh with g | g
          · exact g
          · exact absurd (by rw [show hh - l = 0 by omega]; simp) hne
        rw [if_neg (by omega), (hA hcn).1]
        exact ⟨by rw [Option.map_some, Addr.add_lit], (hA hcn).2⟩
      · rw [Nat.add_assoc]; exact hc _ (by omega)
      · rw [List.getElem_take, List.getElem_drop]; exact h1 _ _
      · rw [List.getElem_take, List.getElem_drop]; exact hr _ _
    | @own d h1 h2 =>
      simp only [] at hk
      cases hd : look d σ.rows with
      | none => rw [hd] at hk; exact hk.elim
      | some oo =>
        cases oo with
        | none => rw [hd] at hk; exact hk.elim
        | some r =>
          rw [hd] at hk
          obtain ⟨_, xs, h3, h4⟩ := h.rows d r hd
          obtain ⟨A, c, hv, hn, hm⟩ := ownsRow_shape h3
          obtain ⟨hh, e1, hk⟩ := fixh hk
          obtain ⟨l, e3, rfl, h5, h6, h7, hk⟩ := fixh hk
          obtain ⟨M, hb, h8, h9⟩ := bounds_run (C := C) (w := w) e3 e1 (none_ r.n) (fun hq => by cases hq) h5 h6 (Nat.le_refl _) hn
          refine ⟨_, _, by rw [hv]; exact run_cut hC ht htk he hb, ?_, hk⟩
          refine .sub h1 (by omega) (by omega) (fun hp => ?_)
          rcases h3.2 with ⟨e4, e5⟩ | ⟨g, cap, cur, e4, _⟩
          · omega
          · rw [hv] at e4
            injection e4 with q1 _ q3
            subst q1 q3
            refine ⟨g, _, _, hv, ?_⟩
            rw [if_neg (by omega), Option.map_some, Addr.add_lit, Nat.zero_add]
    | @sub d off n c A h1 hn hm hA =>
      simp only [] at hk
      cases hd : look d σ.rows with
      | none => rw [hd] at hk; exact hk.elim
      | some oo =>
        cases oo with
        | none => rw [hd] at hk; exact hk.elim
        | some r =>
          rw [hd] at hk
          obtain ⟨hh, e1, hk⟩ := fixh hk
          obtain ⟨l, e3, rfl, h5, h6, h7, hk⟩ := fixh hk
          obtain ⟨M, hb, h8, h9⟩ := bounds_run (C := C) (w := w) e3 e1 (none_ n) (fun hq => by cases hq) h5 h6 (Nat.le_refl _) hn
          refine ⟨_, _, run_cut hC ht htk he hb, ?_, hk⟩
          refine .sub h1 (by omega) (by omega) (fun hp => ?_)
          obtain ⟨g, m, k, e4, rfl⟩ := hA (by omega)
          refine ⟨g, m, k, e4, ?_⟩
          rw [if_neg (by omega), Option.map_some, Addr.add_lit]
    | _ => exact hk.elim
  | _ => rw [htk] at hk; exact hk.elim
theorem run_index (hC : C.Ok) {t e : TypeId} {ti ei : TI} (ht : C.T t = some ti) (hk : ti.k = .slice e) (he : C.T e = some ei) {A : Addr} {n c : Nat} {k : IntKind} {i : Int} (h0 : 0 ≤ i) (h1 : i < n) :
    (Instr.indexAt t (.slice (some A) n c) (.int k i)).run C.P w = .ok (.pointer (some (A.add (i.toNat * ei.size)))) w := by
  have hu : C.P.underlying t = some (.slice e) := T_kind hC ht hk
  simp [Instr.indexAt, asIntOf, run_underlying hu, h0, h1, T_size hC he w]
theorem run_indexArr (hC : C.Ok) {t e : TypeId} {ti ei : TI} {n : Nat} (ht : C.T t = some ti) (hk : ti.k = .arr n e) (he : C.T e = some ei) {A : Addr} {k : IntKind} {i : Int} (h0 : 0 ≤ i) (h1 : i < n) :
    (Instr.indexAt t (.pointer (some A)) (.int k i)).run C.P w = .ok (.pointer (some (A.add (i.toNat * ei.size)))) w := by
  have hu : C.P.underlying t = some (.array n e) := T_kind hC ht hk
  simp [Instr.indexAt, asIntOf, run_underlying hu, h0, h1, T_size hC he w, Instr.sureAddr]
theorem Rel.index (hC : C.Ok) (h : Rel w0 N E σ a w) {t : TypeId} {x : AV} {xv : Value} {k : IntKind} {i : Int} {K : AV → Prop} (hr : Rep E (σ.wr E) w x xv) (hk : idxW C σ t x i K) :
    ∃ av v, (Instr.indexAt t xv (.int k i)).run C.P w = .ok v w ∧ Rep E (σ.wr E) w av v ∧ K av := by
  obtain ⟨ti, ht, hk⟩ := onO_some hk
  cases htk : ti.k with
  | slice e =>
    rw [htk] at hk
    obtain ⟨ei, he, hk⟩ := onO_some hk
    cases hr with
    | @row fr n cells c A b o f hn hm hA hc h1 hr =>
      obtain ⟨h2, h3, h4, hk⟩ := hk
      have hne : cells ≠ [] := List.ne_nil_of_length_pos (by omega)
      obtain ⟨rfl, hok⟩ := hA hne
      refine ⟨_, _, run_index hC ht htk he h2 h3, ?_, hk⟩
      rw [Addr.add_lit]
      exact .radd b o f hok hc h1 hr
    | @own d h1 h2 =>
      simp only [] at hk
      cases hd : look d σ.rows with
      | none => rw [hd] at hk; exact hk.elim
      | some oo =>
        cases oo with
        | none => rw [hd] at hk; exact hk.elim
        | some r =>
          rw [hd] at hk
          obtain ⟨h3, h4, h5, hk⟩ := hk
          obtain ⟨_, xs, h6, h7⟩ := h.rows d r hd
          rcases h6.2 with ⟨e1, e2⟩ | ⟨g, cap, cur, e1, _⟩
          · omega
          · refine ⟨_, _, by rw [e1]; exact run_index hC ht htk he h3 h4, ?_, hk⟩
            rw [Addr.add_lit, Nat.zero_add]
            exact .addr g _ _ h1 e1
    | @sub d off n c A h1 hn hm hA =>
      simp only [] at hk
      cases hd : look d σ.rows with
      | none => rw [hd] at hk; exact hk.elim
      | some oo =>
        cases oo with
        | none => rw [hd] at hk; exact hk.elim
        | some r =>
          rw [hd] at hk
          obtain ⟨h3, h4, h5, hk⟩ := hk
          obtain ⟨g, m, kk, e1, rfl⟩ := hA (by omega)
          refine ⟨_, _, run_index hC ht htk he h3 h4, ?_, hk⟩
          rw [Addr.add_lit]
          exact .addr g _ _ h1 e1
    | _ => exact hk.elim
  | arr n e =>
    rw [htk] at hk
    obtain ⟨ei, he, hk⟩ := onO_some hk
    cases hr with
    | @ptr d off h1 =>
      obtain ⟨h2, h3, hk⟩ := hk
      refine ⟨_, _, run_indexArr hC ht htk he h2 h3, ?_, hk⟩
      rw [Addr.add_lit]
      exact .ptr h1
    | @radd fr off cells b o f hA hc h1 hr =>
      obtain ⟨h2, h3, hk⟩ := hk
      refine ⟨_, _, run_indexArr hC ht htk he h2 h3, ?_, hk⟩
      rw [Addr.add_lit, Nat.add_assoc]
      exact .radd b o f hA hc h1 hr
    | _ => exact hk.elim
  | _ => rw [htk] at hk; exact hk.elim
theorem fld_some (hC : C.Ok) {t : TypeId} {j : Nat} {K : Nat → TI → Prop} (hk : fldW C t j K) : ∃ (fields : Array Field) (f : Field) (fi : TI), C.P.underlying t = some (.struct fields) ∧ fields[j]? = some f ∧ C.T f.type = some fi ∧ K f.offset fi := by
  obtain ⟨ti, ht, hk⟩ := onO_some hk
  cases htk : ti.k with
  | struct fs =>
    rw [htk] at hk
    obtain ⟨p, hp, hk⟩ := onO_some hk
    obtain ⟨fi, hf, hk⟩ := onO_some hk
    obtain ⟨fields, h1, h2, _⟩ := T_kind hC ht htk
    rw [← h2, List.getElem?_map] at hp
    cases hq : fields.toList[j]? with
    | none => rw [hq] at hp; cases hp
    | some f =>
      rw [hq] at hp
      injection hp with hp
      subst hp
      exact ⟨fields, f, fi, h1, by rw [← Array.getElem?_toList]; exact hq, hf, hk⟩
  | _ => rw [htk] at hk; exact hk.elim
theorem Rel.fieldAddr (hC : C.Ok) {t : TypeId} {x : AV} {xv : Value} {j : Nat} {K : AV → Prop} (hr : Rep E Wr w x xv) (hk : fadW C t x j K) :
    ∃ av v, (Instr.fieldAt t xv j).run C.P w = .ok v w ∧ Rep E Wr w av v ∧ K av := by
  obtain ⟨fields, f, fi, h1, h2, h3, h4, hk⟩ := fld_some hC hk
  have hrun : ∀ (b o : Nat), (Instr.fieldAt t (.pointer (some ⟨b, o, none⟩)) j).run C.P w = .ok (.pointer (some ⟨b, o + f.offset, none⟩)) w := by
    intro b o
    simp [Instr.fieldAt, run_underlying h1, h2, Instr.sureAddr, fieldPlace, T_size hC h3 w, h4, Addr.add_lit]
  cases hr with
  | @ptr d off h5 => exact ⟨_, _, hrun _ _, .ptr h5, hk⟩
  | @addr d off g m k h5 hA => exact ⟨_, _, hrun _ _, .addr g m k h5 hA, hk⟩
  | @radd fr off cells b o ff hA hc h5 hr => exact ⟨_, _, hrun _ _, by rw [Nat.add_assoc]; exact .radd b o ff hA hc h5 hr, hk⟩
  | _ => exact hk.elim
theorem Rel.part (hC : C.Ok) {t : TypeId} {x : AV} {xv : Value} {j : Nat} {K : AV → Prop} (hr : Rep E Wr w x xv) (hk : partW C t x j K) :
    ∃ av v, (Instr.field t xv j).run C.P w = .ok v w ∧ Rep E Wr w av v ∧ K av := by
  obtain ⟨fields, f, fi, h1, h2, h3, hk⟩ := fld_some hC hk
  cases hr with
  | @agg cells arr hs h5 hr =>
    have ha := T_isAgg hC h3 w
    dsimp only at hk
    cases hg : fi.k.isAgg with
    | true =>
      rw [hg] at hk ha
      obtain ⟨hl, hk⟩ := hk
      refine ⟨_, .agg (arr.extract f.offset (f.offset + fi.size)), ?_, .agg (by simp; omega) (fun j hj => ?_) (fun j hj hj' => ?_), hk⟩
      · simp [Instr.field, run_underlying h1, h2, Go.part, asAgg, ha, T_size hC h3 w]
      · rw [List.getElem_take, List.getElem_drop]; exact h5 _ _
      · rw [List.getElem_take, List.getElem_drop, Array.getElem_extract]
        exact hr _ _ _
    | false =>
      rw [hg] at hk ha
      obtain ⟨av, hav, hk⟩ := onO_some hk
      obtain ⟨hlt, rfl⟩ := List.getElem?_eq_some_iff.1 hav
      have hlt' : f.offset < arr.size := by omega
      refine ⟨_, arr[f.offset], ?_, hr _ hlt hlt', hk⟩
      simp [Instr.field, run_underlying h1, h2, Go.part, asAgg, ha, Array.getElem?_eq_getElem hlt']
  | _ => exact hk.elim
end Go.Rk

namespace Go.Rk
open Go.RowKit
variable {C : Ctx} {w0 w w' : World} {N : Nat} {E : Env} {σ : St} {a : Act} {Wr : Nat → Prop} {cells cells' : List AV} {xs ys : List Value}
theorem unt_l : ∀ l : List AV, AV.unt.unt.l l = l.map AV.unt
  | [] => rfl
  | a :: l => by rw [AV.unt.unt.l, unt_l l]; rfl
theorem closed_l : ∀ l : List AV, AV.closed.closed.l l = l.all AV.closed
  | [] => rfl
  | a :: l => by rw [AV.closed.closed.l, closed_l l]; rfl
theorem fresh_l : ∀ l : List AV, AV.fresh.fresh.l l = l.all AV.fresh
  | [] => rfl
  | a :: l => by rw [AV.fresh.fresh.l, fresh_l l]; rfl
theorem unt_one (av : AV) : av.unt.one = av.one := by cases av <;> rfl
theorem all_get {α : Type} {p : α → Bool} {l : List α} (h : l.all p = true) (j : Nat) (hj : j < l.length) : p l[j] = true := List.all_eq_true.1 h _ (List.getElem_mem hj)
/-- What a callee sees. -/
theorem Rep.unt {S' : Nat → Prop} (hS : ∀ fr b, E.okb Wr w fr b → S' b ∨ E.gb b) {av : AV} {v : Value} (h : Rep E Wr w av v) : av.closed = true → Rep (Env.out E.gb w.heap.size S') (fun _ => False) w av.unt v := by
  have hok : ∀ {fr b}, E.okb Wr w fr b → (Env.out E.gb w.heap.size S').okb (fun _ => False) w false b := fun hb => ⟨(fun h => nomatch h), (hS _ _ hb).elim Or.inl (fun h => Or.inr (Or.inr h)), hb.lt, fun h => h⟩
  induction h with
  | val v => intro _; exact .val v
  | @row fr n cells c A b o f hn hm hA hc h1 hr ih =>
    intro hcl
    simp only [AV.closed, closed_l] at hcl
    simp only [AV.unt, unt_l]
    refine .row b o f hn hm (fun hne => ?_) (fun j hj => hc j (by simpa using hj)) (fun j hj => by rw [List.getElem_map, unt_one]; exact h1 _ _) (fun j hj => by rw [List.getElem_map]; exact ih _ _ (all_get hcl _ _))
    have hne' : cells ≠ [] := fun e => hne (by rw [e]; rfl)
    exact ⟨(hA hne').1, hok (hA hne').2⟩
  | own h => intro hcl; cases hcl
  | sub h hn hm hA => intro hcl; cases hcl
  | ptr h => intro hcl; cases hcl
  | addr g m k h hA => intro hcl; cases hcl
  | @radd fr off cells b o f hA hc h1 hr ih =>
    intro hcl
    simp only [AV.closed, closed_l] at hcl
    simp only [AV.unt, unt_l]
    exact .radd b o f (hok hA) (fun j hj => hc j (by simpa using hj)) (fun j hj => by rw [List.getElem_map, unt_one]; exact h1 _ _) (fun j hj => by rw [List.getElem_map]; exact ih _ _ (all_get hcl _ _))
  | @agg cells arr hs h1 hr ih =>
    intro hcl
    simp only [AV.closed, closed_l] at hcl
    simp only [AV.unt, unt_l]
    exact .agg (by simpa using hs) (fun j hj => by rw [List.getElem_map, unt_one]; exact h1 _ _) (fun j hj hj' => by rw [List.getElem_map]; exact ih _ _ _ (all_get hcl _ _))
  | @tup cells arr hs hr ih =>
    intro hcl
    simp only [AV.closed, closed_l] at hcl
    simp only [AV.unt, unt_l]
    exact .tup (by simpa using hs) (fun j hj hj' => by rw [List.getElem_map]; exact ih _ _ _ (all_get hcl _ _))
  | @clo f cells arr hs hr ih =>
    intro hcl
    simp only [AV.closed, closed_l] at hcl
    simp only [AV.unt, unt_l]
    exact .clo (by simpa using hs) (fun j hj hj' => by rw [List.getElem_map]; exact ih _ _ _ (all_get hcl _ _))
/-- What a callee hands back. -/
theorem Rep.back {S' : Nat → Prop} {n : Nat} (hB : E.B ≤ n) (hW : ∀ b, Wr b → b < n) (hgw : ∀ b, E.gb b → ¬ Wr b) {r : AV} {v : Value} (h : Rep (Env.out E.gb n S') (fun _ => False) w r v) :
    (r.fresh = true ∨ ∀ b, S' b → (E.S b ∨ E.B ≤ b ∨ E.gb b) ∧ ¬ Wr b) → Rep E Wr w r v := by
  have hge : ∀ b, n ≤ b → (E.S b ∨ E.B ≤ b ∨ E.gb b) ∧ ¬ Wr b := fun b hb => ⟨Or.inr (Or.inl (by omega)), fun hw => by have := hW b hw; omega⟩
  induction h with
  | val v => intro _; exact .val v
  | @row fr n' cells c A b o f hn hm hA hc h1 hr ih =>
    intro hf
    refine .row b o f hn hm (fun hne => ?_) hc h1 (fun j hj => ih j hj ?_)
    · obtain ⟨h2, h3⟩ := hA hne
      have hq : (E.S b ∨ E.B ≤ b ∨ E.gb b) ∧ ¬ Wr b := by
        rcases hf with hf | hf
        · simp only [AV.fresh, Bool.and_eq_true, Bool.or_eq_true] at hf
          rcases hf.1 with e | e
          · exact hge b (h3.fr e)
          · exact absurd (by simpa using e) hne
        · rcases h3.s with e | e | e
          · exact hf b e
          · exact hge b e
          · exact ⟨Or.inr (Or.inr e), hgw b e⟩
      exact ⟨h2, fun e => by have := h3.fr e; simp only [Env.out] at this; omega, hq.1, h3.lt, hq.2⟩
    · rcases hf with hf | hf
      · simp only [AV.fresh, Bool.and_eq_true, fresh_l] at hf
        exact .inl (all_get hf.2 j hj)
      · exact .inr hf
  | own h => exact h.elim
  | sub h hn hm hA => exact h.elim
  | ptr h => exact h.elim
  | addr g m k h hA => exact h.elim
  | @radd fr off cells b o f hA hc h1 hr ih =>
    intro hf
    rcases hf with hf | hf
    · cases hf
    · have hq : (E.S b ∨ E.B ≤ b ∨ E.gb b) ∧ ¬ Wr b := by
        rcases hA.s with e | e | e
        · exact hf b e
        · exact hge b e
        · exact ⟨Or.inr (Or.inr e), hgw b e⟩
      exact .radd b o f ⟨fun e => by have := hA.fr e; simp only [Env.out] at this; omega, hq.1, hA.lt, hq.2⟩ hc h1 (fun j hj => ih j hj (.inr hf))
  | @agg cells arr hs h1 hr ih =>
    intro hf
    refine .agg hs h1 (fun j hj hj' => ih j hj hj' ?_)
    rcases hf with hf | hf
    · simp only [AV.fresh, fresh_l] at hf
      exact .inl (all_get hf j hj)
    · exact .inr hf
  | @tup cells arr hs hr ih =>
    intro hf
    refine .tup hs (fun j hj hj' => ih j hj hj' ?_)
    rcases hf with hf | hf
    · simp only [AV.fresh, fresh_l] at hf
      exact .inl (all_get hf j hj)
    · exact .inr hf
  | @clo f cells arr hs hr ih =>
    intro hf
    refine .clo hs (fun j hj hj' => ih j hj hj' ?_)
    rcases hf with hf | hf
    · cases hf
    · exact .inr hf
/-- A window, as a callee sees it. -/
theorem Win.unt {S' : Nat → Prop} {b o : Nat} (h : Win E Wr w cells b o) (hS : ∀ fr b, E.okb Wr w fr b → S' b ∨ E.gb b) (hb : S' b) (hcl : cells.all AV.closed = true) (hne : cells ≠ []) :
    (Env.out E.gb w.heap.size S').okb (fun _ => False) w false b ∧ ∃ f : Nat → Value, (∀ j, j < cells.length → w.cell? ⟨b, o + j, none⟩ = some (f j)) ∧ ∀ j (hj : j < cells.length), Rep (Env.out E.gb w.heap.size S') (fun _ => False) w (cells[j]).unt (f j) := by
  have hlt : b < w.heap.size := by
    cases cells with
    | nil => exact absurd rfl hne
    | cons c l =>
      obtain ⟨v, hv, _⟩ := h.cell 0 (by simp)
      exact cell_lt hv
  refine ⟨⟨(fun h => nomatch h), Or.inl hb, hlt, fun h => h⟩, fun j => (w.cell? ⟨b, o + j, none⟩).getD undef, fun j hj => ?_, fun j hj => ?_⟩
  · obtain ⟨v, hv, _⟩ := h.cell j hj
    simp only [hv, Option.getD_some]
  · obtain ⟨v, hv, hr⟩ := h.cell j hj
    simp only [hv, Option.getD_some]
    exact hr.unt hS (all_get hcl j hj)
theorem Rel.cvt (h : Rel w0 N E σ a w) {av : AV} {v : Value} {K : AV → Bool → Prop} (hr : Rep E (σ.wr E) w av v) (hk : cvtW σ av K) :
    ∃ av' ow, K av' ow ∧ ∀ S' : Nat → Prop, (ow = true → ∀ b, S' b) → (∀ fr b, E.okb (σ.wr E) w fr b → S' b ∨ E.gb b) → Rep (Env.out E.gb w.heap.size S') (fun _ => False) w av' v := by
  have gen : av.closed = true → K av.unt false → ∃ av' ow, K av' ow ∧ ∀ S' : Nat → Prop, (ow = true → ∀ b, S' b) → (∀ fr b, E.okb (σ.wr E) w fr b → S' b ∨ E.gb b) → Rep (Env.out E.gb w.heap.size S') (fun _ => False) w av' v :=
    fun h1 h2 => ⟨_, _, h2, fun S' _ hS => hr.unt hS h1⟩
  cases av with
  | own d =>
    simp only [cvtW] at hk
    cases hd : look d σ.rows with
    | none => rw [hd] at hk; exact hk.elim
    | some o =>
      cases o with
      | none => rw [hd] at hk; exact hk.elim
      | some r =>
        rw [hd] at hk
        obtain ⟨hcl, hk⟩ := hk
        rw [closed_l] at hcl
        refine ⟨_, _, hk, fun S' h1 h2 => ?_⟩
        obtain ⟨_, xs, h3, h4⟩ := h.rows d r hd
        obtain ⟨A, c, hv, hn, hm⟩ := ownsRow_shape h3
        cases hr with
        | own h5 h6 =>
          rw [hv, unt_l]
          by_cases hne : r.cells = []
          · rw [hne]
            exact .row 0 0 (fun _ => undef) hn hm (fun e => absurd rfl e) (fun j hj => (Nat.not_lt_zero _ hj).elim) (fun j hj => (Nat.not_lt_zero _ hj).elim) (fun j hj => (Nat.not_lt_zero _ hj).elim)
          · obtain ⟨g, cap, cur, e1, _⟩ := ownsRow_block h3 (fun e => hne (List.eq_nil_of_length_eq_zero (by rw [← h4.len, e]; rfl)))
            have hw := h.rowWin hd e1
            rw [hv] at e1
            injection e1 with e1 _ _
            subst e1
            obtain ⟨hb, f, h7, h8⟩ := hw.unt h2 (h1 rfl g) hcl hne
            exact .row g 0 f hn hm (fun _ => ⟨rfl, hb⟩) (fun j hj => h7 j (by simpa using hj)) (fun j hj => by rw [List.getElem_map, unt_one]; exact h4.one _ _) (fun j hj => by rw [List.getElem_map]; exact h8 _ _)
  | sub d off n =>
    simp only [cvtW] at hk
    cases hd : look d σ.rows with
    | none => rw [hd] at hk; exact hk.elim
    | some o =>
      cases o with
      | none => rw [hd] at hk; exact hk.elim
      | some r =>
        rw [hd] at hk
        obtain ⟨hl, hcl, hk⟩ := hk
        rw [closed_l] at hcl
        refine ⟨_, _, hk, fun S' h1 h2 => ?_⟩
        obtain ⟨_, xs, h3, h4⟩ := h.rows d r hd
        cases hr with
        | @sub _ _ _ c A h5 hn hm hA =>
          rw [unt_l]
          by_cases hne : ((r.cells.map AV.unt).drop off).take (n * r.sz) = []
          · rw [hne]
            exact .row 0 0 (fun _ => undef) hn hm (fun e => absurd rfl e) (fun j hj => (Nat.not_lt_zero _ hj).elim) (fun j hj => (Nat.not_lt_zero _ hj).elim) (fun j hj => (Nat.not_lt_zero _ hj).elim)
          · have hn0 : 0 < n := by
              rcases Nat.eq_zero_or_pos n with e | e
              · exact absurd (by rw [e, Nat.zero_mul, List.take_zero]) hne
              · exact e
            obtain ⟨g, m, k, e1, rfl⟩ := hA hn0
            have hrn : r.cells ≠ [] := fun e => hne (by rw [e]; simp)
            obtain ⟨hb, f, h7, h8⟩ := (h.rowWin hd e1).unt h2 (h1 rfl g) hcl hrn
            refine .row g off (fun j => f (off + j)) hn hm (fun _ => ⟨rfl, hb⟩) (fun j hj => ?_) (fun j hj => ?_) (fun j hj => ?_)
            · simp only [List.length_take, List.length_drop, List.length_map] at hj
              have := h7 (off + j) (by omega)
              rw [Nat.zero_add] at this
              exact this
            · rw [List.getElem_take, List.getElem_drop, List.getElem_map, unt_one]; exact h4.one _ _
            · simp only [List.length_take, List.length_drop, List.length_map] at hj
              rw [List.getElem_take, List.getElem_drop, List.getElem_map]
              exact h8 _ (by omega)
  | ptr d off =>
    obtain ⟨bx, hb, hcl, hk⟩ := onO_some hk
    rw [closed_l] at hcl
    refine ⟨_, _, hk, fun S' h1 h2 => ?_⟩
    obtain ⟨_, _, arr, h3, h4⟩ := h.boxes d bx hb
    cases hr with
    | ptr h5 =>
      have hw := h4.win h3
      rw [unt_l]
      have hlt : E.blk d < w.heap.size := (Array.getElem?_eq_some_iff.1 h3).1
      have hok : (Env.out E.gb w.heap.size S').okb (fun _ => False) w false (E.blk d) := ⟨(fun h => nomatch h), Or.inl (h1 rfl _), hlt, fun h => h⟩
      have e : (⟨E.blk d, off, none⟩ : Addr) = ⟨E.blk d, 0 + off, none⟩ := by rw [Nat.zero_add]
      rw [e]
      by_cases hne : bx.cells = []
      · rw [hne]
        exact .radd _ 0 (fun _ => undef) hok (fun j hj => (Nat.not_lt_zero _ hj).elim) (fun j hj => (Nat.not_lt_zero _ hj).elim) (fun j hj => (Nat.not_lt_zero _ hj).elim)
      · obtain ⟨_, f, h7, h8⟩ := hw.unt h2 (h1 rfl _) hcl hne
        exact .radd _ 0 f hok (fun j hj => h7 j (by simpa using hj)) (fun j hj => by rw [List.getElem_map, unt_one]; exact h4.one _ _) (fun j hj => by rw [List.getElem_map]; exact h8 _ _)
  | addr d off => exact gen hk.1 hk.2
  | val _ => exact gen hk.1 hk.2
  | row _ _ _ => exact gen hk.1 hk.2
  | radd _ _ _ => exact gen hk.1 hk.2
  | agg _ => exact gen hk.1 hk.2
  | tup _ => exact gen hk.1 hk.2
  | clo _ _ => exact gen hk.1 hk.2
def Seen (E : Env) (σ : St) (w : World) (ow : Bool) (avs : List AV) (vals : List Value) : Prop :=
  avs.length = vals.length ∧ ∀ S' : Nat → Prop, (ow = true → ∀ b, S' b) → (∀ fr b, E.okb (σ.wr E) w fr b → S' b ∨ E.gb b) → ∀ j (hj : j < avs.length) (hj' : j < vals.length), Rep (Env.out E.gb w.heap.size S') (fun _ => False) w (avs[j]) (vals[j])
theorem Seen.cons {av : AV} {v : Value} {ow ow' : Bool} {avs : List AV} {vals : List Value} (h : ∀ S' : Nat → Prop, (ow = true → ∀ b, S' b) → (∀ fr b, E.okb (σ.wr E) w fr b → S' b ∨ E.gb b) → Rep (Env.out E.gb w.heap.size S') (fun _ => False) w av v)
    (h' : Seen E σ w ow' avs vals) : Seen E σ w (ow || ow') (av :: avs) (v :: vals) := by
  refine ⟨by simp [h'.1], fun S' h1 h2 j hj hj' => ?_⟩
  cases j with
  | zero => exact h S' (fun e => h1 (by rw [e]; rfl)) h2
  | succ j => exact h'.2 S' (fun e => h1 (by rw [e]; simp)) h2 j (by simpa using hj) (by simpa using hj')
theorem Rel.args (h : Rel w0 N E σ a w) : ∀ (l : List Operand) {K : List AV → Bool → Prop}, argsW σ l K → ∃ avs ow, K avs ow ∧ Seen E σ w ow avs (l.map a.eval)
  | [], K, hk => ⟨[], false, hk, rfl, fun S' _ _ j hj => (Nat.not_lt_zero _ hj).elim⟩
  | x :: l, K, hk => by
    obtain ⟨av, hav, hk⟩ := onO_some hk
    obtain ⟨av', ow, hk, h1⟩ := h.cvt (h.ev hav) hk
    obtain ⟨avs, ow', hk, h2⟩ := Rel.args h l hk
    exact ⟨_, _, hk, h2.cons h1⟩
theorem Rel.caps (h : Rel w0 N E σ a w) : ∀ (l : List AV) (vs : List Value) {K : List AV → Bool → Prop}, l.length = vs.length → (∀ j (hj : j < l.length) (hj' : j < vs.length), Rep E (σ.wr E) w (l[j]) (vs[j])) → capsW σ l K → ∃ avs ow, K avs ow ∧ Seen E σ w ow avs vs
  | [], [], K, _, _, hk => ⟨[], false, hk, rfl, fun S' _ _ j hj => (Nat.not_lt_zero _ hj).elim⟩
  | [], v :: vs, _, hl, _, _ => by simp at hl
  | x :: l, [], _, hl, _, _ => by simp at hl
  | x :: l, v :: vs, K, hl, hr, hk => by
    obtain ⟨av', ow, hk, h1⟩ := h.cvt (hr 0 (by simp) (by simp)) hk
    obtain ⟨avs, ow', hk, h2⟩ := Rel.caps h l vs (by simpa using hl) (fun j hj hj' => hr (j + 1) (by simpa using hj) (by simpa using hj')) hk
    exact ⟨_, _, hk, h2.cons h1⟩
theorem Seen.append {ow ow' : Bool} {avs avs' : List AV} {vals vals' : List Value} (h : Seen E σ w ow avs vals) (h' : Seen E σ w ow' avs' vals') : Seen E σ w (ow || ow') (avs ++ avs') (vals ++ vals') := by
  refine ⟨by simp [h.1, h'.1], fun S' h1 h2 j hj hj' => ?_⟩
  by_cases hlt : j < avs.length
  · have hlt' : j < vals.length := by rw [← h.1]; exact hlt
    rw [List.getElem_append_left hlt, List.getElem_append_left hlt']
    exact h.2 S' (fun e => h1 (by rw [e]; rfl)) h2 j hlt hlt'
  · have hl := h.1
    rw [List.getElem_append_right (by omega), List.getElem_append_right (by omega)]
    have e : j - vals.length = j - avs.length := by omega
    simp only [e]
    exact h'.2 S' (fun e => h1 (by rw [e]; simp)) h2 _ _ _
end Go.Rk

namespace Go.Rk
open Go.RowKit
variable {C : Ctx} {w0 w w' : World} {N : Nat} {E : Env} {σ : St} {a : Act} {Wr : Nat → Prop} {cells cells' : List AV} {xs ys : List Value}
/-- What is read through a slice, as append takes it. -/
theorem win_cells {b o : Nat} (h : Win E Wr w cells b o) : ∃ news : List Value, RepL E Wr w cells news ∧ ∀ j u, news[j]? = some u → w.cell? ((⟨b, o, none⟩ : Addr).add j) = some u := by
  refine ⟨(List.range cells.length).map fun j => (w.cell? ⟨b, o + j, none⟩).getD undef, ⟨by simp, h.one, fun j hj hj' => ?_⟩, fun j u hu => ?_⟩
  · obtain ⟨v, hv, hr⟩ := h.cell j hj
    simp only [List.getElem_map, List.getElem_range, hv, Option.getD_some]
    exact hr
  · rw [List.getElem?_map] at hu
    cases hr : (List.range cells.length)[j]? with
    | none => rw [hr] at hu; cases hu
    | some k =>
      obtain ⟨hjl, hkj⟩ := List.getElem?_eq_some_iff.1 hr
      rw [List.getElem_range] at hkj
      subst hkj
      rw [hr] at hu
      simp only [List.length_range] at hjl
      obtain ⟨v, hv, _⟩ := h.cell j hjl
      simp only [Option.map_some, hv, Option.getD_some, Option.some.injEq] at hu
      subst hu
      rw [Addr.add_lit]
      exact hv
theorem T_info (hC : C.Ok) {t : TypeId} {i : TI} (h : C.T t = some i) : ∃ inf z, C.P.info? t = some inf ∧ inf.size = i.size ∧ inf.bytes = i.bytes ∧ inf.zero = some z ∧ z.cells.toList = i.zero ∧ z.cells.size = i.size := by
  obtain ⟨inf, z, h1, h2, h3, h4, h5, _⟩ := (hC.T t i h).info
  have h6 := (hC.T t i h).zlen
  exact ⟨inf, z, h1, h2, h3, h4, h5, by rw [← h6, ← h5]; simp⟩
theorem run_append_none' {P : Program} {w : World} (base : Nat) (t ty e : TypeId) (i : TypeInfo) (size : Nat) (ht : P.underlying t = some (.slice e)) (hi : P.info? e = some i)
    (v : Value) (n : Nat) (xs : List Value) (hown : w.ownsRow base e size v n xs) (c : Nat) : (Builtin.append_ #[t, t] ty #[v, .slice none 0 c]).run P w = .ok v w := by
  rcases hown.2 with ⟨rfl, rfl⟩ | ⟨g, cap, cur, rfl, _, _, hnc, _⟩
  · simp [Builtin.append_, run_underlying ht, sizeOf, typeInfo, hi, Builtin.lenOf, Builtin.firstCells]
  · simp [Builtin.append_, run_underlying ht, sizeOf, typeInfo, hi, Builtin.lenOf, Builtin.firstCells, hnc, storeCells]
theorem Rel.app (hC : C.Ok) (h : Rel w0 N E σ a w) {o : Oper} (hd : ∀ d, o.dst = some d → d < N) {t ty : TypeId} {s x : AV} {sv xv : Value} {K : St → Prop} (hs : Rep E (σ.wr E) w s sv) (hx : Rep E (σ.wr E) w x xv)
    (hk : appW C σ o.dst t s x K) : ∃ v w', (Builtin.append_ #[t, t] ty #[sv, xv]).run C.P w = .ok v w' ∧ Nxt w0 N E K (a.put o.dst v) w' := by
  have hB : E.B ≤ w.heap.size := Nat.le_trans (Nat.le_of_eq h.base) h.below.size
  obtain ⟨ti, ht, hk⟩ := onO_some hk
  cases htk : ti.k with
  | slice e =>
    rw [htk] at hk
    obtain ⟨ei, he, hk⟩ := onO_some hk
    obtain ⟨m, news, A, c, ⟨hsz, hlen, hk⟩, rfl, hmc, hcm, hone, hw⟩ := h.row hx hk
    have hu : C.P.underlying t = some (.slice e) := T_kind hC ht htk
    obtain ⟨inf, z, h1, h2, h3, h4, h5, h6⟩ := T_info hC he
    -- what append does to an own row
    have key : ∀ (v : Value) (n : Nat) (xs : List Value), w.ownsRow E.B e ei.size v n xs → n + m ≤ 9223372036854775807 → (n + m) * ei.bytes ≤ 140737488355328 →
        ∃ v' w' ys, (Builtin.append_ #[t, t] ty #[v, .slice A m c]).run C.P w = .ok v' w' ∧ w'.ownsRow E.B e ei.size v' (n + m) (xs ++ ys) ∧ w.grownBy w' v.ownBlock ∧ (∀ g, v'.ownBlock = some g → v.ownBlock = some g ∨ w.heap.size ≤ g) ∧ RepL E (σ.wr E) w news ys := by
      intro v n xs hown h63 hb
      by_cases hne : news = []
      · have hm0 : m = 0 := by
          rw [hne] at hlen
          rcases Nat.mul_eq_zero.1 hlen.symm with q | q
          · exact q
          · omega
        subst hm0
        cases A with
        | none =>
          have := run_append_none' (P := C.P) (w := w) E.B t ty e inf ei.size hu h1 v n xs hown c
          refine ⟨v, w, [], this, by simpa using hown, ⟨rfl, rfl, rfl, Nat.le_refl _, fun _ _ _ => rfl⟩, fun g hg => .inl hg, by rw [hne]; exact RepL.nil⟩
        | some ad =>
          obtain ⟨v', w', h7, h8, h9, h10⟩ := run_append_at (P := C.P) w E.B t ty e inf z ei.size ei.bytes hu h1 h4 h2 h3 h6 hsz v n xs hown ad 0 c [] (by simp) (fun j u hu => by simp at hu) (fun u hu => by cases hu) (by simp only [maxLen]; omega) hb hB
          exact ⟨v', w', [], h7, h8, h9, h10, by rw [hne]; exact RepL.nil⟩
      · obtain ⟨b, oo, rfl, hwin⟩ := hw hne
        obtain ⟨ys, h7, h8⟩ := win_cells hwin
        obtain ⟨v', w', h9, h10, h11, h12⟩ := run_append_at (P := C.P) w E.B t ty e inf z ei.size ei.bytes hu h1 h4 h2 h3 h6 hsz v n xs hown ⟨b, oo, none⟩ m c ys (by rw [h7.len, hlen]) h8 h7.oneCell (by simp only [maxLen]; omega) hb hB
        exact ⟨v', w', ys, h9, h10, h11, h12, h7⟩
    have hone' : ∀ {w1 : World} {v' : Value} {n : Nat} {xs : List Value}, w1.ownsRow E.B e ei.size v' n xs → v'.oneCell' = true := fun hq => by
      obtain ⟨A, c, rfl, _⟩ := ownsRow_shape hq
      rfl
    cases hs with
    | val =>
      cases sv with
      | slice A' n' c' =>
        cases A' with
        | none =>
          cases n' with
          | zero =>
            cases c' with
            | zero =>
              obtain ⟨hb, h63, hk⟩ := hk
              obtain ⟨v', w', ys, h7, h8, h9, h10, h11⟩ := key _ 0 [] (World.ownsRow_nil w E.B e ei.size) (by omega) (by rw [Nat.zero_add]; exact hb)
              rw [Nat.zero_add, List.nil_append] at h8
              refine ⟨v', w', h7, _, _, hk, (h.newRow (r := ⟨e, ei.size, m, news⟩) (v := v') (xs := ys) ?_ h9.size (fun b hb => h9.block b hb (by simp [Value.ownBlock])) h8 (fun g hg => ?_) h11).put hd (rep_own_new (hone' h8)), rfl, rfl, rfl⟩
              · exact h.below.grown h9 hB (fun k hk => by simp [Value.ownBlock] at hk)
              · rcases h10 g hg with q | q
                · simp [Value.ownBlock] at q
                · exact q
            | succ c => exact hk.elim
          | succ n => exact hk.elim
        | some ad => exact hk.elim
      | _ => exact hk.elim
    | @own d h12 h13 =>
      dsimp only at hk
      cases hdl : look d σ.rows with
      | none => rw [hdl] at hk; exact hk.elim
      | some oo =>
        cases oo with
        | none => rw [hdl] at hk; exact hk.elim
        | some r =>
          rw [hdl] at hk
          obtain ⟨re, rsz, hb, h63, hk⟩ := hk
          obtain ⟨_, xs, h14, h15⟩ := h.rows d r hdl
          rw [re, rsz] at h14
          obtain ⟨v', w', ys, h7, h8, h9, h10, h11⟩ := key _ r.n xs h14 h63 hb
          refine ⟨v', w', h7, _, _, hk, (h.swapRow hdl (r' := ⟨e, ei.size, r.n + m, r.cells ++ news⟩) (v' := v') (xs' := xs ++ ys) ?_ h9 h8 h10 (h15.append h11)).put hd (rep_own_new (hone' h8)), rfl, rfl, rfl⟩
          exact h.below.grown h9 hB (fun k hk => (h14.lt k hk).1)
    | _ => exact hk.elim
  | _ => rw [htk] at hk; exact hk.elim
/-- A call. -/
theorem Rel.callW (hC : C.Ok) (hG : C.G w0) (h : Rel w0 N E σ a w) {o : Oper} (hd : ∀ d, o.dst = some d → d < N) {f : FuncId} {avs : List AV} {ow : Bool} {vals : List Value} {K : St → Prop} (hs : Seen E σ w ow avs vals) (hX : C.X f = none) (hgb : E.gb = C.gb)
    {r : AV} (hr : ACalls C f avs r) (hfr : ow = true → r.fresh = true) (hk : K (σ.put o.dst r)) :
    Calls C.P f vals.toArray w fun e w' => ∃ v, e = .returned v ∧ Nxt w0 N E K (a.put o.dst v) w' := by
  have hB : E.B ≤ w.heap.size := Nat.le_trans (Nat.le_of_eq h.base) h.below.size
  have hGw : C.G w := hC.G w0 w hG (by rw [← h.base]; exact h.below)
  let S' : Nat → Prop := fun b => ow = true ∨ ((E.S b ∨ E.B ≤ b ∨ E.gb b) ∧ ¬ σ.wr E b)
  have hsee := hs.2 S' (fun e b => Or.inl e) (fun fr b hb => Or.inl (Or.inr ⟨hb.s, hb.nw⟩))
  refine (hr.calls w S' vals.toArray hGw (by simpa using hs.1.symm) (fun j hj hj' => by rw [List.getElem_toArray, ← hgb]; exact hsee j hj (by simpa using hj'))).mono ?_
  rintro e w' ⟨v, rfl, hb, hrep⟩
  refine ⟨v, rfl, ?_⟩
  have h' := h.call hb
  refine (h'.put hd ?_).nxt hk
  rw [← hgb] at hrep
  refine hrep.back hB (fun b hb => (h.wr_lt hb).2) (fun b hb hw => by have := h.glob.1 b hb; have := (h.wr_lt hw).1; omega) ?_
  cases ow with
  | true => exact .inl (hfr rfl)
  | false =>
    refine .inr (fun b hb => ?_)
    rcases hb with hb | hb
    · cases hb
    · exact hb
end Go.Rk
