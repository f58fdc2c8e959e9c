/- DecdivLarge, the tied card: for every context and all Decs x and y the law answers true and leaves its arguments as they were, for a Dec with too many words gives ErrSize from each of the seven functions. Conditions: none beyond the given statement (part 3 of 8) -/
import Derived.Test.YtilkfpaelkekfaaDoorK01
import Derived.Orders
set_option linter.unusedVariables false
namespace Go.Rk
open Go.RowKit
variable {C : Ctx} {w0 w w' : World} {N : Nat} {E : Env} {σ : St} {a : Act} {Wr : Nat → Prop} {cells cells' : List AV} {xs ys : List Value}
theorem Rel.evL (h : Rel w0 N E σ a w) : ∀ (l : List Operand) {K : List AV → Prop}, Go.Rk.evL σ l K → ∃ avs, K avs ∧ avs.length = l.length ∧ ∀ j (hj : j < avs.length) (hj' : j < l.length), Rep E (σ.wr E) w (avs[j]) (a.eval l[j])
  | [], K, hk => ⟨[], hk, rfl, fun j hj => (Nat.not_lt_zero _ hj).elim⟩
  | x :: l, K, hk => by
    obtain ⟨av, hav, hk⟩ := onO_some hk
    obtain ⟨avs, hk, hl, hr⟩ := Rel.evL h l hk
    refine ⟨_, hk, by simp [hl], fun j hj hj' => ?_⟩
    cases j with
    | zero => exact h.ev hav
    | succ j => exact hr j (by simpa using hj) (by simpa using hj')
theorem foldM_max {k : IntKind} : ∀ (l : List AV) (vs : List Value) (acc : Int) {K : Int → Prop}, l.length = vs.length → (∀ j (hj : j < l.length) (hj' : j < vs.length), Rep E Wr w (l[j]) (vs[j])) → foldI mx2 k acc l K →
    ∃ r, (vs.foldlM Builtin.max2 (.int k acc)).run C.P w = .ok (.int k r) w ∧ K r
  | [], [], acc, K, _, _, hk => ⟨acc, rfl, hk⟩
  | [], v :: vs, _, _, hl, _, _ => by simp at hl
  | x :: l, [], _, _, hl, _, _ => by simp at hl
  | x :: l, v :: vs, acc, K, hl, hr, hk => by
    obtain ⟨k', n, rfl, rfl, hk⟩ := onI_some hk
    have e := (hr 0 (by simp) (by simp)).val_eq
    simp only [List.getElem_cons_zero] at e
    subst e
    obtain ⟨r, h1, h2⟩ := foldM_max l vs (mx2 acc n) (by simpa using hl) (fun j hj hj' => hr (j + 1) (by simpa using hj) (by simpa using hj')) hk
    exact ⟨r, by simp only [List.foldlM_cons, Sem.run_bind, Builtin.max2, Sem.run_pure, Result.andThen_ok]; exact h1, h2⟩
theorem foldM_min {k : IntKind} : ∀ (l : List AV) (vs : List Value) (acc : Int) {K : Int → Prop}, l.length = vs.length → (∀ j (hj : j < l.length) (hj' : j < vs.length), Rep E Wr w (l[j]) (vs[j])) → foldI mn2 k acc l K →
    ∃ r, (vs.foldlM Builtin.min2 (.int k acc)).run C.P w = .ok (.int k r) w ∧ K r
  | [], [], acc, K, _, _, hk => ⟨acc, rfl, hk⟩
  | [], v :: vs, _, _, hl, _, _ => by simp at hl
  | x :: l, [], _, _, hl, _, _ => by simp at hl
  | x :: l, v :: vs, acc, K, hl, hr, hk => by
    obtain ⟨k', n, rfl, rfl, hk⟩ := onI_some hk
    have e := (hr 0 (by simp) (by simp)).val_eq
    simp only [List.getElem_cons_zero] at e
    subst e
    obtain ⟨r, h1, h2⟩ := foldM_min l vs (mn2 acc n) (by simpa using hl) (fun j hj hj' => hr (j + 1) (by simpa using hj) (by simpa using hj')) hk
    exact ⟨r, by simp only [List.foldlM_cons, Sem.run_bind, Builtin.min2, Sem.run_pure, Result.andThen_ok]; exact h1, h2⟩
theorem Rel.blt (hC : C.Ok) (h : Rel w0 N E σ a w) {o : Oper} (hd : ∀ d, o.dst = some d → d < N) {b : Builtin} {ts : Array TypeId} {cs : Array Bool} {args : List AV} {vals : List Value} {K : St → Prop} (hl : args.length = vals.length)
    (hr : ∀ j (hj : j < args.length) (hj' : j < vals.length), Rep E (σ.wr E) w (args[j]) (vals[j])) (hk : bltW C σ o.dst b ts args K) :
    ∃ v w', (builtin b ts o.type cs vals.toArray).run C.P w = .ok (.value v) w' ∧ Nxt w0 N E K (a.put o.dst v) w' := by
  cases args with
  | nil => cases b <;> exact hk.elim
  | cons x l =>
    cases vals with
    | nil => simp at hl
    | cons xv vs =>
      have hx := hr 0 (by simp) (by simp)
      simp only [List.getElem_cons_zero] at hx
      have hr' : ∀ j (hj : j < l.length) (hj' : j < vs.length), Rep E (σ.wr E) w (l[j]) (vs[j]) := fun j hj hj' => hr (j + 1) (by simpa using hj) (by simpa using hj')
      have hl' : l.length = vs.length := by simpa using hl
      cases b with
      | max =>
        have hk : onI x fun k n => foldI mx2 k n l fun r => K (σ.put o.dst (.val (.int k r))) := by cases l <;> exact hk
        obtain ⟨k, n, rfl, hk⟩ := onI_some hk
        have e := hx.val_eq
        subst e
        obtain ⟨r, h1, h2⟩ := foldM_max (C := C) l vs n hl' hr' hk
        exact ⟨_, w, by simp [builtin, Builtin.max_, h1], (h.put hd (.val _)).nxt h2⟩
      | min =>
        have hk : onI x fun k n => foldI mn2 k n l fun r => K (σ.put o.dst (.val (.int k r))) := by cases l <;> exact hk
        obtain ⟨k, n, rfl, hk⟩ := onI_some hk
        have e := hx.val_eq
        subst e
        obtain ⟨r, h1, h2⟩ := foldM_min (C := C) l vs n hl' hr' hk
        exact ⟨_, w, by simp [builtin, Builtin.min_, h1], (h.put hd (.val _)).nxt h2⟩
      | len =>
        cases l with
        | cons y l => exact hk.elim
        | nil =>
          cases vs with
          | cons y vs => simp at hl'
          | nil =>
            have hk : rowW σ x fun n _ => (∃ t, ts[0]? = some t ∧ ∃ i, C.T t = some i ∧ ∃ e, i.k = .slice e) ∧ K (σ.put o.dst (.val (.int .i64 n))) := hk
            obtain ⟨n, cells, A, c, ⟨⟨t, ht, i, hi, e, he⟩, hk⟩, rfl, _⟩ := h.row hx hk
            have hu : C.P.underlying t = some (.slice e) := T_kind hC hi he
            exact ⟨_, w, by simp [builtin, Builtin.len_, ht, run_underlying hu, goInt], (h.put hd (.val _)).nxt hk⟩
      | append =>
        cases l with
        | nil => exact hk.elim
        | cons y l =>
          cases l with
          | cons z l => exact hk.elim
          | nil =>
            cases vs with
            | nil => simp at hl'
            | cons yv vs =>
              cases vs with
              | cons zv vs => simp at hl'
              | nil =>
                obtain ⟨t, ht, hts, hk2⟩ := onO_some hk
                subst hts
                obtain ⟨v, w', h1, h2⟩ := h.app hC hd (ty := o.type) hx (hr' 0 (by simp) (by simp)) hk2
                simp only [List.getElem_cons_zero] at h1
                exact ⟨v, w', by simp only [builtin, Sem.run_bind, h1, Result.andThen_ok, Sem.run_pure], h2⟩
      | _ => cases l <;> first | exact hk.elim | (rename_i z l; cases l <;> exact hk.elim)
theorem xW_some {x : XK} {args : List AV} {K : AV → Prop} (h : xW x args K) : ∃ p q r : Int, args = [.val (.int .u64 p), .val (.int .u64 q), .val (.int .u64 r)] ∧ (0 ≤ p ∧ p < 18446744073709551616) ∧ (0 ≤ q ∧ q < 18446744073709551616) ∧ (0 ≤ r ∧ r ≤ 1) ∧ K (.tup [w64 (x.fst p q r), w64 (x.snd p q r)]) := by
  unfold xW at h
  split at h
  · exact ⟨_, _, _, rfl, h⟩
  · exact h.elim
/-- An operation. -/
theorem opW_sound (hC : C.Okx) (hG : C.G w0) (hgb : E.gb = C.gb) (h : Rel w0 N E σ a w) {o : Oper} (hd : ∀ d, o.dst = some d → d < N) {K : St → Prop} {Q : Exit → Act → World → Prop} (hk : opW C o σ K) : Oper.wp C.P o a w (Nxt w0 N E K) Q := by
  have hC' := hC.toOk
  cases ho : o.op with
  | move x =>
    simp only [opW, ho] at hk
    obtain ⟨av, hav, hk⟩ := onO_some hk
    exact wp_value (by simp [execOp, ho]) ((h.put hd (h.ev hav)).nxt hk)
  | assign x =>
    simp only [opW, ho] at hk
    obtain ⟨av, hav, hk⟩ := onO_some hk
    exact wp_value (by simp [execOp, ho]) ((h.put hd (h.ev hav)).nxt hk)
  | pick c x y =>
    simp only [opW, ho] at hk
    obtain ⟨cv, hcv, hk⟩ := onO_some hk
    cases cv with
    | val v =>
      cases v with
      | bool t =>
        have e := (h.ev hcv).val_eq
        cases t with
        | true =>
          obtain ⟨av, hav, hk⟩ := onO_some (hk.1 rfl)
          exact wp_value (by simp [execOp, ho, e, asBool]) ((h.put hd (h.ev hav)).nxt hk)
        | false =>
          obtain ⟨av, hav, hk⟩ := onO_some (hk.2 rfl)
          exact wp_value (by simp [execOp, ho, e, asBool]) ((h.put hd (h.ev hav)).nxt hk)
      | _ => exact hk.elim
    | _ => exact hk.elim
  | alloc e =>
    simp only [opW, ho] at hk
    obtain ⟨i, hi, hk⟩ := onO_some hk
    obtain ⟨z, h1, h2⟩ := T_zero hC' hi w
    have hone := (hC'.T _ _ hi).zone
    refine wp_value (w' := w.alloc (.cells z.cells e)) ?_ (h.box hd (v := z) (by rw [h2]; exact RepL.vals hone) hk)
    simp [execOp, ho, Instr.alloc, h1, run_newVar]
  | box e x =>
    simp only [opW, ho] at hk
    obtain ⟨av, hav, hk⟩ := onO_some hk
    obtain ⟨av', σ', hk, h', hr, _⟩ := h.frz (h.ev hav) hk
    obtain ⟨cs, hcs, hk⟩ := onO_some hk
    refine wp_value (w' := w.alloc (.cells (a.eval x).cells e)) ?_ (h'.box hd (v := a.eval x) (hr.cells hcs) hk)
    simp [execOp, ho, Instr.box, run_newVar]
  | build t parts =>
    simp only [opW, ho] at hk
    obtain ⟨i, hi, hk⟩ := onO_some hk
    cases hik : i.k with
    | struct fs =>
      rw [hik] at hk
      obtain ⟨ps, σ', hk, h', hl, _, hps⟩ := Rel.frzL _ _ h hk
      obtain ⟨fields, hu, hfs, hall⟩ := T_kind hC' hi hik
      obtain ⟨inf, z, h1, _, _, h4, h5, _⟩ := T_info hC' hi
      have hone := (hC'.T _ _ hi).zone
      have hmap : ∀ l : List Field, l.all (fun f => (C.P.info? f.type).isSome) = true → l.mapM (fun f => (C.P.info? f.type).map fun i => (f.offset, i.size)) = some (l.map fun f => (f.offset, C.P.cellsOf f.type)) := by
        intro l
        induction l with
        | nil => intro _; rfl
        | cons f l ih =>
          intro hq
          rw [List.all_cons, Bool.and_eq_true] at hq
          obtain ⟨inf, hinf⟩ := Option.isSome_iff_exists.1 hq.1
          rw [List.mapM_cons, ih hq.2]
          simp [hinf, Program.cellsOf]
      have hp : ∀ (j : Nat) (f : Nat × TypeId) (i : TI), fs[j]? = some f → C.T f.2 = some i → (fields.toList.map fun f => (f.offset, C.P.cellsOf f.type))[j]? = some (f.1, i.size) := by
        intro j f i hj hi
        rw [← hfs, List.getElem?_map] at hj
        rw [List.getElem?_map]
        cases hq : fields.toList[j]? with
        | none => rw [hq] at hj; cases hj
        | some q =>
          rw [hq] at hj
          simp only [Option.map_some, Option.some.injEq] at hj
          subst hj
          obtain ⟨inf, _, e1, e2, _⟩ := T_info hC' hi
          simp [Program.cellsOf, e1, e2]
      obtain ⟨cells', arr', h7, h8, h9⟩ := fill_ok hC' (E := E) (Wr := σ'.wr E) (w := w) (fs := fs) (place := fun j => (fields.toList.map fun f => (f.offset, C.P.cellsOf f.type))[j]?) hp ps (parts.toList.map fun p => (p.1, a.eval p.2)) (arr := z.cells) (by simpa using hl)
        (fun j hj hj' => by rw [List.getElem_map]; exact hps j hj (by simpa using hj')) (by rw [h5]; exact RepL.vals hone) hk
      have hb : C.P.built t (parts.toList.map fun p => (p.1, a.eval p.2)) = some arr' := by
        unfold Program.built
        simp only [h1, hu, h4, hmap _ hall]
        simpa using h7
      have hrun := run_build (P := C.P) w t (parts.map fun (i, x) => (i, a.eval x)) arr' (by simpa using hb)
      refine wp_value (w' := w) (v := .agg arr') (by simp [execOp, ho, hrun]) ((h'.put hd ?_).nxt h9)
      exact .agg (by have := h8.len; simpa using this) h8.one (fun j hj hj' => by have := h8.rep j hj (by simpa using hj'); rw [Array.getElem_toList] at this; exact this)
    | _ => rw [hik] at hk; exact hk.elim
  | buildSlice t len parts =>
    simp only [opW, ho] at hk
    obtain ⟨i, hi, hk⟩ := onO_some hk
    cases hik : i.k with
    | slice e =>
      rw [hik] at hk
      obtain ⟨ei, he, hk⟩ := onO_some hk
      obtain ⟨ps, σ', ⟨hlen, h24, hsz, hk⟩, h', hl, _, hps⟩ := Rel.frzL _ _ h hk
      have hu : C.P.underlying t = some (.slice e) := T_kind hC' hi hik
      obtain ⟨z, hz, hz2⟩ := T_zero hC' he w
      have hzl := (hC'.T _ _ he).zlen
      have hpl : parts.toList.length = len := by omega
      have hkey : ∀ arr : Array Value, arr.size = len * ei.size → ∃ cs arr' ys, Instr.fill (fun i => some (i * ei.size, ei.size)) arr (parts.toList.map fun p => (p.1, a.eval p.2)) = some arr' ∧ arr'.size = arr.size ∧ arr'.toList = arr.toList.take (0 * ei.size) ++ ys ∧ RepL E (σ'.wr E) w cs ys ∧
          K ((σ'.newRow ⟨e, ei.size, len, cs⟩).put o.dst (.own (2 * σ'.nr + 1))) := fun arr harr =>
        lit_ok ps (parts.toList.map fun p => (p.1, a.eval p.2)) 0 (arr := arr) (by simpa using hl) (fun j hj hj' => by rw [List.getElem_map]; exact hps j hj (by simpa using hj')) (by rw [harr, Nat.zero_add, List.length_map, hpl]) hk
      obtain ⟨cs, arr', ys, h1, h2, h3, h4, h5⟩ := hkey ((Array.range (len * ei.size)).map fun j => (if len * ei.size = 0 then #[] else z.cells)[j % (if len * ei.size = 0 then #[] else z.cells).size]!) (by simp)
      rw [Nat.zero_mul, List.take_zero, List.nil_append] at h3
      have hasz : arr'.size = len * ei.size := by rw [h2]; simp
      refine wp_value (w' := w.alloc (.cells arr' e)) (v := .slice (some ⟨w.heap.size, 0, none⟩) len len) ?_ (h'.made hd (n := len) (sz := ei.size) (arr := arr') (cs := cs) ?_ hasz (by rw [h3]; exact h4) h5)
      · have hn24 : ¬ (len * ei.size > 2 ^ 24) := by omega
        by_cases h0 : len * ei.size = 0
        · simp only [h0, if_true, Array.range_zero', Array.map_empty] at h1
          simp [execOp, ho, Instr.buildSlice, run_underlying hu, T_size hC' he w, h0, h1, run_newRow, Array.range_zero']
        · simp only [h0, if_false] at h1
          simp [execOp, ho, Instr.buildSlice, run_underlying hu, T_size hC' he w, h0, hn24, hz, h1, run_newRow]
      · have : len ≤ len * ei.size := Nat.le_mul_of_pos_right len hsz
        simp only [maxLen]; omega
    | _ => rw [hik] at hk; exact hk.elim
  | load t p =>
    simp only [opW, ho] at hk
    obtain ⟨pv, hpv, hk⟩ := onO_some hk
    obtain ⟨av, v, h1, h2, h3⟩ := h.load hC' (h.ev hpv) hk
    exact wp_value (by simp [execOp, ho, h1]) ((h.put hd h2).nxt h3)
  | store t p x =>
    simp only [opW, ho] at hk
    obtain ⟨pv, hpv, hk⟩ := onO_some hk
    obtain ⟨xv, hxv, hk⟩ := onO_some hk
    obtain ⟨w', σ', h1, h2, h3⟩ := h.store hC' (h.ev hpv) (h.ev hxv) hk
    exact wp_skip' (w' := w') (by simp [execOp, ho, h1]) ((h2.put hd (.val _)).nxt h3)
  | nilCheck x =>
    simp only [opW, ho] at hk
    obtain ⟨av, hav, hk⟩ := onO_some hk
    have hr := h.ev hav
    generalize hx : a.eval x = xv at hr
    have fin : (execOp a.eval o).run C.P w = .ok (.value xv) w → K (σ.put o.dst av) → Oper.wp C.P o a w (Nxt w0 N E K) Q := fun e hk2 => wp_value e ((h.put hd hr).nxt hk2)
    cases hr with
    | ptr h1 => exact fin (by simp [execOp, ho, hx]) hk
    | addr g m k h1 hA => exact fin (by simp [execOp, ho, hx]) hk
    | radd b oo f hA hc h1 hr => exact fin (by simp [execOp, ho, hx]) hk
    | clo hs hr => exact fin (by simp [execOp, ho, hx]) hk
    | val =>
      cases xv with
      | func fn fi ca => cases fn <;> first | exact hk.elim | exact fin (by simp [execOp, ho, hx]) hk
      | _ => exact hk.elim
    | _ => exact hk.elim
  | binOp op t x y yt =>
    simp only [opW, ho] at hk
    obtain ⟨xv, hxv, hk⟩ := onO_some hk
    obtain ⟨yv, hyv, hk⟩ := onO_some hk
    cases xv with
    | val p =>
      cases yv with
      | val q =>
        obtain ⟨hb, hk⟩ := hk
        have e1 := (h.ev hxv).val_eq
        have e2 := (h.ev hyv).val_eq
        obtain ⟨v, h1, h2, _⟩ := binW_run (P := C.P) (w := w) (t := t) (x := x) (y := y) (fun b1 b2 hp hq => by
          subst hp
          obtain ⟨i, hi, hik⟩ := hb rfl
          exact T_kind hC' hi hik) hk
        exact wp_value (by simp only [execOp, ho, e1, e2]; rw [Sem.run_bind, h1]; rfl) ((h.put hd (.val v)).nxt h2)
      | _ => exact hk.elim
    | _ => exact hk.elim
  | unOp op t x =>
    simp only [opW, ho] at hk
    obtain ⟨xv, hxv, hk⟩ := onO_some hk
    cases xv with
    | val p =>
      have e1 := (h.ev hxv).val_eq
      cases p with
      | int k n =>
        cases op with
        | neg => exact wp_value (by simp [execOp, ho, e1, Op.unary, Op.intArith]) ((h.put hd (.val _)).nxt hk)
        | xor => exact wp_value (by simp only [execOp, ho, e1, Op.unary, intBits_xor, Sem.run_bind, Sem.run_pure, Result.andThen_ok]) ((h.put hd (.val _)).nxt hk)
        | _ => exact hk.elim
      | bool b =>
        cases op with
        | not => exact wp_value (by simp [execOp, ho, e1, Op.unary]) ((h.put hd (.val _)).nxt hk)
        | _ => exact hk.elim
      | _ => cases op <;> exact hk.elim
    | _ => cases op <;> exact hk.elim
  | convert st dt x =>
    simp only [opW, ho] at hk
    obtain ⟨si, hsi, hk⟩ := onO_some hk
    obtain ⟨xv, hxv, hk⟩ := onO_some hk
    obtain ⟨k, n, rfl, hk⟩ := onI_some hk
    obtain ⟨i, hi, hk2⟩ := onO_some hk
    have e1 := (h.ev hxv).val_eq
    cases hik : i.k with
    | int k' =>
      rw [hik] at hk2
      have hu : C.P.underlying dt = some (.int k') := T_kind hC' hi hik
      obtain ⟨d, hd2, _⟩ := T_under hC' hsi
      exact wp_value (by simp [execOp, ho, e1, convert, run_underlying hd2, run_underlying hu, Conv.intToInt]) ((h.put hd (.val _)).nxt hk2)
    | _ => rw [hik] at hk2; exact hk2.elim
  | makeFunc fn first caps =>
    simp only [opW, ho] at hk
    cases fn with
    | func f =>
      obtain ⟨rfl, hk⟩ := hk
      obtain ⟨cs, hk, hl, hr⟩ := h.evL caps.toList hk
      refine wp_value (w' := w) (v := .func (.func f) #[] (caps.map a.eval)) (by simp [execOp, ho, Instr.makeFunc]) ((h.put hd (.clo (by simpa using hl.symm) (fun j hj hj' => ?_))).nxt hk)
      have := hr j hj (by rw [← hl]; exact hj)
      rw [Array.getElem_toList] at this
      rw [Array.getElem_map]
      exact this
    | _ => exact hk.elim
  | makeSlice t l c =>
    simp only [opW, ho] at hk
    obtain ⟨lv, hlv, hk⟩ := onO_some hk
    obtain ⟨k, n, rfl, hk⟩ := onI_some hk
    obtain ⟨cv, hcv, hk⟩ := onO_some hk
    obtain ⟨k', n', rfl, rfl, rfl, rfl, hk⟩ := onI_some hk
    obtain ⟨i, hi, hk⟩ := onO_some hk
    have e1 := (h.ev hlv).val_eq
    have e2 := (h.ev hcv).val_eq
    cases hik : i.k with
    | slice e =>
      rw [hik] at hk
      obtain ⟨ei, he, hk⟩ := onO_some hk
      have hu : C.P.underlying t = some (.slice e) := T_kind hC' hi hik
      obtain ⟨inf, z, h1, h2, h3, h4, h5, h6⟩ := T_info hC' he
      have hone := (hC'.T _ _ he).zone
      have hzl := (hC'.T _ _ he).zlen
      split at hk
      · rename_i z0 hz0
        obtain ⟨g1, g2, g3, hk⟩ := hk
        have hs1 : ei.size = 1 := by rw [← hzl, hz0]; rfl
        have hzc : z.cells = #[z0] := by apply Array.ext'; rw [h5, hz0]
        have hby : (inf.bytes : Int) * n' ≤ 281474976710656 := by
          have hq : ((n'.toNat * ei.bytes : Nat) : Int) ≤ 281474976710656 := by omega
          rw [Int.natCast_mul, Int.toNat_of_nonneg g1, Int.mul_comm] at hq
          rw [h3]; exact hq
        have hrun := run_make (P := C.P) w t e inf z hu h1 h4 .i64 .i64 n' n' g1 (Int.le_refl _) hby g2
        rw [h2, hs1, Nat.mul_one] at hrun
        refine wp_value (w' := w.alloc (.cells (madeCells z.cells n'.toNat) e)) (v := .slice (some ⟨w.heap.size, 0, none⟩) n'.toNat n'.toNat) (by simp [execOp, ho, e1, e2, hrun]) (h.made hd (n := n'.toNat) (sz := 1) (arr := madeCells z.cells n'.toNat) (cs := List.replicate n'.toNat (.val z0)) ?_ (by simp [size_madeCells]) ?_ hk)
        · simp only [maxLen]; omega
        · rw [hzc, toList_madeCells_one]
          have hv := RepL.vals (E := E) (Wr := σ.wr E) (w := w) (l := List.replicate n'.toNat z0) (by rw [hz0] at hone; simp at hone; simp [hone])
          rw [List.map_replicate] at hv
          exact hv
      · exact hk.elim
    | _ => rw [hik] at hk; exact hk.elim
  | slice t x lo hi mx =>
    simp only [opW, ho] at hk
    obtain ⟨xv, hxv, hk⟩ := onO_some hk
    obtain ⟨av, v, h1, h2, h3⟩ := h.cut hC' (h.ev hxv) hk
    exact wp_value (by simp [execOp, ho, h1]) ((h.put hd h2).nxt h3)
  | fieldAddr t x j =>
    simp only [opW, ho] at hk
    obtain ⟨xv, hxv, hk⟩ := onO_some hk
    obtain ⟨av, v, h1, h2, h3⟩ := Rel.fieldAddr hC' (h.ev hxv) hk
    exact wp_value (by simp [execOp, ho, h1]) ((h.put hd h2).nxt h3)
  | field t x j =>
    simp only [opW, ho] at hk
    obtain ⟨xv, hxv, hk⟩ := onO_some hk
    obtain ⟨av, v, h1, h2, h3⟩ := Rel.part hC' (h.ev hxv) hk
    exact wp_value (by simp [execOp, ho, h1]) ((h.put hd h2).nxt h3)
  | indexAddr t x i =>
    simp only [opW, ho] at hk
    obtain ⟨xv, hxv, hk⟩ := onO_some hk
    obtain ⟨iv, hiv, hk⟩ := onO_some hk
    obtain ⟨k, n, rfl, hk2⟩ := onI_some hk
    obtain ⟨av, v, h1, h2, h3⟩ := h.index hC' (k := k) (h.ev hxv) hk2
    exact wp_value (by simp [execOp, ho, (h.ev hiv).val_eq, h1]) ((h.put hd h2).nxt h3)
  | index t x i =>
    simp only [opW, ho] at hk
    obtain ⟨ti, ht, hk⟩ := onO_some hk
    obtain ⟨xv, hxv, hk⟩ := onO_some hk
    obtain ⟨iv, hiv, hk⟩ := onO_some hk
    obtain ⟨k, n, rfl, hk2⟩ := onI_some hk
    cases e : ti.k with
    | str =>
      rw [e] at hk2
      have hu := (hC'.T t ti ht).under
      rw [e] at hu
      cases xv with
      | val v =>
        cases v with
        | string s =>
          obtain ⟨h0, hk2⟩ := hk2
          obtain ⟨b, hb, hk2⟩ := onO_some hk2
          have hu' : C.P.underlying t = some .string := hu
          exact wp_value (by simp [execOp, ho, (h.ev hiv).val_eq, (h.ev hxv).val_eq, Instr.index, asIntOf, run_underlying hu', h0, hb]) ((h.put hd (.val _)).nxt hk2)
        | _ => exact hk2.elim
      | _ => exact hk2.elim
    | _ => rw [e] at hk2; exact hk2.elim
  | extract x j =>
    simp only [opW, ho] at hk
    obtain ⟨xv, hxv, hk⟩ := onO_some hk
    have hr := h.ev hxv
    generalize hx : a.eval x = xw at hr
    cases hr with
    | @tup cells arr hs hr =>
      obtain ⟨av, hav, hk⟩ := onO_some hk
      obtain ⟨hlt, rfl⟩ := List.getElem?_eq_some_iff.1 hav
      have hlt' : j < arr.size := by omega
      exact wp_value (v := arr[j]) (by simp [execOp, ho, hx, Instr.extract, Array.getElem?_eq_getElem hlt']) ((h.put hd (hr j hlt hlt')).nxt hk)
    | _ => exact hk.elim
  | call c =>
    simp only [opW, ho] at hk
    cases hc : c.callee with
    | value f =>
      rw [hc] at hk
      obtain ⟨fv, hfv, hk⟩ := onO_some hk
      obtain ⟨avs, ow, hk, hseen⟩ := h.args c.args.toList hk
      have hr := h.ev hfv
      generalize hx : a.eval f = fw at hr
      have fin : ∀ (g : FuncId) (avs : List AV) (ow : Bool) (vals : List Value), Seen E σ w ow avs vals → (execOp a.eval o) = callFunc g vals.toArray → callW C g avs ow (fun r => K (σ.put o.dst r)) → Oper.wp C.P o a w (Nxt w0 N E K) Q := by
        intro g avs ow vals hs he hk
        unfold callW at hk
        cases hX : C.X g with
        | some xk =>
          rw [hX] at hk
          obtain ⟨p, q, r, hav, b1, b2, b3, hk2⟩ := xW_some hk
          subst hav
          · have hl3 := hs.1
            match vals, hl3, hs, he with
            | [v1, v2, v3], _, hs, he =>
              have hs2 := hs.2 (fun _ => True) (fun _ _ => trivial) (fun _ _ _ => Or.inl trivial)
              have q1 := (hs2 0 (by simp) (by simp)).val_eq
              have q2 := (hs2 1 (by simp) (by simp)).val_eq
              have q3 := (hs2 2 (by simp) (by simp)).val_eq
              simp only [List.getElem_cons_zero, List.getElem_cons_succ] at q1 q2 q3
              subst q1 q2 q3
              refine wp_value (w' := w) (by rw [he]; exact hC.X g xk hX w p q r b1 b2 b3) ((h.put hd ?_).nxt hk2)
              refine .tup rfl (fun j hj hj' => ?_)
              match j, hj with
              | 0, _ => exact .val _
              | 1, _ => exact .val _
        | none =>
          rw [hX] at hk
          obtain ⟨r, hr, hfr, hk⟩ := hk
          have hc2 := h.callW hC' hG hd hs hX hgb hr hfr hk
          unfold Oper.wp
          rw [he, hr.ent]
          refine hc2.mono ?_
          rintro e w' ⟨v, rfl, hn⟩
          exact hn
      cases hr with
      | val =>
        cases fw with
        | func fn fi ca =>
          cases fn with
          | func g =>
            obtain ⟨hf1, hf2, hk2⟩ := hk
            subst hf1 hf2
            refine fin g avs ow _ hseen ?_ hk2
            simp [execOp, ho, resolve, hc, hx, Deferred.ofValue, invoke]
            congr 1
            apply Array.ext'
            simp
          | _ => exact hk.elim
        | _ => exact hk.elim
      | @clo g cells arr hs hr =>
        obtain ⟨cs, ow', hk, hseen2⟩ := h.caps cells arr.toList (by simpa using hs.symm) (fun j hj hj' => by rw [Array.getElem_toList]; exact hr j hj (by simpa using hj')) hk
        refine fin g _ _ _ (hseen.append hseen2) ?_ hk
        simp [execOp, ho, resolve, hc, hx, Deferred.ofValue, invoke]
        congr 1
        apply Array.ext'
        simp
      | _ => exact hk.elim
    | builtin b =>
      rw [hc] at hk
      obtain ⟨avs, hk, hl, hr⟩ := h.evL c.args.toList hk
      have := h.blt hC' hd (ts := c.argTypes) (cs := c.args.map fun | .const _ => true | _ => false) (vals := (c.args.map a.eval).toList) (by simpa using hl) (fun j hj hj' => by
        have := hr j hj (by rw [← hl]; exact hj)
        simp only [Array.toList_map, List.getElem_map]
        exact this) hk
      obtain ⟨v, w', h1, h2⟩ := this
      refine wp_value (w' := w') (v := v) ?_ h2
      simp only [execOp, ho, resolve, hc, Sem.run_bind, Sem.run_pure, Result.andThen_ok, invoke]
      rw [Array.toArray_toList] at h1
      exact h1
    | invoke r m => rw [hc] at hk; exact hk.elim
  | _ => simp only [opW, ho] at hk
end Go.Rk

namespace Go.Rk
open Go.RowKit
variable {C : Ctx} {w0 w w' : World} {N : Nat} {E : Env} {σ : St} {a : Act}
/-- The slot of a guard, and a test's way, as the way knows them. -/
def guardW (σ : St) (all : Array Oper) (g : Nat) (K : Nat → Bool → Prop) : Prop :=
  onO ((all[g]?).bind (·.dst)) fun d => onO (look d σ.slots) fun av => match av with
    | .val (.bool t) => K d t
    | _ => False
def opsW (C : Ctx) (all : Array Oper) : List Oper → St → (St → Prop) → Prop
  | [], σ, K => K σ
  | o :: l, σ, K => match o.guard with
    | none => opW C o σ fun σ' => opsW C all l σ' K
    | some (g, u) => guardW σ all g fun d t =>
      (t = u → opW C o (σ.put (some d) (.val (.bool u))) fun σ' => opsW C all l σ' K) ∧
      (t = !u → opsW C all l ((σ.put (some d) (.val (.bool (!u)))).put o.dst (.val undef)) K)
def onlyNormal (K : St → Prop) : Exit → St → Prop
  | .normal, σ => K σ
  | _, _ => False
/-- σ' says no more than σ. -/
def Incl (σ σ' : St) : Prop := ∀ (w0 : World) (N : Nat) (E : Env) (a : Act) (w : World), Rel w0 N E σ a w → ∃ E', Rel w0 N E' σ' a w ∧ E'.B = E.B ∧ E'.S = E.S ∧ E'.gb = E.gb
inductive AEx where
  | normal
  | exit (id : Nat)
  | ret
def St.know (σ : St) : Operand → Bool → St
  | .tmp t, b => σ.put (some t) (.val (.bool b))
  | _, _ => σ
/-- All destinations are slots of the frame. -/
def opsFit (N : Nat) (ops : Array Oper) : Bool := ops.all fun o => match o.dst with
  | some d => decide (d < N)
  | none => true
def Lft (w0 : World) (N : Nat) (E : Env) (Q : AEx → St → Prop) : Exit → Act → World → Prop
  | .normal, a, w => Nxt w0 N E (Q .normal) a w
  | .exit id, a, w => Nxt w0 N E (Q (.exit id)) a w
  | .ret, a, w => Nxt w0 N E (Q .ret) a w
  | _, _, _ => False
theorem Nxt.base {E E' : Env} {K : St → Prop} (hB : E'.B = E.B) (hS : E'.S = E.S) (hg : E'.gb = E.gb) (h : Nxt w0 N E' K a w) : Nxt w0 N E K a w := by
  obtain ⟨E2, σ2, h1, h2, h3, h4, h5⟩ := h
  exact ⟨E2, σ2, h1, h2, h3.trans hB, h4.trans hS, h5.trans hg⟩
/-- A slot's value is known better. -/
theorem Rel.know (h : Rel w0 N E σ a w) {d : Nat} {b : Bool} (hd : look d σ.slots = some (.val (.bool b))) : Rel w0 N E (σ.put (some d) (.val (.bool b))) a w := by
  refine ⟨h.size, h.defers, h.below, h.base, h.al, h.glob, fun t av ht => ?_, h.boxes, h.rows, h.bb, h.br, h.rr⟩
  simp only [St.put, look_cons] at ht
  by_cases e : t = d
  · subst e
    rw [if_pos rfl] at ht
    exact h.slots t av (hd.trans ht)
  · rw [if_neg e] at ht
    exact h.slots t av ht
theorem guardW_some {all : Array Oper} {g : Nat} {K : Nat → Bool → Prop} (h : guardW σ all g K) : ∃ og d t, all[g]? = some og ∧ og.dst = some d ∧ look d σ.slots = some (.val (.bool t)) ∧ K d t := by
  obtain ⟨d, hd, h⟩ := onO_some h
  obtain ⟨av, hav, h⟩ := onO_some h
  cases ho : all[g]? with
  | none => rw [ho] at hd; cases hd
  | some og =>
    rw [ho] at hd
    cases av with
    | val v =>
      cases v with
      | bool t => exact ⟨og, d, t, rfl, hd, hav, h⟩
      | _ => exact h.elim
    | _ => exact h.elim
theorem yielded_of (h : Rel w0 N E σ a w) {all : Array Oper} {g d : Nat} {t : Bool} {og : Oper} (ho : all[g]? = some og) (hd : og.dst = some d) (hl : look d σ.slots = some (.val (.bool t))) : yielded all a.tmps g = some t := by
  obtain ⟨v, hv, hr⟩ := h.slots d _ hl
  have e := hr.val_eq
  subst e
  simp [yielded, ho, hd, hv]
theorem opsW_sound (hC : C.Okx) (hG : C.G w0) (hEg : E.gb = C.gb) {ops : Array Oper} (hfit : opsFit N ops = true) {K : St → Prop} {Q : Exit → Act → World → Prop} (hQ : ∀ a w, Nxt w0 N E K a w → Q .normal a w) :
    ∀ (k i : Nat), i + k = ops.size → ∀ {E1 : Env} {σ : St} {a : Act} {w : World}, E1.B = E.B → E1.S = E.S → E1.gb = E.gb → Rel w0 N E1 σ a w → opsW C ops (ops.toList.drop i) σ K → wpOps C.P ops Q ((List.range ops.size).drop i) a w
  | 0, i, hik, E1, σ, a, w, hB, hS, hg1, h, hk => by
    have hi : i = ops.size := by omega
    subst hi
    rw [List.drop_of_length_le (by simp)] at hk
    rw [List.drop_of_length_le (by simp)]
    exact hQ a w ((h.nxt hk).base hB hS hg1)
  | k + 1, i, hik, E1, σ, a, w, hB, hS, hg1, h, hk => by
    have hlt : i < ops.size := by omega
    have e1 : ops.toList.drop i = ops[i] :: ops.toList.drop (i + 1) := by
      rw [← List.getElem_cons_drop (h := by simpa using hlt)]
      simp
    have e2 : (List.range ops.size).drop i = i :: (List.range ops.size).drop (i + 1) := by
      rw [← List.getElem_cons_drop (h := by simpa using hlt)]
      simp
    rw [e1] at hk
    rw [e2]
    simp only [wpOps, Array.getElem?_eq_getElem hlt]
    have hd : ∀ d, (ops[i]).dst = some d → d < N := by
      intro d hd
      have := Array.all_eq_true.1 hfit i hlt
      rw [hd] at this
      simpa using this
    have go : ∀ {σ1 : St}, Rel w0 N E1 σ1 a w → opW C ops[i] σ1 (fun σ' => opsW C ops (ops.toList.drop (i + 1)) σ' K) → Oper.wp C.P ops[i] a w (wpOps C.P ops Q ((List.range ops.size).drop (i + 1))) Q := by
      intro σ1 h1 hk1
      refine Oper.wp_mono ?_ (opW_sound hC hG (hg1.trans hEg) h1 hd hk1)
      rintro a' w' ⟨E2, σ2, hk2, h2, hB2, hS2, hg2⟩
      exact opsW_sound hC hG hEg hfit hQ k (i + 1) (by omega) (hB2.trans hB) (hS2.trans hS) (hg2.trans hg1) h2 hk2
    simp only [opsW] at hk
    cases hg : (ops[i]).guard with
    | none =>
      rw [hg] at hk
      have hw : Region.wanted ops[i] (yielded ops a.tmps) = true := by simp [Region.wanted, hg]
      rw [if_pos hw]
      exact .inl (go h hk)
    | some p =>
      obtain ⟨g, u⟩ := p
      rw [hg] at hk
      obtain ⟨og, d, t, ho, hdd, hl, hk⟩ := guardW_some hk
      have hy := yielded_of h ho hdd hl
      by_cases htu : t = u
      · subst htu
        have hw : Region.wanted ops[i] (yielded ops a.tmps) = true := by simp [Region.wanted, hg, hy]
        rw [if_pos hw]
        exact .inl (go (h.know hl) (hk.1 rfl))
      · have htu' : t = !u := by cases t <;> cases u <;> simp_all
        have hw : ¬ Region.wanted ops[i] (yielded ops a.tmps) = true := by simp [Region.wanted, hg, hy, htu]
        rw [if_neg hw]
        subst htu'
        exact opsW_sound hC hG hEg hfit hQ k (i + 1) (by omega) hB hS hg1 ((h.know hl).put hd (.val _)) (hk.2 rfl)
end Go.Rk

set_option linter.unusedSimpArgs false
namespace Go.Rk
open Go.RowKit
/-! What an operation comes to is one state, and it hangs on the slots that it looks at and on the memory that it reads. -/
def Ex {α : Type} (P : St → St → Prop) (F : St → (α → Prop) → Prop) : Prop := ∀ σ K, F σ K → ∃ y, K y ∧ ∀ σ', P σ σ' → ∀ K' : α → Prop, K' y → F σ' K'
def Ex2 {α β : Type} (P : St → St → Prop) (F : St → (α → β → Prop) → Prop) : Prop := ∀ σ K, F σ K → ∃ x y, K x y ∧ ∀ σ', P σ σ' → ∀ K' : α → β → Prop, K' x y → F σ' K'
/-- All that lies in σ lies in σ' too. -/
structure Mle (σ σ' : St) : Prop where
  b : ∀ d bx, look d σ.boxes = some bx → look d σ'.boxes = some bx
  r : ∀ d r, look d σ.rows = some (some r) → look d σ'.rows = some (some r)
def Rle (σ σ' : St) : Prop := ∀ d r, look d σ.rows = some (some r) → look d σ'.rows = some (some r)
section
variable {α β : Type} {P : St → St → Prop} {C : Ctx} {o : Oper}
theorem onO_of {x : Option α} {a : α} (h : x = some a) {K : α → Prop} (hk : K a) : onO x K := by rw [h]; exact hk
theorem Ex.onI (av : AV) : Ex2 P (fun _ K => Go.Rk.onI av K) := by
  intro σ K hk
  cases av with
  | val v =>
    cases v with
    | int k n => exact ⟨k, n, hk, fun _ _ _ h => h⟩
    | _ => exact hk.elim
  | _ => exact hk.elim
theorem Ex.intW (op : BinOp) (k : IntKind) (a b : Int) : Ex P (fun _ => Go.Rk.intW op k a b) := by
  intro σ K hk
  cases op <;> simp only [Go.Rk.intW] at hk ⊢ <;> first | exact ⟨_, hk, fun _ _ _ h => h⟩ | exact ⟨_, hk.2, fun _ _ _ h => ⟨hk.1, h⟩⟩ | exact hk.elim
theorem Ex.binW (op : BinOp) (x y : Value) : Ex P (fun _ => Go.Rk.binW op x y) := by
  intro σ K hk
  unfold Go.Rk.binW at hk ⊢
  split at hk
  · exact ⟨_, hk.2, fun _ _ _ h => ⟨hk.1, h⟩⟩
  · exact ⟨_, hk.2, fun _ _ _ h => ⟨hk.1, h⟩⟩
  · obtain ⟨z, h1, h2⟩ := Ex.intW (P := P) _ _ _ _ σ K hk.2
    exact ⟨z, h1, fun σ' hP K' h => ⟨hk.1, h2 σ' hP K' h⟩⟩
  · exact ⟨_, hk, fun _ _ _ h => h⟩
  · exact ⟨_, hk, fun _ _ _ h => h⟩
  · exact hk.elim
theorem Ex.fldW (t : TypeId) (j : Nat) : Ex2 P (fun _ => Go.Rk.fldW C t j) := by
  intro σ K hk
  obtain ⟨ti, h1, hk⟩ := onO_some hk
  have key : ∀ K' : Nat → TI → Prop, Go.Rk.fldW C t j K' = (match ti.k with
    | .struct fs => onO (fs[j]?) fun f => onO (C.T f.2) fun fi => K' f.1 fi
    | _ => False) := fun K' => by unfold Go.Rk.fldW; rw [h1]; rfl
  cases e : ti.k with
  | struct fs =>
    rw [e] at hk
    obtain ⟨f, h2, hk⟩ := onO_some hk
    obtain ⟨fi, h3, hk⟩ := onO_some hk
    refine ⟨f.1, fi, hk, fun _ _ K' h => ?_⟩
    show Go.Rk.fldW C t j K'
    rw [key, e]
    exact onO_of h2 (onO_of h3 h)
  | _ => rw [e] at hk; exact hk.elim
theorem Ex.fadW (t : TypeId) (x : AV) (j : Nat) : Ex P (fun _ => Go.Rk.fadW C t x j) := by
  intro σ K hk
  obtain ⟨off, fi, ⟨h0, h1⟩, h2⟩ := Ex.fldW (P := P) (C := C) t j σ _ hk
  cases x with
  | ptr d q => exact ⟨_, h1, fun σ' hP K' h => h2 σ' hP _ ⟨h0, h⟩⟩
  | addr d q => exact ⟨_, h1, fun σ' hP K' h => h2 σ' hP _ ⟨h0, h⟩⟩
  | radd fr cs q => exact ⟨_, h1, fun σ' hP K' h => h2 σ' hP _ ⟨h0, h⟩⟩
  | _ => exact h1.elim
theorem Ex.partW (t : TypeId) (x : AV) (j : Nat) : Ex P (fun _ => Go.Rk.partW C t x j) := by
  intro σ K hk
  obtain ⟨off, fi, h1, h2⟩ := Ex.fldW (P := P) (C := C) t j σ _ hk
  cases x with
  | agg cells =>
    simp only at h1
    cases e : fi.k.isAgg with
    | true =>
      rw [e] at h1
      exact ⟨_, h1.2, fun σ' hP K' h => h2 σ' hP _ (by simp only [e]; exact ⟨h1.1, h⟩)⟩
    | false =>
      rw [e] at h1
      obtain ⟨c, h3, h4⟩ := onO_some h1
      exact ⟨c, h4, fun σ' hP K' h => h2 σ' hP _ (by simp only [e]; exact onO_of h3 h)⟩
  | _ => exact h1.elim
theorem Ex.loadW (t : TypeId) (cells : List AV) (off : Nat) : Ex P (fun _ => Go.Rk.loadW C t cells off) := by
  intro σ K hk
  obtain ⟨i, h1, hk⟩ := onO_some hk
  cases e : i.k.isAgg with
  | true =>
    rw [e] at hk
    exact ⟨_, hk.2, fun σ' hP K' h => onO_of h1 (by simp only [e]; exact ⟨hk.1, h⟩)⟩
  | false =>
    rw [e] at hk
    obtain ⟨c, h3, h4⟩ := onO_some hk
    exact ⟨c, h4, fun σ' hP K' h => onO_of h1 (by simp only [e]; exact onO_of h3 h)⟩
theorem Ex.rowW (hP : ∀ σ σ', P σ σ' → Rle σ σ') (av : AV) : Ex2 P (fun σ => Go.Rk.rowW σ av) := by
  intro σ K hk
  cases av with
  | val v =>
    unfold Go.Rk.rowW at hk ⊢
    split at hk <;> first | exact hk.elim | exact ⟨_, _, hk, fun _ _ _ h => h⟩ | (rename_i h; cases h)
  | row fr n cells => exact ⟨n, cells, hk, fun _ _ _ h => h⟩
  | own d =>
    simp only [Go.Rk.rowW] at hk ⊢
    split at hk
    · rename_i r hr
      exact ⟨_, _, hk, fun σ' hp K' h => by rw [hP σ σ' hp d r hr]; exact h⟩
    · exact hk.elim
  | sub d off n =>
    simp only [Go.Rk.rowW] at hk ⊢
    split at hk
    · rename_i r hr
      exact ⟨_, _, hk.2, fun σ' hp K' h => by rw [hP σ σ' hp d r hr]; exact ⟨hk.1, h⟩⟩
    · exact hk.elim
  | _ => exact hk.elim
theorem Ex.ldW (hP : ∀ σ σ', P σ σ' → Mle σ σ') (t : TypeId) (p : AV) : Ex P (fun σ => Go.Rk.ldW C σ t p) := by
  intro σ K hk
  cases p with
  | ptr d off =>
    obtain ⟨bx, h1, hk⟩ := onO_some hk
    obtain ⟨y, h2, h3⟩ := Ex.loadW (P := P) t bx.cells off σ K hk
    exact ⟨y, h2, fun σ' hp K' h => onO_of ((hP σ σ' hp).b d bx h1) (h3 σ' hp K' h)⟩
  | radd fr cells off => exact Ex.loadW t cells off σ K hk
  | addr d off =>
    simp only [Go.Rk.ldW] at hk ⊢
    split at hk
    · rename_i r hr
      obtain ⟨y, h2, h3⟩ := Ex.loadW (P := P) t r.cells off σ K hk
      exact ⟨y, h2, fun σ' hp K' h => by rw [(hP σ σ' hp).r d r hr]; exact h3 σ' hp K' h⟩
    · exact hk.elim
  | _ => exact hk.elim
/-- A load from a variable hangs on that variable alone. -/
theorem Ex.ldB {t : TypeId} {d off : Nat} (hP : ∀ σ σ', P σ σ' → look d σ'.boxes = look d σ.boxes) : Ex P (fun σ => Go.Rk.ldW C σ t (.ptr d off)) := by
  intro σ K hk
  obtain ⟨bx, h1, hk⟩ := onO_some hk
  obtain ⟨y, h2, h3⟩ := Ex.loadW (P := P) t bx.cells off σ K hk
  exact ⟨y, h2, fun σ' hp K' h => onO_of ((hP σ σ' hp).trans h1) (h3 σ' hp K' h)⟩
theorem Ex.idxW (hP : ∀ σ σ', P σ σ' → Rle σ σ') (t : TypeId) (x : AV) (i : Int) : Ex P (fun σ => Go.Rk.idxW C σ t x i) := by
  intro σ K hk
  unfold Go.Rk.idxW at hk ⊢
  obtain ⟨ti, h1, hk⟩ := onO_some hk
  simp only [h1, onO]
  cases e : ti.k with
  | slice el =>
    rw [e] at hk
    obtain ⟨ei, h2, hk⟩ := onO_some hk
    simp only [h2, onO]
    cases x with
    | row fr n cells => exact ⟨_, hk.2.2.2, fun _ _ _ h => ⟨hk.1, hk.2.1, hk.2.2.1, h⟩⟩
    | own d =>
      simp only at hk ⊢
      split at hk
      · rename_i r hr
        exact ⟨_, hk.2.2.2, fun σ' hp K' h => by rw [hP σ σ' hp d r hr]; exact ⟨hk.1, hk.2.1, hk.2.2.1, h⟩⟩
      · exact hk.elim
    | sub d off n =>
      simp only at hk ⊢
      split at hk
      · rename_i r hr
        exact ⟨_, hk.2.2.2, fun σ' hp K' h => by rw [hP σ σ' hp d r hr]; exact ⟨hk.1, hk.2.1, hk.2.2.1, h⟩⟩
      · exact hk.elim
    | _ => exact hk.elim
  | arr n el =>
    rw [e] at hk
    obtain ⟨ei, h2, hk⟩ := onO_some hk
    simp only [h2, onO]
    cases x <;> first | exact ⟨_, hk.2.2, fun _ _ _ h => ⟨hk.1, hk.2.1, h⟩⟩ | exact hk.elim
  | _ => rw [e] at hk; exact hk.elim
theorem Ex.bndW {x : Option Operand} (hx : ∀ σ σ', P σ σ' → ∀ y, x = some y → σ'.ev y = σ.ev y) (d : Nat) : Ex P (fun σ => Go.Rk.bndW σ x d) := by
  intro σ K hk
  cases x with
  | none => exact ⟨d, hk, fun _ _ _ h => h⟩
  | some y =>
    obtain ⟨av, h1, hk⟩ := onO_some hk
    obtain ⟨k, n, ⟨h3, h4⟩, h5⟩ := Ex.onI (P := P) av σ _ hk
    exact ⟨_, h4, fun σ' hp K' h => onO_of ((hx σ σ' hp y rfl).trans h1) (h5 σ' hp _ ⟨h3, h⟩)⟩
theorem Ex.cutW (hP : ∀ σ σ', P σ σ' → Rle σ σ') {lo hi mx : Option Operand} (h1 : ∀ σ σ', P σ σ' → ∀ y, lo = some y → σ'.ev y = σ.ev y)
    (h2 : ∀ σ σ', P σ σ' → ∀ y, hi = some y → σ'.ev y = σ.ev y) (h3 : ∀ σ σ', P σ σ' → ∀ y, mx = some y → σ'.ev y = σ.ev y) (t : TypeId) (x : AV) : Ex P (fun σ => Go.Rk.cutW C σ t x lo hi mx) := by
  intro σ K hk
  unfold Go.Rk.cutW at hk ⊢
  obtain ⟨ti, e1, hk⟩ := onO_some hk
  simp only [e1, onO]
  cases e : ti.k with
  | slice el =>
    rw [e] at hk
    obtain ⟨ei, e2, hk⟩ := onO_some hk
    simp only [e2, onO]
    cases x with
    | row fr n cells =>
      obtain ⟨h, hk, c1⟩ := Ex.bndW h2 n σ _ hk
      obtain ⟨m, hk, c2⟩ := Ex.bndW h3 n σ _ hk
      obtain ⟨l, hk, c3⟩ := Ex.bndW h1 0 σ _ hk
      obtain ⟨a1, a2, a3, a4, hk⟩ := hk
      exact ⟨_, hk, fun σ' hp K' hK => c1 σ' hp _ (c2 σ' hp _ (c3 σ' hp _ ⟨a1, a2, a3, a4, hK⟩))⟩
    | own d =>
      simp only at hk ⊢
      split at hk
      · rename_i r hr
        obtain ⟨h, hk, c1⟩ := Ex.bndW h2 r.n σ _ hk
        obtain ⟨l, hk, c3⟩ := Ex.bndW h1 0 σ _ hk
        obtain ⟨a1, a2, a3, a4, hk⟩ := hk
        exact ⟨_, hk, fun σ' hp K' hK => by rw [hP σ σ' hp d r hr]; exact c1 σ' hp _ (c3 σ' hp _ ⟨a1, a2, a3, a4, hK⟩)⟩
      · exact hk.elim
    | sub d off n =>
      simp only at hk ⊢
      split at hk
      · rename_i r hr
        obtain ⟨h, hk, c1⟩ := Ex.bndW h2 n σ _ hk
        obtain ⟨l, hk, c3⟩ := Ex.bndW h1 0 σ _ hk
        obtain ⟨a1, a2, a3, a4, hk⟩ := hk
        exact ⟨_, hk, fun σ' hp K' hK => by rw [hP σ σ' hp d r hr]; exact c1 σ' hp _ (c3 σ' hp _ ⟨a1, a2, a3, a4, hK⟩)⟩
      · exact hk.elim
    | val v =>
      simp only at hk ⊢
      split at hk
      · rename_i h; cases h
      · rename_i h; cases h
      · rename_i h; cases h
      · obtain ⟨h, hk, c1⟩ := Ex.bndW h2 0 σ _ hk
        obtain ⟨m, hk, c2⟩ := Ex.bndW h3 0 σ _ hk
        obtain ⟨l, hk, c3⟩ := Ex.bndW h1 0 σ _ hk
        obtain ⟨a1, a2, a3, a4, hk⟩ := hk
        exact ⟨_, hk, fun σ' hp K' hK => c1 σ' hp _ (c2 σ' hp _ (c3 σ' hp _ ⟨a1, a2, a3, a4, hK⟩))⟩
      · exact hk.elim
    | _ => exact hk.elim
  | _ => rw [e] at hk; exact hk.elim
theorem Ex.cvtW (hP : ∀ σ σ', P σ σ' → Mle σ σ') (av : AV) : Ex2 P (fun σ => Go.Rk.cvtW σ av) := by
  intro σ K hk
  cases av with
  | own d =>
    simp only [Go.Rk.cvtW] at hk ⊢
    split at hk
    · rename_i r hr
      exact ⟨_, _, hk.2, fun σ' hp K' h => by rw [(hP σ σ' hp).r d r hr]; exact ⟨hk.1, h⟩⟩
    · exact hk.elim
  | sub d off n =>
    simp only [Go.Rk.cvtW] at hk ⊢
    split at hk
    · rename_i r hr
      exact ⟨_, _, hk.2.2, fun σ' hp K' h => by rw [(hP σ σ' hp).r d r hr]; exact ⟨hk.1, hk.2.1, h⟩⟩
    · exact hk.elim
  | ptr d off =>
    obtain ⟨bx, h1, hk⟩ := onO_some hk
    exact ⟨_, _, hk.2, fun σ' hp K' h => onO_of ((hP σ σ' hp).b d bx h1) ⟨hk.1, h⟩⟩
  | _ => exact ⟨_, _, hk.2, fun σ' hp K' h => ⟨hk.1, h⟩⟩
theorem Ex.capsW (hP : ∀ σ σ', P σ σ' → Mle σ σ') : ∀ l : List AV, Ex2 P (fun σ => Go.Rk.capsW σ l)
  | [] => fun σ K hk => ⟨[], false, hk, fun _ _ _ h => h⟩
  | av :: l => fun σ K hk => by
    obtain ⟨x, b, hk, c1⟩ := Ex.cvtW hP av σ _ hk
    obtain ⟨xs, bs, hk, c2⟩ := Ex.capsW hP l σ _ hk
    exact ⟨_, _, hk, fun σ' hp K' h => c1 σ' hp _ (c2 σ' hp _ h)⟩
theorem Ex.argsW (hP : ∀ σ σ', P σ σ' → Mle σ σ') : ∀ l : List Operand, (∀ σ σ', P σ σ' → ∀ x ∈ l, σ'.ev x = σ.ev x) → Ex2 P (fun σ => Go.Rk.argsW σ l)
  | [], _ => fun σ K hk => ⟨[], false, hk, fun _ _ _ h => h⟩
  | x :: l, hl => fun σ K hk => by
    obtain ⟨av, h1, hk⟩ := onO_some hk
    obtain ⟨y, b, hk, c1⟩ := Ex.cvtW hP av σ _ hk
    obtain ⟨xs, bs, hk, c2⟩ := Ex.argsW hP l (fun σ σ' hp y hy => hl σ σ' hp y (by simp [hy])) σ _ hk
    exact ⟨_, _, hk, fun σ' hp K' h => onO_of ((hl σ σ' hp x (by simp)).trans h1) (c1 σ' hp _ (c2 σ' hp _ h))⟩
theorem Ex.evL : ∀ l : List Operand, (∀ σ σ', P σ σ' → ∀ x ∈ l, σ'.ev x = σ.ev x) → Ex P (fun σ => Go.Rk.evL σ l)
  | [], _ => fun σ K hk => ⟨[], hk, fun _ _ _ h => h⟩
  | x :: l, hl => fun σ K hk => by
    obtain ⟨av, h1, hk⟩ := onO_some hk
    obtain ⟨xs, hk, c2⟩ := Ex.evL l (fun σ σ' hp y hy => hl σ σ' hp y (by simp [hy])) σ _ hk
    exact ⟨_, hk, fun σ' hp K' h => onO_of ((hl σ σ' hp x (by simp)).trans h1) (c2 σ' hp _ h)⟩
theorem Ex.callW (f : FuncId) (args : List AV) (ow : Bool) : Ex P (fun _ => Go.Rk.callW C f args ow) := by
  intro σ K hk
  unfold Go.Rk.callW at hk ⊢
  cases e : C.X f with
  | none =>
    rw [e] at hk
    obtain ⟨r, h1, h2, h3⟩ := hk
    exact ⟨r, h3, fun _ _ _ h => ⟨r, h1, h2, h⟩⟩
  | some x =>
    rw [e] at hk
    simp only [xW] at hk ⊢
    split at hk
    · exact ⟨_, hk.2.2.2, fun _ _ _ h => ⟨hk.1, hk.2.1, hk.2.2.1, h⟩⟩
    · exact hk.elim
theorem Ex.foldI {P : St → St → Prop} (f : Int → Int → Int) (k : IntKind) : ∀ (l : List AV) (acc : Int), Ex P (fun _ => Go.Rk.foldI f k acc l)
  | [], acc => fun σ K hk => ⟨acc, hk, fun _ _ _ h => h⟩
  | av :: l, acc => fun σ K hk => by
    obtain ⟨k', n, ⟨h1, hk⟩, c1⟩ := Ex.onI (P := P) av σ _ hk
    obtain ⟨r, hk, c2⟩ := Ex.foldI f k l _ σ K hk
    exact ⟨r, hk, fun σ' hp K' h => c1 σ' hp _ ⟨h1, c2 σ' hp _ h⟩⟩
end
end Go.Rk

namespace Go.Rk
open Go.RowKit
def ExO (P : St → St → Prop) (C : Ctx) (o : Oper) : Prop := ∀ σ K, opW C o σ K → ∃ av, K (σ.put o.dst av) ∧ ∀ σ', P σ σ' → ∀ K' : St → Prop, K' (σ'.put o.dst av) → opW C o σ' K'
theorem ExO.weak {P P' : St → St → Prop} {C : Ctx} {o : Oper} (hP : ∀ σ σ', P' σ σ' → P σ σ') (h : ExO P C o) : ExO P' C o := by
  intro σ K hk
  obtain ⟨y, h1, h2⟩ := h σ K hk
  exact ⟨y, h1, fun σ' hp => h2 σ' (hP _ _ hp)⟩
def isPure : Op → Bool
  | .move _ | .assign _ | .pick _ _ _ | .nilCheck _ | .binOp _ _ _ _ _ | .unOp _ _ _ | .convert _ _ _ | .makeFunc _ _ _ | .fieldAddr _ _ _ | .field _ _ _ | .extract _ _ | .index _ _ _ => true
  | _ => false
/-- Reads memory, and leaves it as it is. -/
def isMem : Op → Bool
  | .load _ _ | .slice _ _ _ _ _ | .indexAddr _ _ _ => true
  | .call c => match c.callee with
    | .value _ => true
    | .builtin .append => false
    | .builtin _ => true
    | _ => false
  | _ => false
def EvA (o : Oper) (σ σ' : St) : Prop := ∀ x ∈ o.op.operands, σ'.ev x = σ.ev x
section
variable {P : St → St → Prop} {C : Ctx} {o : Oper}
theorem pure_ex (hp : isPure o.op = true) : ExO (EvA o) C o := by
  intro σ K hk
  have go : ∀ σ', EvA o σ σ' → ∀ x ∈ o.op.operands, ∀ av, σ.ev x = some av → σ'.ev x = some av := fun σ' h x hx av e => (h x hx).trans e
  cases ho : o.op <;> rw [ho] at hp <;> simp only [isPure, Bool.false_eq_true] at hp <;> simp only [opW, ho] at hk ⊢ <;> simp only [ho, Op.operands] at go
  case move x =>
    obtain ⟨av, h1, hk⟩ := onO_some hk
    exact ⟨_, hk, fun σ' h K' hK => onO_of (go σ' h x (by simp) av h1) hK⟩
  case assign x =>
    obtain ⟨av, h1, hk⟩ := onO_some hk
    exact ⟨_, hk, fun σ' h K' hK => onO_of (go σ' h x (by simp) av h1) hK⟩
  case pick c x y =>
    obtain ⟨cv, h1, hk⟩ := onO_some hk
    cases cv with
    | val v =>
      cases v with
      | bool t =>
        cases t with
        | true =>
          obtain ⟨av, h2, h3⟩ := onO_some (hk.1 rfl)
          exact ⟨av, h3, fun σ' h K' hK => onO_of (go σ' h c (by simp) _ h1) ⟨fun _ => onO_of (go σ' h x (by simp) _ h2) hK, fun e => by cases e⟩⟩
        | false =>
          obtain ⟨av, h2, h3⟩ := onO_some (hk.2 rfl)
          exact ⟨av, h3, fun σ' h K' hK => onO_of (go σ' h c (by simp) _ h1) ⟨fun e => (by cases e), fun _ => onO_of (go σ' h y (by simp) _ h2) hK⟩⟩
      | _ => exact hk.elim
    | _ => exact hk.elim
  case nilCheck x =>
    obtain ⟨av, h1, hk⟩ := onO_some hk
    have fin : ∀ (F : (St → Prop) → St → Prop), True := fun _ => trivial
    cases av with
    | ptr d off => exact ⟨_, hk, fun σ' h K' hK => onO_of (go σ' h x (by simp) _ h1) hK⟩
    | addr d off => exact ⟨_, hk, fun σ' h K' hK => onO_of (go σ' h x (by simp) _ h1) hK⟩
    | radd fr cs off => exact ⟨_, hk, fun σ' h K' hK => onO_of (go σ' h x (by simp) _ h1) hK⟩
    | clo f cs => exact ⟨_, hk, fun σ' h K' hK => onO_of (go σ' h x (by simp) _ h1) hK⟩
    | val v =>
      cases v with
      | func f a b =>
        cases f with
        | func g => exact ⟨_, hk, fun σ' h K' hK => onO_of (go σ' h x (by simp) _ h1) hK⟩
        | _ => exact hk.elim
      | _ => exact hk.elim
    | _ => exact hk.elim
  case binOp op t x y _ =>
    obtain ⟨xv, h1, hk⟩ := onO_some hk
    obtain ⟨yv, h2, hk⟩ := onO_some hk
    cases xv with
    | val a =>
      cases yv with
      | val b =>
        obtain ⟨hb, hk⟩ := hk
        obtain ⟨v, h3, h4⟩ := Ex.binW (P := EvA o) op a b σ _ hk
        exact ⟨.val v, h3, fun σ' h K' hK => onO_of (go σ' h x (by simp) _ h1) (onO_of (go σ' h y (by simp) _ h2) ⟨hb, h4 σ' h (fun v => K' (σ'.put o.dst (.val v))) hK⟩)⟩
      | _ => exact hk.elim
    | _ => exact hk.elim
  case unOp op t x =>
    obtain ⟨xv, h1, hk⟩ := onO_some hk
    split at hk
    · exact ⟨_, hk, fun σ' h K' hK => onO_of (go σ' h x (by simp) _ h1) hK⟩
    · exact ⟨_, hk, fun σ' h K' hK => onO_of (go σ' h x (by simp) _ h1) hK⟩
    · exact ⟨_, hk, fun σ' h K' hK => onO_of (go σ' h x (by simp) _ h1) hK⟩
    · exact hk.elim
  case convert st dt x =>
    obtain ⟨i1, h1, hk⟩ := onO_some hk
    obtain ⟨xv, h2, hk⟩ := onO_some hk
    obtain ⟨k, n, hk, h3⟩ := Ex.onI (P := EvA o) xv σ _ hk
    obtain ⟨i, h4, hk⟩ := onO_some hk
    cases e : i.k with
    | int k' =>
      rw [e] at hk
      exact ⟨_, hk, fun σ' h K' hK => onO_of h1 (onO_of (go σ' h x (by simp) _ h2) (h3 σ' h _ (onO_of h4 (by rw [e]; exact hK))))⟩
    | _ => rw [e] at hk; exact hk.elim
  case makeFunc f first caps =>
    cases f with
    | func f =>
      obtain ⟨h0, hk⟩ := hk
      obtain ⟨cs, hk, h1⟩ := Ex.evL (P := EvA o) caps.toList (fun σ σ' h x hx => h x (by rw [ho]; simp only [Op.operands]; simp at hx ⊢; exact Or.inr hx)) σ _ hk
      exact ⟨_, hk, fun σ' h K' hK => ⟨h0, h1 σ' h _ hK⟩⟩
    | _ => exact hk.elim
  case fieldAddr t x j =>
    obtain ⟨xv, h1, hk⟩ := onO_some hk
    obtain ⟨y, hk, h2⟩ := Ex.fadW (P := EvA o) t xv j σ _ hk
    exact ⟨y, hk, fun σ' h K' hK => onO_of (go σ' h x (by simp) _ h1) (h2 σ' h (fun y => K' (σ'.put o.dst y)) hK)⟩
  case field t x j =>
    obtain ⟨xv, h1, hk⟩ := onO_some hk
    obtain ⟨y, hk, h2⟩ := Ex.partW (P := EvA o) t xv j σ _ hk
    exact ⟨y, hk, fun σ' h K' hK => onO_of (go σ' h x (by simp) _ h1) (h2 σ' h (fun y => K' (σ'.put o.dst y)) hK)⟩
  case index t x i =>
    obtain ⟨ti, h0, hk⟩ := onO_some hk
    obtain ⟨xv, h1, hk⟩ := onO_some hk
    obtain ⟨iv, h2, hk⟩ := onO_some hk
    obtain ⟨k, n, hk, h3⟩ := Ex.onI (P := EvA o) iv σ _ hk
    cases e : ti.k with
    | str =>
      rw [e] at hk
      cases xv with
      | val v =>
        cases v with
        | string s =>
          obtain ⟨h4, hk⟩ := hk
          obtain ⟨b, h5, hk⟩ := onO_some hk
          exact ⟨_, hk, fun σ' h K' hK => onO_of h0 (onO_of (go σ' h x (by simp) _ h1) (onO_of (go σ' h i (by simp) _ h2) (h3 σ' h _ (by rw [e]; exact ⟨h4, onO_of h5 hK⟩))))⟩
        | _ => exact hk.elim
      | _ => exact hk.elim
    | _ => rw [e] at hk; exact hk.elim
  case extract x j =>
    obtain ⟨xv, h1, hk⟩ := onO_some hk
    cases xv with
    | tup vs =>
      obtain ⟨av, h2, hk⟩ := onO_some hk
      exact ⟨_, hk, fun σ' h K' hK => onO_of (go σ' h x (by simp) _ h1) (onO_of h2 hK)⟩
    | _ => exact hk.elim
/-- Reads rows alone. -/
def isRowRd : Op → Bool
  | .slice _ _ _ _ _ | .indexAddr _ _ _ => true
  | .call c => match c.callee with
    | .builtin .append => false
    | .builtin _ => true
    | _ => false
  | _ => false
theorem rowrd_ex (hm : isRowRd o.op = true) : ExO (fun σ σ' => EvA o σ σ' ∧ Rle σ σ') C o := by
  intro σ K hk
  have go : ∀ σ', EvA o σ σ' → ∀ x ∈ o.op.operands, ∀ av, σ.ev x = some av → σ'.ev x = some av := fun σ' h x hx av e => (h x hx).trans e
  have hrl : ∀ σ σ', EvA o σ σ' ∧ Rle σ σ' → Rle σ σ' := fun _ _ h => h.2
  cases ho : o.op <;> rw [ho] at hm <;> simp only [isRowRd, Bool.false_eq_true] at hm <;> simp only [opW, ho] at hk ⊢ <;> simp only [ho, Op.operands] at go
  case slice t x lo hi mx =>
    obtain ⟨pv, h1, hk⟩ := onO_some hk
    have hx : ∀ q, (lo = some q ∨ hi = some q ∨ mx = some q) → ∀ σ σ', EvA o σ σ' ∧ Rle σ σ' → σ'.ev q = σ.ev q := fun q hq σ σ' h => h.1 q (by
      rw [ho]; simp only [Op.operands]
      rcases hq with rfl | rfl | rfl <;> simp)
    obtain ⟨y, hk, h2⟩ := Ex.cutW hrl (fun σ σ' h q e => hx q (.inl e) σ σ' h) (fun σ σ' h q e => hx q (.inr (.inl e)) σ σ' h) (fun σ σ' h q e => hx q (.inr (.inr e)) σ σ' h) t pv σ _ hk
    exact ⟨y, hk, fun σ' h K' hK => onO_of (go σ' h.1 x (by simp) _ h1) (h2 σ' h (fun y => K' (σ'.put o.dst y)) hK)⟩
  case indexAddr t x i =>
    obtain ⟨pv, h1, hk⟩ := onO_some hk
    obtain ⟨iv, h3, hk⟩ := onO_some hk
    obtain ⟨k, n, hk, h4⟩ := Ex.onI (P := fun σ σ' => EvA o σ σ' ∧ Rle σ σ') iv σ _ hk
    obtain ⟨y, hk, h2⟩ := Ex.idxW hrl t pv n σ _ hk
    exact ⟨y, hk, fun σ' h K' hK => onO_of (go σ' h.1 x (by simp) _ h1) (onO_of (go σ' h.1 i (by simp) _ h3) (h4 σ' h _ (h2 σ' h (fun y => K' (σ'.put o.dst y)) hK)))⟩
  case call c =>
    cases hc : c.callee with
    | value f => simp only [hc, Bool.false_eq_true] at hm
    | builtin b =>
      simp only [hc] at hk hm ⊢
      have hops : c.operands = c.args := by simp [Call.operands, hc]
      obtain ⟨args, hk, h2⟩ := Ex.evL (P := fun σ σ' => EvA o σ σ' ∧ Rle σ σ') c.args.toList (fun σ σ' h x hx => h.1 x (by rw [ho]; simp only [Op.operands]; rw [hops]; simpa using hx)) σ _ hk
      have key : ∃ av, K (σ.put o.dst av) ∧ ∀ σ', EvA o σ σ' ∧ Rle σ σ' → ∀ K' : St → Prop, K' (σ'.put o.dst av) → bltW C σ' o.dst b c.argTypes args K' := by
        unfold bltW at hk ⊢
        split at hk
        · obtain ⟨n, cs, ⟨h3, hk⟩, h4⟩ := Ex.rowW hrl _ σ _ hk
          exact ⟨_, hk, fun σ' h K' hK => h4 σ' h _ ⟨h3, hK⟩⟩
        · obtain ⟨k, n, hk, h4⟩ := Ex.onI (P := fun σ σ' => EvA o σ σ' ∧ Rle σ σ') _ σ _ hk
          obtain ⟨r, hk, h5⟩ := Ex.foldI (P := fun σ σ' => EvA o σ σ' ∧ Rle σ σ') _ _ _ _ σ _ hk
          exact ⟨_, hk, fun σ' h K' hK => h4 σ' h _ (h5 σ' h (fun r => K' (σ'.put o.dst (.val (.int k r)))) hK)⟩
        · obtain ⟨k, n, hk, h4⟩ := Ex.onI (P := fun σ σ' => EvA o σ σ' ∧ Rle σ σ') _ σ _ hk
          obtain ⟨r, hk, h5⟩ := Ex.foldI (P := fun σ σ' => EvA o σ σ' ∧ Rle σ σ') _ _ _ _ σ _ hk
          exact ⟨_, hk, fun σ' h K' hK => h4 σ' h _ (h5 σ' h (fun r => K' (σ'.put o.dst (.val (.int k r)))) hK)⟩
        · simp at hm
        · exact hk.elim
      obtain ⟨av, h3, h4⟩ := key
      exact ⟨av, h3, fun σ' h K' hK => h2 σ' h _ (h4 σ' h K' hK)⟩
    | invoke r m => simp only [hc] at hk
theorem mem_ex (hm : isMem o.op = true) : ExO (fun σ σ' => EvA o σ σ' ∧ Mle σ σ') C o := by
  by_cases hrr : isRowRd o.op = true
  · exact (rowrd_ex hrr).weak fun _ _ h => ⟨h.1, h.2.r⟩
  intro σ K hk
  have go : ∀ σ', EvA o σ σ' → ∀ x ∈ o.op.operands, ∀ av, σ.ev x = some av → σ'.ev x = some av := fun σ' h x hx av e => (h x hx).trans e
  have hle : ∀ σ σ', EvA o σ σ' ∧ Mle σ σ' → Mle σ σ' := fun _ _ h => h.2
  have hrl : ∀ σ σ', EvA o σ σ' ∧ Mle σ σ' → Rle σ σ' := fun _ _ h => h.2.r
  cases ho : o.op <;> rw [ho] at hm <;> simp only [isMem, Bool.false_eq_true] at hm <;> simp only [opW, ho] at hk ⊢ <;> simp only [ho, Op.operands] at go
  case load t p =>
    obtain ⟨pv, h1, hk⟩ := onO_some hk
    obtain ⟨y, hk, h2⟩ := Ex.ldW hle t pv σ _ hk
    exact ⟨y, hk, fun σ' h K' hK => onO_of (go σ' h.1 p (by simp) _ h1) (h2 σ' h (fun y => K' (σ'.put o.dst y)) hK)⟩
  case slice t x lo hi mx => exact absurd hrr (by rw [ho]; simp [isRowRd])
  case indexAddr t x i => exact absurd hrr (by rw [ho]; simp [isRowRd])
  case call c =>
    cases hc : c.callee with
    | builtin b => simp only [ho, hc, isRowRd] at hrr hm; cases b <;> simp_all
    | value f =>
      simp only [hc] at hk ⊢
      obtain ⟨fv, h1, hk⟩ := onO_some hk
      have hops : c.operands = #[f] ++ c.args := by simp [Call.operands, hc]
      obtain ⟨args, ow, hk, h2⟩ := Ex.argsW hle c.args.toList (fun σ σ' h x hx => h.1 x (by rw [ho]; simp only [Op.operands]; rw [hops]; simp at hx ⊢; exact Or.inr hx)) σ _ hk
      have hf : ∀ σ', EvA o σ σ' → σ'.ev f = some fv := fun σ' h => go σ' h f (by rw [hops]; simp) _ h1
      split at hk
      · obtain ⟨a1, a2, hk⟩ := hk
        obtain ⟨r, hk, h3⟩ := Ex.callW (P := fun σ σ' => EvA o σ σ' ∧ Mle σ σ') _ args ow σ _ hk
        exact ⟨r, hk, fun σ' h K' hK => onO_of (hf σ' h.1) (h2 σ' h _ ⟨a1, a2, h3 σ' h (fun r => K' (σ'.put o.dst r)) hK⟩)⟩
      · obtain ⟨cs, ow', hk, h4⟩ := Ex.capsW hle _ σ _ hk
        obtain ⟨r, hk, h3⟩ := Ex.callW (P := fun σ σ' => EvA o σ σ' ∧ Mle σ σ') _ _ _ σ _ hk
        exact ⟨r, hk, fun σ' h K' hK => onO_of (hf σ' h.1) (h2 σ' h _ (h4 σ' h _ (h3 σ' h (fun r => K' (σ'.put o.dst r)) hK)))⟩
      · exact hk.elim
    | invoke r m => simp only [hc] at hk
/-- A load from a variable of the call's own hangs on that variable alone. -/
theorem ld_ex {t : TypeId} {p : Operand} (ho : o.op = .load t p) {σ : St} {d off : Nat} (hp : σ.ev p = some (.ptr d off)) {K : St → Prop} (hk : opW C o σ K) :
    ∃ av, K (σ.put o.dst av) ∧ ∀ σ', EvA o σ σ' → look d σ'.boxes = look d σ.boxes → ∀ K' : St → Prop, K' (σ'.put o.dst av) → opW C o σ' K' := by
  simp only [opW, ho] at hk ⊢
  obtain ⟨pv, h1, hk⟩ := onO_some hk
  rw [hp] at h1
  cases h1
  obtain ⟨y, hk, h2⟩ := Ex.ldB (P := fun σ σ' => look d σ'.boxes = look d σ.boxes) (C := C) (t := t) (off := off) (fun _ _ h => h) σ _ hk
  exact ⟨y, hk, fun σ' he hb K' hK => onO_of ((he p (by rw [ho]; simp [Op.operands])).trans hp) (h2 σ' hb (fun y => K' (σ'.put o.dst y)) hK)⟩
theorem ld_radd {t : TypeId} {p : Operand} (ho : o.op = .load t p) {σ : St} {fr : Bool} {cells : List AV} {off : Nat} (hp : σ.ev p = some (.radd fr cells off)) {K : St → Prop} (hk : opW C o σ K) :
    ∃ av, K (σ.put o.dst av) ∧ ∀ σ', EvA o σ σ' → ∀ K' : St → Prop, K' (σ'.put o.dst av) → opW C o σ' K' := by
  simp only [opW, ho] at hk ⊢
  obtain ⟨pv, h1, hk⟩ := onO_some hk
  rw [hp] at h1
  cases h1
  obtain ⟨y, hk, h2⟩ := Ex.loadW (P := fun _ _ => True) (C := C) t cells off σ (fun av => K (σ.put o.dst av)) hk
  exact ⟨y, hk, fun σ' he K' hK => onO_of ((he p (by rw [ho]; simp [Op.operands])).trans hp) (h2 σ' trivial (fun y => K' (σ'.put o.dst y)) hK)⟩
end
end Go.Rk
