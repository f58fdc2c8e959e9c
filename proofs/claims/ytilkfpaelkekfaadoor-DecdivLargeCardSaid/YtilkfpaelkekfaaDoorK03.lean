/- DecdivLarge, the tied card: for every context and all Decs x and y the law answers true and leaves its arguments as they were, for a Dec with too many words gives ErrSize from each of the seven functions. Conditions: none beyond the given statement (part 4 of 8) -/
import Derived.Test.YtilkfpaelkekfaaDoorK02
set_option linter.unusedVariables false
set_option linter.unusedSimpArgs false
namespace Go.Rk
open Go.RowKit
structure Mm where
  bs : List (Nat × Box)
  rs : List (Nat × Option ORow)
  nb : Nat
  nr : Nat
def St.at (σ : St) (M : Mm) : St := ⟨σ.slots, M.bs, M.rs, M.nb, M.nr, σ.gl⟩
def St.mm (σ : St) : Mm := ⟨σ.boxes, σ.rows, σ.nb, σ.nr⟩
structure Wf (σ : St) : Prop where
  b : ∀ d bx, look d σ.boxes = some bx → (d % 2 = 0 → d < 2 * σ.nb) ∧ (d % 2 = 1 → d < 2 * σ.nr + 1)
  r : ∀ d r, look d σ.rows = some (some r) → (d % 2 = 0 → d < 2 * σ.nb) ∧ (d % 2 = 1 → d < 2 * σ.nr + 1)
def NoRow (σ : St) : Prop := ∀ d r, look d σ.rows ≠ some (some r)
/-- Makes rows. -/
def isRowy : Op → Bool
  | .buildSlice _ _ _ | .makeSlice _ _ _ => true
  | .call c => match c.callee with
    | .builtin .append => true
    | _ => false
  | _ => false
structure Keep (o : Oper) (σ τ : St) : Prop where
  wf : Wf σ → Wf τ
  nr : isRowy o.op = false → NoRow σ → NoRow τ
def ExH (P : St → St → Prop) (C : Ctx) (o : Oper) : Prop := ∀ σ K, opW C o σ K → ∃ av M, K ((σ.at M).put o.dst av) ∧ Keep o σ (σ.at M) ∧ ∀ σ', P σ σ' → ∀ K' : St → Prop, K' ((σ'.at M).put o.dst av) → opW C o σ' K'
def Sm (σ σ' : St) : Prop := σ'.mm = σ.mm
section
variable {P : St → St → Prop} {C : Ctx} {o : Oper}
theorem at_mm (σ : St) : σ.at σ.mm = σ := rfl
theorem at_sm {σ σ' : St} (h : Sm σ σ') : σ'.at σ.mm = σ' := by rw [← h]; rfl
theorem Keep.refl (σ : St) : Keep o σ σ := ⟨id, fun _ => id⟩
theorem Keep.trans {σ τ υ : St} (h : Keep o σ τ) (h' : Keep o τ υ) : Keep o σ υ := ⟨fun x => h'.wf (h.wf x), fun e x => h'.nr e (h.nr e x)⟩
theorem keep_box {σ : St} {bx : Box} : Keep o σ (σ.newBox bx) := by
  refine ⟨fun h => ⟨fun d b hd => ?_, fun d r hd => ?_⟩, fun _ h => h⟩
  · simp only [St.newBox, look_cons] at hd ⊢
    by_cases e : d = 2 * σ.nb
    · omega
    · rw [if_neg e] at hd
      have := h.b d b hd
      omega
  · have := h.r d r hd
    simp only [St.newBox]
    omega
theorem keep_row {σ : St} {r : ORow} (he : isRowy o.op = true) : Keep o σ (σ.newRow r) := by
  refine ⟨fun h => ⟨fun d b hd => ?_, fun d r hd => ?_⟩, fun e _ => by rw [he] at e; cases e⟩
  · have := h.b d b hd
    simp only [St.newRow]
    omega
  · simp only [St.newRow, look_cons] at hd ⊢
    by_cases e : d = 2 * σ.nr + 1
    · omega
    · rw [if_neg e] at hd
      have := h.r d r hd
      omega
theorem keep_setBox {σ : St} {d : Nat} {bx bx' : Box} (hd : look d σ.boxes = some bx) : Keep o σ (σ.setBox d bx') := by
  refine ⟨fun h => ⟨fun d' b hd' => ?_, h.r⟩, fun _ h => h⟩
  simp only [St.setBox, look_cons] at hd' ⊢
  by_cases e : d' = d
  · subst e; exact h.b _ _ hd
  · rw [if_neg e] at hd'; exact h.b _ _ hd'
theorem keep_setRow {σ : St} {d : Nat} {r : ORow} {r' : Option ORow} (hd : look d σ.rows = some (some r)) : Keep o σ (σ.setRow d r') := by
  refine ⟨fun h => ⟨h.b, fun d' b hd' => ?_⟩, fun _ h => absurd hd (h d r)⟩
  simp only [St.setRow, look_cons] at hd' ⊢
  by_cases e : d' = d
  · subst e; exact h.r _ _ hd
  · rw [if_neg e] at hd'; exact h.r _ _ hd'
def St.rr (σ : St) (ρ : List (Nat × Option ORow)) : St := ⟨σ.slots, σ.boxes, ρ, σ.nb, σ.nr, σ.gl⟩
theorem rr_self {σ σ' : St} (h : σ'.rows = σ.rows) : σ'.rr σ.rows = σ' := by rw [← h]; rfl
theorem ev_rr (σ : St) (ρ : List (Nat × Option ORow)) (x : Operand) : (σ.rr ρ).ev x = σ.ev x := by cases x <;> rfl
theorem frzW_ex (o : Oper) {σ : St} {av : AV} {K : AV → St → Prop} (hk : frzW σ av K) : ∃ av' ρ, K av' (σ.rr ρ) ∧ Keep o σ (σ.rr ρ) ∧ ∀ σ', σ'.rows = σ.rows → ∀ K' : AV → St → Prop, K' av' (σ'.rr ρ) → frzW σ' av K' := by
  cases av with
  | own d =>
    simp only [frzW] at hk ⊢
    split at hk
    · rename_i r hr
      refine ⟨_, (d, none) :: σ.rows, hk, keep_setRow hr, fun σ' h K' hK => ?_⟩
      rw [h, hr]
      have e : σ'.setRow d none = σ'.rr ((d, none) :: σ.rows) := by rw [← h]; rfl
      simp only [e]
      exact hK
    · exact hk.elim
  | sub d off n => exact hk.elim
  | _ => exact ⟨_, σ.rows, hk, Keep.refl σ, fun σ' h K' hK => by rw [rr_self h] at hK; exact hK⟩
theorem frzL_ex (o : Oper) : ∀ (l : List (Nat × Operand)) {σ : St} {K : List (Nat × AV) → St → Prop}, frzL σ l K → ∃ ps ρ, K ps (σ.rr ρ) ∧ Keep o σ (σ.rr ρ) ∧
    ∀ σ', σ'.rows = σ.rows → (∀ p ∈ l, σ'.ev p.2 = σ.ev p.2) → ∀ K' : List (Nat × AV) → St → Prop, K' ps (σ'.rr ρ) → frzL σ' l K'
  | [], σ, K, hk => ⟨[], σ.rows, hk, Keep.refl σ, fun σ' h _ K' hK => by rw [rr_self h] at hK; exact hK⟩
  | p :: l, σ, K, hk => by
    obtain ⟨av, h1, hk⟩ := onO_some hk
    obtain ⟨av', ρ, hk, k1, h2⟩ := frzW_ex o hk
    obtain ⟨ps, ρ', hk, k2, h3⟩ := frzL_ex o l hk
    refine ⟨_, ρ', hk, k1.trans k2, fun σ' h he K' hK => onO_of ((he p (by simp)).trans h1) (h2 σ' h _ (h3 (σ'.rr ρ) rfl (fun q hq => ?_) _ hK))⟩
    rw [ev_rr, ev_rr]
    exact he q (by simp [hq])
theorem fillW_ex (fs : List (Nat × TypeId)) : ∀ (ps : List (Nat × AV)) {cells : List AV} {K : List AV → Prop}, fillW C fs cells ps K → ∃ cs, K cs ∧ ∀ K' : List AV → Prop, K' cs → fillW C fs cells ps K'
  | [], cells, K, hk => ⟨cells, hk, fun _ h => h⟩
  | p :: l, cells, K, hk => by
    obtain ⟨f, h1, hk⟩ := onO_some hk
    obtain ⟨i, h2, hk⟩ := onO_some hk
    obtain ⟨xs, h3, h4, h5, hk⟩ := onO_some hk
    obtain ⟨cs, hk, h6⟩ := fillW_ex fs l hk
    exact ⟨cs, hk, fun K' hK => onO_of h1 (onO_of h2 (onO_of h3 ⟨h4, h5, h6 K' hK⟩))⟩
theorem litW_ex (size : Nat) : ∀ (ps : List (Nat × AV)) {j : Nat} {K : List AV → Prop}, litW size j ps K → ∃ cs, K cs ∧ ∀ K' : List AV → Prop, K' cs → litW size j ps K'
  | [], j, K, hk => ⟨[], hk, fun _ h => h⟩
  | p :: l, j, K, hk => by
    obtain ⟨h0, hk⟩ := hk
    obtain ⟨xs, h3, h4, hk⟩ := onO_some hk
    obtain ⟨cs, hk, h6⟩ := litW_ex size l hk
    exact ⟨_, hk, fun K' hK => ⟨h0, onO_of h3 ⟨h4, h6 _ hK⟩⟩⟩
/-- The operations that turn rows alone. -/
def isRow : Op → Bool
  | .build _ _ | .buildSlice _ _ _ | .makeSlice _ _ _ => true
  | .call c => match c.callee with
    | .builtin .append => true
    | _ => false
  | _ => false
def St.rn (σ : St) (ρ : List (Nat × Option ORow)) (n : Nat) : St := ⟨σ.slots, σ.boxes, ρ, σ.nb, n, σ.gl⟩
theorem row_ex (hr : isRow o.op = true) : ∀ σ K, opW C o σ K → ∃ av ρ n, K ((σ.rn ρ n).put o.dst av) ∧ Keep o σ (σ.rn ρ n) ∧
    ∀ σ', EvA o σ σ' → σ'.rows = σ.rows → σ'.nr = σ.nr → ∀ K' : St → Prop, K' ((σ'.rn ρ n).put o.dst av) → opW C o σ' K' := by
  intro σ K hk
  cases ho : o.op <;> rw [ho] at hr <;> simp only [isRow, Bool.false_eq_true] at hr <;> simp only [opW, ho] at hk ⊢
  case build t parts =>
    obtain ⟨i, h1, hk⟩ := onO_some hk
    cases e : i.k with
    | struct fs =>
      rw [e] at hk
      obtain ⟨ps, ρ, hk, k1, h2⟩ := frzL_ex o _ hk
      obtain ⟨cs, hk, h3⟩ := fillW_ex fs _ hk
      refine ⟨_, ρ, σ.nr, hk, k1, fun σ' he hrw hn K' hK => onO_of h1 ?_⟩
      rw [e]
      have e2 : σ'.rn ρ σ.nr = σ'.rr ρ := by rw [← hn]; rfl
      rw [e2] at hK
      refine h2 σ' hrw (fun p hp => he p.2 ?_) _ (h3 _ hK)
      rw [ho]
      simp only [Op.operands, List.mem_toArray, List.mem_map]
      exact ⟨p, hp, rfl⟩
    | _ => rw [e] at hk; exact hk.elim
  case buildSlice t len parts =>
    obtain ⟨i, h1, hk⟩ := onO_some hk
    cases e : i.k with
    | slice el =>
      rw [e] at hk
      obtain ⟨ei, h5, hk⟩ := onO_some hk
      obtain ⟨ps, ρ, ⟨a1, a2, a3, hk⟩, k1, h2⟩ := frzL_ex o _ hk
      obtain ⟨cs, hk, h3⟩ := litW_ex _ _ hk
      refine ⟨_, _, _, hk, k1.trans (keep_row (by rw [ho]; rfl)), fun σ' he hrw hn K' hK => onO_of h1 ?_⟩
      rw [e]
      refine onO_of h5 (h2 σ' hrw (fun p hp => he p.2 ?_) _ ⟨a1, a2, a3, h3 _ ?_⟩)
      · rw [ho]
        simp only [Op.operands, List.mem_toArray, List.mem_map]
        exact ⟨p, hp, rfl⟩
      · have e2 : (σ'.rr ρ).newRow ⟨el, ei.size, len, cs⟩ = σ'.rn ((2 * σ.nr + 1, some ⟨el, ei.size, len, cs⟩) :: ρ) (σ.nr + 1) := by rw [← hn]; rfl
        have e3 : (σ'.rr ρ).nr = σ.nr := hn
        rw [e2, e3]
        exact hK
    | _ => rw [e] at hk; exact hk.elim
  case makeSlice t l c =>
    obtain ⟨lv, h1, hk⟩ := onO_some hk
    obtain ⟨k, n, hk, h2⟩ := Ex.onI (P := fun _ _ => True) _ σ _ hk
    obtain ⟨cv, h3, hk⟩ := onO_some hk
    obtain ⟨k', n', ⟨a1, a2, a3, hk⟩, h4⟩ := Ex.onI (P := fun _ _ => True) _ σ _ hk
    obtain ⟨i, h5, hk⟩ := onO_some hk
    cases e : i.k with
    | slice el =>
      rw [e] at hk
      obtain ⟨ei, h6, hk⟩ := onO_some hk
      cases hz : ei.zero with
      | nil => rw [hz] at hk; exact hk.elim
      | cons z zs =>
        cases zs with
        | cons z' zs' => rw [hz] at hk; exact hk.elim
        | nil =>
          rw [hz] at hk
          obtain ⟨b1, b2, b3, hk⟩ := hk
          refine ⟨_, _, _, hk, keep_row (by rw [ho]; rfl), fun σ' he hrw hn K' hK => ?_⟩
          refine onO_of ((he l (by rw [ho]; simp [Op.operands])).trans h1) (h2 σ' trivial _ (onO_of ((he c (by rw [ho]; simp [Op.operands])).trans h3) (h4 σ' trivial _ ⟨a1, a2, a3, onO_of h5 ?_⟩)))
          rw [e]
          refine onO_of h6 ?_
          rw [hz]
          refine ⟨b1, b2, b3, ?_⟩
          have e2 : σ'.newRow ⟨el, 1, n.toNat, List.replicate n.toNat (.val z)⟩ = σ'.rn ((2 * σ.nr + 1, some ⟨el, 1, n.toNat, List.replicate n.toNat (.val z)⟩) :: σ.rows) (σ.nr + 1) := by rw [← hn, ← hrw]; rfl
          rw [e2, hn]
          exact hK
    | _ => rw [e] at hk; exact hk.elim
  case call c =>
    cases hc : c.callee with
    | builtin b =>
      simp only [hc] at hk hr ⊢
      cases b <;> simp only [Bool.false_eq_true] at hr
      case append =>
      have hops : c.operands = c.args := by simp [Call.operands, hc]
      have hrow : isRowy o.op = true := by rw [ho]; simp [isRowy, hc]
      obtain ⟨args, hk, h2⟩ := Ex.evL (P := EvA o) c.args.toList (fun σ σ' h x hx => h x (by rw [ho]; simp only [Op.operands]; rw [hops]; simpa using hx)) σ _ hk
      match args, hk with
      | [s, x], hk =>
        obtain ⟨t, h3, h4, hk⟩ := onO_some hk
        obtain ⟨ti, h5, hk⟩ := onO_some hk
        cases e : ti.k with
        | slice el =>
          rw [e] at hk
          obtain ⟨ei, h6, hk⟩ := onO_some hk
          obtain ⟨m, news, ⟨a1, a2, hk⟩, h7⟩ := Ex.rowW (P := fun σ σ' => σ'.rows = σ.rows) (fun σ σ' h d r hd => by rw [h]; exact hd) x σ _ hk
          cases s with
          | val v =>
            have fin : v = .slice none 0 0 → ∃ av ρ n, K ((σ.rn ρ n).put o.dst av) ∧ Keep o σ (σ.rn ρ n) ∧ ∀ σ', EvA o σ σ' → σ'.rows = σ.rows → σ'.nr = σ.nr → ∀ K' : St → Prop, K' ((σ'.rn ρ n).put o.dst av) → evL σ' c.args.toList fun args => bltW C σ' o.dst .append c.argTypes args K' := by
              intro he0
              subst he0
              obtain ⟨b1, b2, hk⟩ := hk
              refine ⟨_, _, _, hk, keep_row hrow, fun σ' he hrw hn K' hK => h2 σ' he _ (onO_of h3 ⟨h4, onO_of h5 ?_⟩)⟩
              rw [e]
              refine onO_of h6 (h7 σ' hrw _ ⟨a1, a2, b1, b2, ?_⟩)
              have e2 : σ'.newRow ⟨el, ei.size, m, news⟩ = σ'.rn ((2 * σ.nr + 1, some ⟨el, ei.size, m, news⟩) :: σ.rows) (σ.nr + 1) := by rw [← hn, ← hrw]; rfl
              rw [e2, hn]
              exact hK
            cases v with
            | slice A p q =>
              cases A with
              | none =>
                match p, q, hk, fin with
                | 0, 0, _, fin => exact fin rfl
                | 0, _ + 1, hk, _ => exact hk.elim
                | _ + 1, _, hk, _ => exact hk.elim
              | some _ => exact hk.elim
            | _ => exact hk.elim
          | own d =>
            simp only at hk
            split at hk
            · rename_i r hr'
              obtain ⟨b1, b2, b3, b4, hk⟩ := hk
              refine ⟨_, _, _, hk, (keep_setRow hr').trans (keep_row hrow), fun σ' he hrw hn K' hK => h2 σ' he _ (onO_of h3 ⟨h4, onO_of h5 ?_⟩)⟩
              rw [e]
              refine onO_of h6 (h7 σ' hrw _ ⟨a1, a2, ?_⟩)
              simp only [hrw, hr']
              refine ⟨b1, b2, b3, b4, ?_⟩
              have e2 : (σ'.setRow d none).newRow ⟨el, ei.size, r.n + m, r.cells ++ news⟩ = σ'.rn ((2 * σ.nr + 1, some ⟨el, ei.size, r.n + m, r.cells ++ news⟩) :: (d, none) :: σ.rows) (σ.nr + 1) := by rw [← hn, ← hrw]; rfl
              rw [e2, hn]
              exact hK
            · exact hk.elim
          | _ => exact hk.elim
        | _ => rw [e] at hk; exact hk.elim
      | [], hk => exact hk.elim
      | [_], hk => exact hk.elim
      | _ :: _ :: _ :: _, hk => exact hk.elim
    | _ => simp only [hc, Bool.false_eq_true] at hr
end
end Go.Rk

namespace Go.Rk
open Go.RowKit
def isRd (o : Op) : Bool := isPure o || isRowRd o || isMem o
def isAl : Op → Bool
  | .alloc _ => true
  | _ => false
def constPart : Nat × Operand → Bool
  | (_, .const _) => true
  | _ => false
def isLitC : Op → Bool
  | .buildSlice _ _ ps => ps.toList.all constPart
  | _ => false
structure Facts (o : Oper) (σ : St) (M : Mm) : Prop where
  rd : isRd o.op = true → M = σ.mm
  al : isAl o.op = true → ∃ bx, M = ⟨(2 * σ.nb, bx) :: σ.boxes, σ.rows, σ.nb + 1, σ.nr⟩
  row : isRow o.op = true → M.bs = σ.boxes ∧ M.nb = σ.nb
  lit : isLitC o.op = true → ∃ r, M = ⟨σ.boxes, (2 * σ.nr + 1, some r) :: σ.rows, σ.nb, σ.nr + 1⟩
  st : ∀ t p x, o.op = .store t p x → ∀ d off, σ.ev p = some (.ptr d off) → ∀ d', d' ≠ d → look d' M.bs = look d' σ.boxes
def rdP (o : Op) (σ σ' : St) : Prop := if isPure o then True else if isRowRd o then Rle σ σ' else Mle σ σ'
section
variable {C : Ctx} {o : Oper}
theorem rd_ex (hr : isRd o.op = true) : ExO (fun σ σ' => EvA o σ σ' ∧ rdP o.op σ σ') C o := by
  unfold isRd at hr
  by_cases h1 : isPure o.op = true
  · exact (pure_ex h1).weak fun _ _ h => h.1
  · by_cases h2 : isRowRd o.op = true
    · refine (rowrd_ex h2).weak fun _ _ h => ⟨h.1, ?_⟩
      have := h.2
      unfold rdP at this
      rw [if_neg h1, if_pos h2] at this
      exact this
    · have h3 : isMem o.op = true := by simpa [h1, h2] using hr
      refine (mem_ex h3).weak fun _ _ h => ⟨h.1, ?_⟩
      have := h.2
      unfold rdP at this
      rw [if_neg h1, if_neg h2] at this
      exact this
theorem not_rd {o : Op} (h : isRow o = true ∨ isAl o = true ∨ (∃ t p x, o = .store t p x) ∨ (∃ t x, o = .box t x)) : isRd o = false := by
  rcases h with h | h | ⟨t, p, x, rfl⟩ | ⟨t, x, rfl⟩
  · cases o <;> simp [isRow] at h <;> try rfl
    rename_i c
    cases hc : c.callee <;> simp [hc] at h
    rename_i b
    cases b <;> simp at h
    simp [isRd, isPure, isRowRd, isMem, hc]
  · cases o <;> simp [isAl] at h <;> rfl
  · rfl
  · rfl
theorem any_ex : ∀ σ K, opW C o σ K → ∃ av M, K ((σ.at M).put o.dst av) ∧ Keep o σ (σ.at M) ∧ Facts o σ M ∧ ∀ σ', EvA o σ σ' → Sm σ σ' → ∀ K' : St → Prop, K' ((σ'.at M).put o.dst av) → opW C o σ' K' := by
  intro σ K hk
  by_cases hrd : isRd o.op = true
  · obtain ⟨av, h1, h2⟩ := rd_ex hrd σ K hk
    refine ⟨av, σ.mm, h1, Keep.refl σ, ⟨fun _ => rfl, fun h => ?_, fun h => ?_, fun h => ?_, fun t p x h => ?_⟩, fun σ' he hs K' hK => h2 σ' ⟨he, ?_⟩ K' (by rw [at_sm hs] at hK; exact hK)⟩
    · rw [not_rd (.inr (.inl h))] at hrd; cases hrd
    · rw [not_rd (.inl h)] at hrd; cases hrd
    · have : isRow o.op = true := by cases ho : o.op <;> rw [ho] at h <;> simp [isLitC] at h <;> rfl
      rw [not_rd (.inl this)] at hrd; cases hrd
    · rw [h] at hrd; cases hrd
    · have e1 : σ'.boxes = σ.boxes := congrArg Mm.bs hs
      have e2 : σ'.rows = σ.rows := congrArg Mm.rs hs
      have hm : Mle σ σ' := ⟨fun d bx h => by rw [e1]; exact h, fun d r h => by rw [e2]; exact h⟩
      unfold rdP
      split
      · trivial
      · split
        · exact hm.r
        · exact hm
  · by_cases hrow : isRow o.op = true
    · obtain ⟨av, ρ, n, h1, k1, h2⟩ := row_ex hrow σ K hk
      by_cases hl : isLitC o.op = true
      · -- a literal of constants
        cases ho : o.op <;> rw [ho] at hl <;> simp only [isLitC, Bool.false_eq_true] at hl
        case buildSlice t len parts =>
          simp only [opW, ho] at hk ⊢
          obtain ⟨i, e1, hk⟩ := onO_some hk
          cases e : i.k with
          | slice el =>
            rw [e] at hk
            obtain ⟨ei, e2, hk⟩ := onO_some hk
            have hfr : ∀ (l : List (Nat × Operand)) (σ : St) (K : List (Nat × AV) → St → Prop), l.all constPart = true → frzL σ l K → ∃ ps, K ps σ ∧ ∀ σ' K', K' ps σ' → frzL σ' l K' := by
              intro l
              induction l with
              | nil => intro σ K _ hk; exact ⟨[], hk, fun _ _ h => h⟩
              | cons p l ih =>
                obtain ⟨i, x⟩ := p
                intro σ K hc hk
                simp only [List.all_cons, Bool.and_eq_true] at hc
                cases x with
                | const v =>
                  obtain ⟨av, q1, hk⟩ := onO_some hk
                  injection q1 with q1
                  subst q1
                  obtain ⟨ps, hk, q2⟩ := ih σ _ hc.2 hk
                  exact ⟨(i, .val v) :: ps, hk, fun σ' K' h => q2 σ' (fun ps σ'' => K' ((i, .val v) :: ps) σ'') h⟩
                | _ => simp [constPart] at hc
            obtain ⟨ps, ⟨a1, a2, a3, hk⟩, q1⟩ := hfr _ σ _ hl hk
            obtain ⟨cs, hk, q2⟩ := litW_ex _ _ hk
            refine ⟨_, ⟨σ.boxes, (2 * σ.nr + 1, some ⟨el, ei.size, len, cs⟩) :: σ.rows, σ.nb, σ.nr + 1⟩, hk, keep_row (by rw [ho]; rfl), ⟨fun h => absurd h hrd, fun h => (by rw [ho] at h; cases h), fun _ => ⟨rfl, rfl⟩, fun _ => ⟨_, rfl⟩, fun t p x h => (by rw [ho] at h; cases h)⟩, fun σ' he hs K' hK => onO_of e1 ?_⟩
            rw [e]
            refine onO_of e2 (q1 σ' _ ⟨a1, a2, a3, q2 _ ?_⟩)
            have z1 : σ'.boxes = σ.boxes := congrArg Mm.bs hs
            have z2 : σ'.rows = σ.rows := congrArg Mm.rs hs
            have z3 : σ'.nb = σ.nb := congrArg Mm.nb hs
            have z4 : σ'.nr = σ.nr := congrArg Mm.nr hs
            have z5 : σ'.newRow ⟨el, ei.size, len, cs⟩ = σ'.at ⟨σ.boxes, (2 * σ.nr + 1, some ⟨el, ei.size, len, cs⟩) :: σ.rows, σ.nb, σ.nr + 1⟩ := by rw [← z1, ← z2, ← z3, ← z4]; rfl
            rw [z5, z4]
            exact hK
          | _ => rw [e] at hk; exact hk.elim
      · refine ⟨av, ⟨σ.boxes, ρ, σ.nb, n⟩, h1, k1, ⟨fun h => absurd h hrd, fun h => ?_, fun _ => ⟨rfl, rfl⟩, fun h => absurd h hl, fun t p x h => ?_⟩, fun σ' he hs K' hK => ?_⟩
        · exfalso
          cases ho : o.op <;> rw [ho] at h hrow <;> simp [isAl, isRow] at h hrow
        · rw [h] at hrow; cases hrow
        · have z1 : σ'.boxes = σ.boxes := congrArg Mm.bs hs
          have z3 : σ'.nb = σ.nb := congrArg Mm.nb hs
          refine h2 σ' he (congrArg Mm.rs hs) (congrArg Mm.nr hs) K' ?_
          have z5 : σ'.rn ρ n = σ'.at ⟨σ.boxes, ρ, σ.nb, n⟩ := by rw [← z1, ← z3]; rfl
          rw [z5]
          exact hK
    · have hlit : isLitC o.op = true → False := fun h => by
        cases ho : o.op <;> rw [ho] at h hrow <;> simp [isLitC, isRow] at h hrow
      cases ho : o.op <;> rw [ho] at hrd hrow <;> (try exact absurd rfl hrd) <;> (try exact absurd rfl hrow) <;> simp only [opW, ho] at hk ⊢ <;> (try exact hk.elim)
      case alloc e =>
        obtain ⟨i, e1, hk⟩ := onO_some hk
        refine ⟨_, ⟨(2 * σ.nb, ⟨e, i.zero.map .val⟩) :: σ.boxes, σ.rows, σ.nb + 1, σ.nr⟩, hk, keep_box, ⟨fun h => absurd (by rw [ho] at h; exact h) hrd, fun _ => ⟨_, rfl⟩, fun h => absurd (by rw [ho] at h; exact h) hrow, fun h => (hlit h).elim, fun t p x h => (by rw [ho] at h; cases h)⟩, fun σ' he hs K' hK => onO_of e1 ?_⟩
        have z1 : σ'.boxes = σ.boxes := congrArg Mm.bs hs
        have z2 : σ'.rows = σ.rows := congrArg Mm.rs hs
        have z3 : σ'.nb = σ.nb := congrArg Mm.nb hs
        have z4 : σ'.nr = σ.nr := congrArg Mm.nr hs
        have z5 : σ'.newBox ⟨e, i.zero.map .val⟩ = σ'.at ⟨(2 * σ.nb, ⟨e, i.zero.map .val⟩) :: σ.boxes, σ.rows, σ.nb + 1, σ.nr⟩ := by rw [← z1, ← z2, ← z3, ← z4]; rfl
        rw [z5, z3]
        exact hK
      case box e x =>
        obtain ⟨av, e1, hk⟩ := onO_some hk
        obtain ⟨av', ρ, hk, k1, h2⟩ := frzW_ex o hk
        obtain ⟨cs, e2, hk⟩ := onO_some hk
        refine ⟨_, ⟨(2 * σ.nb, ⟨e, cs⟩) :: σ.boxes, ρ, σ.nb + 1, σ.nr⟩, hk, k1.trans keep_box, ⟨fun h => absurd (by rw [ho] at h; exact h) hrd, fun h => (by rw [ho] at h; cases h), fun h => absurd (by rw [ho] at h; exact h) hrow, fun h => (hlit h).elim, fun t p x h => (by rw [ho] at h; cases h)⟩, fun σ' he hs K' hK => onO_of ((he x (by rw [ho]; simp [Op.operands])).trans e1) (h2 σ' (congrArg Mm.rs hs) _ (onO_of e2 ?_))⟩
        have z1 : σ'.boxes = σ.boxes := congrArg Mm.bs hs
        have z3 : σ'.nb = σ.nb := congrArg Mm.nb hs
        have z4 : σ'.nr = σ.nr := congrArg Mm.nr hs
        have z5 : (σ'.rr ρ).newBox ⟨e, cs⟩ = σ'.at ⟨(2 * σ.nb, ⟨e, cs⟩) :: σ.boxes, ρ, σ.nb + 1, σ.nr⟩ := by rw [← z1, ← z3, ← z4]; rfl
        have z6 : (σ'.rr ρ).nb = σ.nb := z3
        rw [z5, z6]
        exact hK
      case store t p x =>
        obtain ⟨pv, e1, hk⟩ := onO_some hk
        obtain ⟨xv, e2, hk⟩ := onO_some hk
        obtain ⟨av', ρ, hk, k1, h2⟩ := frzW_ex o hk
        obtain ⟨cs, e3, hk⟩ := onO_some hk
        obtain ⟨i, e4, e5, hk⟩ := onO_some hk
        have hev : ∀ σ', EvA o σ σ' → σ'.ev p = some pv ∧ σ'.ev x = some xv := fun σ' he => ⟨(he p (by rw [ho]; simp [Op.operands])).trans e1, (he x (by rw [ho]; simp [Op.operands])).trans e2⟩
        cases pv with
        | ptr d off =>
          obtain ⟨bx, e6, e7, hk⟩ := onO_some hk
          refine ⟨_, ⟨(d, ⟨bx.ty, updC bx.cells off cs⟩) :: σ.boxes, ρ, σ.nb, σ.nr⟩, hk, k1.trans (keep_setBox e6), ⟨fun h => absurd (by rw [ho] at h; exact h) hrd, fun h => (by rw [ho] at h; cases h), fun h => absurd (by rw [ho] at h; exact h) hrow, fun h => (hlit h).elim, fun t' p' x' h d0 off0 hd d' hne => ?_⟩, fun σ' he hs K' hK => onO_of (hev σ' he).1 (onO_of (hev σ' he).2 (h2 σ' (congrArg Mm.rs hs) _ (onO_of e3 (onO_of e4 ⟨e5, onO_of (a := bx) ?_ ⟨e7, ?_⟩⟩))))⟩
          · rw [ho] at h
            injection h with _ h3 _
            subst h3
            rw [e1] at hd
            injection hd with hd
            injection hd with hd
            subst hd
            simp only [look_cons]
            rw [if_neg hne]
          · have z1 : σ'.boxes = σ.boxes := congrArg Mm.bs hs
            show look d σ'.boxes = some bx
            rw [z1]
            exact e6
          · have z1 : σ'.boxes = σ.boxes := congrArg Mm.bs hs
            have z3 : σ'.nb = σ.nb := congrArg Mm.nb hs
            have z4 : σ'.nr = σ.nr := congrArg Mm.nr hs
            have z5 : (σ'.rr ρ).setBox d ⟨bx.ty, updC bx.cells off cs⟩ = σ'.at ⟨(d, ⟨bx.ty, updC bx.cells off cs⟩) :: σ.boxes, ρ, σ.nb, σ.nr⟩ := by rw [← z1, ← z3, ← z4]; rfl
            rw [z5]
            exact hK
        | addr d off =>
          simp only at hk
          split at hk
          · rename_i r hr
            refine ⟨_, ⟨σ.boxes, (d, some { r with cells := updC r.cells off cs }) :: ρ, σ.nb, σ.nr⟩, hk.2, k1.trans (keep_setRow hr), ⟨fun h => absurd (by rw [ho] at h; exact h) hrd, fun h => (by rw [ho] at h; cases h), fun h => absurd (by rw [ho] at h; exact h) hrow, fun h => (hlit h).elim, fun t' p' x' h d0 off0 hd d' hne => rfl⟩, fun σ' he hs K' hK => onO_of (hev σ' he).1 (onO_of (hev σ' he).2 (h2 σ' (congrArg Mm.rs hs) _ (onO_of e3 (onO_of e4 ⟨e5, ?_⟩))))⟩
            have z1 : σ'.boxes = σ.boxes := congrArg Mm.bs hs
            have z3 : σ'.nb = σ.nb := congrArg Mm.nb hs
            have z4 : σ'.nr = σ.nr := congrArg Mm.nr hs
            have hr2 : look d (σ'.rr ρ).rows = some (some r) := hr
            simp only [hr2]
            refine ⟨hk.1, ?_⟩
            have z5 : (σ'.rr ρ).setRow d (some { r with cells := updC r.cells off cs }) = σ'.at ⟨σ.boxes, (d, some { r with cells := updC r.cells off cs }) :: ρ, σ.nb, σ.nr⟩ := by rw [← z1, ← z3, ← z4]; rfl
            rw [z5]
            exact hK
          · exact hk.elim
        | _ => exact hk.elim
      case call c =>
        exfalso
        cases hc : c.callee with
        | value f => simp [isRd, isMem, hc] at hrd
        | builtin b => cases b <;> simp [isRd, isMem, isRow, hc] at hrd hrow
        | invoke r m => simp [hc] at hk
end
end Go.Rk

namespace Go.Rk
open Go.RowKit
def Eqv (σ τ : St) : Prop := (∀ t, look t σ.slots = look t τ.slots) ∧ σ.mm = τ.mm ∧ σ.gl = τ.gl
def Cl (K : St → Prop) : Prop := ∀ σ τ, Eqv σ τ → K σ → K τ
def oneW (C : Ctx) (all : Array Oper) (o : Oper) (σ : St) (K : St → Prop) : Prop :=
  match o.guard with
  | none => opW C o σ K
  | some (g, u) => guardW σ all g fun d t =>
    (t = u → opW C o (σ.put (some d) (.val (.bool u))) K) ∧ (t = !u → K ((σ.put (some d) (.val (.bool (!u)))).put o.dst (.val undef)))
def EvG (all : Array Oper) (o : Oper) (σ σ' : St) : Prop := (∀ t ∈ o.looksAt all, look t σ'.slots = look t σ.slots) ∧ σ'.gl = σ.gl
/-- A value that is no address of an own row's cell, and of a variable only if Db says so. -/
def GoodD (Db : Nat → Prop) : AV → Prop
  | .ptr d _ => Db d
  | .addr _ _ => False
  | _ => True
section
variable {C : Ctx} {all : Array Oper} {o : Oper} {σ σ' τ : St} {K K' : St → Prop}
theorem Eqv.refl (σ : St) : Eqv σ σ := ⟨fun _ => rfl, rfl, rfl⟩
theorem Eqv.symm (h : Eqv σ τ) : Eqv τ σ := ⟨fun t => (h.1 t).symm, h.2.1.symm, h.2.2.symm⟩
theorem look_put (σ : St) (dst : Option Nat) (av : AV) (t : Nat) : look t (σ.put dst av).slots = if dst = some t then some av else look t σ.slots := by
  cases dst with
  | none => simp [St.put]
  | some d =>
    simp only [St.put, look_cons, Option.some.injEq]
    by_cases h : t = d
    · subst h; simp
    · rw [if_neg h, if_neg (fun e => h e.symm)]
theorem mm_put (σ : St) (dst : Option Nat) (av : AV) : (σ.put dst av).mm = σ.mm := by cases dst <;> rfl
theorem gl_put (σ : St) (dst : Option Nat) (av : AV) : (σ.put dst av).gl = σ.gl := by cases dst <;> rfl
theorem Eqv.put (h : Eqv σ τ) (dst : Option Nat) (av : AV) : Eqv (σ.put dst av) (τ.put dst av) :=
  ⟨fun t => by rw [look_put, look_put, h.1], by rw [mm_put, mm_put]; exact h.2.1, by rw [gl_put, gl_put]; exact h.2.2⟩
theorem Eqv.at (h : Eqv σ τ) (M : Mm) : Eqv (σ.at M) (τ.at M) := ⟨h.1, rfl, h.2.2⟩
theorem Eqv.trans {υ : St} (h : Eqv σ τ) (h' : Eqv τ υ) : Eqv σ υ := ⟨fun t => (h.1 t).trans (h'.1 t), h.2.1.trans h'.2.1, h.2.2.trans h'.2.2⟩
theorem eqv_know {d : Nat} {b : AV} (h : look d σ.slots = some b) : Eqv (σ.put (some d) b) σ :=
  ⟨fun t => by rw [look_put]; split; { rename_i e; injection e with e; subst e; exact h.symm }; rfl, mm_put _ _ _, gl_put _ _ _⟩
theorem evA_of (h : EvG all o σ σ') : EvA o σ σ' := by
  intro x hx
  cases x with
  | tmp t => exact h.1 t (List.mem_append_left _ (List.mem_filterMap.2 ⟨.tmp t, by simpa using hx, rfl⟩))
  | global g => simp only [St.ev, h.2]
  | _ => rfl
theorem evA_put {dst : Option Nat} {v : AV} (h : EvA o σ σ') : EvA o (σ.put dst v) (σ'.put dst v) := by
  intro x hx
  have := h x hx
  cases x with
  | tmp t =>
    simp only [St.ev] at this ⊢
    rw [look_put, look_put, this]
  | global g =>
    simp only [St.ev] at this ⊢
    rw [gl_put, gl_put]; exact this
  | _ => rfl
theorem rdP_put {x : Op} {dst dst' : Option Nat} {v v' : AV} (h : rdP x σ σ') : rdP x (σ.put dst v) (σ'.put dst' v') := by
  unfold rdP at h ⊢
  have e1 : ∀ (τ : St) d v, (τ.put d v).rows = τ.rows := fun τ d v => by cases d <;> rfl
  have e2 : ∀ (τ : St) d v, (τ.put d v).boxes = τ.boxes := fun τ d v => by cases d <;> rfl
  split
  · trivial
  · rename_i h1
    rw [if_neg h1] at h
    split
    · rename_i h2
      rw [if_pos h2] at h
      intro d r hd
      rw [e1] at hd ⊢
      exact h d r hd
    · rename_i h2
      rw [if_neg h2] at h
      exact ⟨fun d r hd => by rw [e2] at hd ⊢; exact h.b d r hd, fun d r hd => by rw [e1] at hd ⊢; exact h.r d r hd⟩
theorem guard_tgt {g : Nat} {u : Bool} (hg : o.guard = some (g, u)) {og : Oper} {d : Nat} (ho : all[g]? = some og) (hd : og.dst = some d) : d ∈ o.looksAt all := by
  unfold Oper.looksAt
  rw [hg]
  simp [ho, hd]
theorem guardW_of {g d : Nat} {t : Bool} {og : Oper} (ho : all[g]? = some og) (hd : og.dst = some d) (hl : look d σ.slots = some (.val (.bool t))) {F : Nat → Bool → Prop} (hF : F d t) : guardW σ all g F := by
  unfold guardW
  rw [ho]
  exact onO_of hd (onO_of hl hF)
/-- An operation that only reads. -/
theorem one_of {P : St → St → Prop} (hP : ∀ σ σ' dst v, P σ σ' → P (σ.put dst v) (σ'.put dst v)) (h : ∀ K, opW C o σ K → ∃ av, K (σ.put o.dst av) ∧ ∀ σ', EvA o σ σ' → P σ σ' → ∀ K' : St → Prop, K' (σ'.put o.dst av) → opW C o σ' K')
    (h' : ∀ d b K, look d σ.slots = some (.val (.bool b)) → opW C o (σ.put (some d) (.val (.bool b))) K → ∃ av, K ((σ.put (some d) (.val (.bool b))).put o.dst av) ∧ ∀ σ', EvA o (σ.put (some d) (.val (.bool b))) σ' → P (σ.put (some d) (.val (.bool b))) σ' → ∀ K' : St → Prop, K' (σ'.put o.dst av) → opW C o σ' K')
    (hk : oneW C all o σ K) (hc : Cl K) : ∃ av, K (σ.put o.dst av) ∧ ∀ σ', EvG all o σ σ' → P σ σ' → ∀ K' : St → Prop, Cl K' → K' (σ'.put o.dst av) → oneW C all o σ' K' := by
  unfold oneW at hk ⊢
  cases hg : o.guard with
  | none =>
    rw [hg] at hk
    obtain ⟨av, h1, h2⟩ := h K hk
    exact ⟨av, h1, fun σ' he hp K' _ hK => h2 σ' (evA_of he) hp K' hK⟩
  | some p =>
    obtain ⟨g, u⟩ := p
    rw [hg] at hk
    obtain ⟨og, d, t, ho, hd, hl, h1, h2⟩ := guardW_some hk
    have hsl : ∀ σ', EvG all o σ σ' → look d σ'.slots = some (.val (.bool t)) := fun σ' he => (he.1 d (guard_tgt hg ho hd)).trans hl
    by_cases e : t = u
    · subst e
      obtain ⟨av, h3, h4⟩ := h' d t K hl (h1 rfl)
      refine ⟨av, hc _ _ ((eqv_know hl).put _ _) h3, fun σ' he hp K' hc' hK => guardW_of ho hd (hsl σ' he) ⟨fun _ => ?_, fun e => by cases t <;> cases e⟩⟩
      exact h4 _ (evA_put (evA_of he)) (hP _ _ _ _ hp) K' (hc' _ _ ((eqv_know (hsl σ' he)).symm.put _ _) hK)
    · have e' : t = !u := by cases t <;> cases u <;> simp_all
      subst e'
      refine ⟨_, hc _ _ ((eqv_know hl).put _ _) (h2 rfl), fun σ' he hp K' hc' hK => guardW_of ho hd (hsl σ' he) ⟨fun e => absurd e (by cases u <;> decide), fun _ => ?_⟩⟩
      exact hc' _ _ ((eqv_know (hsl σ' he)).symm.put _ _) hK
theorem one_rd (hr : isRd o.op = true) (hk : oneW C all o σ K) (hc : Cl K) : ∃ av, K (σ.put o.dst av) ∧ ∀ σ', EvG all o σ σ' → rdP o.op σ σ' → ∀ K' : St → Prop, Cl K' → K' (σ'.put o.dst av) → oneW C all o σ' K' := by
  refine one_of (P := rdP o.op) (fun _ _ _ _ h => rdP_put h) (fun K hk => ?_) (fun d b K _ hk => ?_) hk hc
  · obtain ⟨av, h1, h2⟩ := rd_ex hr σ K hk
    exact ⟨av, h1, fun σ' he hp => h2 σ' ⟨he, hp⟩⟩
  · obtain ⟨av, h1, h2⟩ := rd_ex hr _ K hk
    exact ⟨av, h1, fun σ' he hp => h2 σ' ⟨he, hp⟩⟩
/-- A load by a slot that holds the address of one of the call's own variables, or of a read row's cell, or no address. -/
theorem one_ld {t : TypeId} {q : Nat} (ho : o.op = .load t (.tmp q)) {Db : Nat → Prop} (hq : ∀ pv, look q σ.slots = some pv → GoodD Db pv)
    (hk : oneW C all o σ K) (hc : Cl K) : ∃ av, K (σ.put o.dst av) ∧ ∀ σ', EvG all o σ σ' → (∀ d, Db d → look d σ'.boxes = look d σ.boxes) → ∀ K' : St → Prop, Cl K' → K' (σ'.put o.dst av) → oneW C all o σ' K' := by
  have e2 : ∀ (τ : St) d v, (τ.put d v).boxes = τ.boxes := fun τ d v => by cases d <;> rfl
  have main : ∀ (σ : St), (∀ pv, look q σ.slots = some pv → GoodD Db pv) → ∀ K, opW C o σ K →
      ∃ av, K (σ.put o.dst av) ∧ ∀ σ', EvA o σ σ' → (∀ d, Db d → look d σ'.boxes = look d σ.boxes) → ∀ K' : St → Prop, K' (σ'.put o.dst av) → opW C o σ' K' := by
    intro σ hq K hk
    have hk0 := hk
    simp only [opW, ho] at hk0
    obtain ⟨pv, h1, h2⟩ := onO_some hk0
    have hg := hq pv h1
    cases pv with
    | ptr d off =>
      obtain ⟨av, h3, h4⟩ := ld_ex ho h1 hk
      exact ⟨av, h3, fun σ' he hb K' hK => h4 σ' he (hb d hg) K' hK⟩
    | radd fr cs off =>
      obtain ⟨av, h3, h4⟩ := ld_radd ho h1 hk
      exact ⟨av, h3, fun σ' he _ K' hK => h4 σ' he K' hK⟩
    | addr d off => exact hg.elim
    | _ => exact h2.elim
  refine one_of (P := fun σ σ' => ∀ d, Db d → look d σ'.boxes = look d σ.boxes) (fun σ σ' dst v h d hd => by rw [e2, e2]; exact h d hd) (main σ hq) (fun d b K hl hk => ?_) hk hc
  refine main _ (fun pv hpv => ?_) K hk
  rw [look_put] at hpv
  split at hpv
  · injection hpv with hpv
    subst hpv
    trivial
  · exact hq pv hpv
def gOk (o : Oper) : Bool := o.guard.isNone || isRd o.op
theorem one_any (hgo : gOk o = true) (hk : oneW C all o σ K) (hc : Cl K) : ∃ av M, K ((σ.at M).put o.dst av) ∧ Keep o σ (σ.at M) ∧ Facts o σ M ∧
    ∀ σ', EvG all o σ σ' → Sm σ σ' → ∀ K' : St → Prop, Cl K' → K' ((σ'.at M).put o.dst av) → oneW C all o σ' K' := by
  by_cases hrd : isRd o.op = true
  · obtain ⟨av, h1, h2⟩ := one_rd hrd hk hc
    refine ⟨av, σ.mm, h1, Keep.refl σ, ⟨fun _ => rfl, fun h => ?_, fun h => ?_, fun h => ?_, fun t p x h => ?_⟩, fun σ' he hs K' hc' hK => h2 σ' he ?_ K' hc' (by rw [at_sm hs] at hK; exact hK)⟩
    · rw [not_rd (.inr (.inl h))] at hrd; cases hrd
    · rw [not_rd (.inl h)] at hrd; cases hrd
    · have : isRow o.op = true := by cases ho : o.op <;> rw [ho] at h <;> simp [isLitC] at h <;> rfl
      rw [not_rd (.inl this)] at hrd; cases hrd
    · rw [h] at hrd; cases hrd
    · have e1 : σ'.boxes = σ.boxes := congrArg Mm.bs hs
      have e2 : σ'.rows = σ.rows := congrArg Mm.rs hs
      have hm : Mle σ σ' := ⟨fun d bx h => by rw [e1]; exact h, fun d r h => by rw [e2]; exact h⟩
      unfold rdP
      split
      · trivial
      · split
        · exact hm.r
        · exact hm
  · have hgn : o.guard = none := by
      unfold gOk at hgo
      rw [Bool.or_eq_true] at hgo
      rcases hgo with h | h
      · exact Option.isNone_iff_eq_none.1 h
      · exact absurd h hrd
    unfold oneW at hk ⊢
    rw [hgn] at hk ⊢
    obtain ⟨av, M, h1, k1, f1, h2⟩ := any_ex σ K hk
    exact ⟨av, M, h1, k1, f1, fun σ' he hs K' _ hK => h2 σ' (evA_of he) hs K' hK⟩
theorem one_cl (hgo : gOk o = true) (hc : Cl K) : Cl (fun σ => oneW C all o σ K) := by
  intro σ τ he hk
  obtain ⟨av, M, h1, _, _, h2⟩ := one_any hgo hk hc
  exact h2 τ ⟨fun t _ => (he.1 t).symm, he.2.2.symm⟩ he.2.1.symm K hc (hc _ _ ((he.at M).put _ _) h1)
theorem one_mono (hgo : gOk o = true) (hk : oneW C all o σ K) (hc : Cl K) (hc' : Cl K') (h : ∀ σ, K σ → K' σ) : oneW C all o σ K' := by
  obtain ⟨av, M, h1, _, _, h2⟩ := one_any hgo hk hc
  exact h2 σ ⟨fun _ _ => rfl, rfl⟩ rfl K' hc' (h _ h1)
end
end Go.Rk

namespace Go.Rk
open Go.RowKit
/-- A region in which a store, or a value that is built, may go ahead of loads: the slot of the store's address (tp), and those of the loads'. -/
structure Rx where
  tp : Option Nat
  qs : List Nat
def Good (r : Rx) (ds : Nat) (pv : AV) : Prop := GoodD (fun d => r.tp.isSome = true → d ≠ ds) pv
/-- The slot that such an address comes from. -/
def trk (idx : Bool) : Op → Option Nat
  | .fieldAddr _ (.tmp b) _ => some b
  | .move (.tmp b) => some b
  | .indexAddr _ (.tmp b) _ => match idx with
    | true => some b
    | false => none
  | _ => none
structure InvR (rx : Option Rx) (ds : Nat) (σ : St) : Prop where
  wf : Wf σ
  q : ∀ r, rx = some r → ∀ q ∈ r.qs, ∀ pv, look q σ.slots = some pv → Good r ds pv
  t : ∀ r tp, rx = some r → r.tp = some tp → (∃ off, look tp σ.slots = some (.ptr ds off)) ∧ NoRow σ
def rxOk (rx : Option Rx) (o : Oper) : Bool :=
  match rx with
  | none => true
  | some r =>
    (match r.tp with
      | some tp => o.dst != some tp && !isRowy o.op
      | none => true) &&
    (match o.dst with
      | some d => !r.qs.contains d || (match trk r.tp.isSome o.op with
        | some b => r.qs.contains b
        | none => false)
      | none => true)
section
variable {C : Ctx} {all : Array Oper} {o : Oper} {σ σ' τ : St} {K K' : St → Prop} {rx : Option Rx} {ds : Nat}
theorem Wf.eqv (h : Wf σ) (e : σ.mm = τ.mm) : Wf τ := by
  have e1 : σ.boxes = τ.boxes := congrArg Mm.bs e
  have e2 : σ.rows = τ.rows := congrArg Mm.rs e
  have e3 : σ.nb = τ.nb := congrArg Mm.nb e
  have e4 : σ.nr = τ.nr := congrArg Mm.nr e
  exact ⟨fun d b hd => by rw [← e3, ← e4]; exact h.b d b (by rw [e1]; exact hd), fun d b hd => by rw [← e3, ← e4]; exact h.r d b (by rw [e2]; exact hd)⟩
theorem NoRow.eqv (h : NoRow σ) (e : σ.mm = τ.mm) : NoRow τ := by
  have e2 : σ.rows = τ.rows := congrArg Mm.rs e
  intro d r hd
  exact h d r (by rw [e2]; exact hd)
theorem InvR.cl : Cl (InvR rx ds) := fun σ τ e h => ⟨h.wf.eqv e.2.1, fun r hr q hq pv hp => h.q r hr q hq pv (by rw [e.1]; exact hp), fun r tp hr ht => by
  obtain ⟨⟨off, h1⟩, h2⟩ := h.t r tp hr ht
  exact ⟨⟨off, by rw [← e.1]; exact h1⟩, h2.eqv e.2.1⟩⟩
theorem Cl.and {A B : St → Prop} (ha : Cl A) (hb : Cl B) : Cl (fun σ => A σ ∧ B σ) := fun σ τ e h => ⟨ha σ τ e h.1, hb σ τ e h.2⟩
theorem fa_op {idx : Bool} {b : Nat} (ho : trk idx o.op = some b) (hn : idx = true → NoRow σ) {r : Rx} (hb : ∀ pv, look b σ.slots = some pv → Good r ds pv) {d : Nat} (hd : o.dst = some d) (hk : opW C o σ K) :
    opW C o σ (fun τ => K τ ∧ ∀ pv, look d τ.slots = some pv → Good r ds pv) := by
  have fin : ∀ av, Good r ds av → K (σ.put o.dst av) → K (σ.put o.dst av) ∧ ∀ pv, look d (σ.put o.dst av).slots = some pv → Good r ds pv := fun av hg h => ⟨h, fun pv hpv => by
    rw [look_put, hd, if_pos rfl] at hpv
    injection hpv with hpv
    subst hpv
    exact hg⟩
  cases ho' : o.op <;> rw [ho'] at ho <;> simp only [trk] at ho <;> (try (cases ho; done)) <;> simp only [opW, ho'] at hk ⊢
  case move x =>
    cases x <;> simp only at ho <;> (try (cases ho; done))
    injection ho with ho
    subst ho
    obtain ⟨pv, h1, hk⟩ := onO_some hk
    exact onO_of h1 (fin pv (hb pv h1) hk)
  case fieldAddr t x j =>
    cases x <;> simp only at ho <;> (try (cases ho; done))
    injection ho with ho
    subst ho
    obtain ⟨pv, h1, hk⟩ := onO_some hk
    refine onO_of h1 ?_
    obtain ⟨off, fi, ⟨h0, hk⟩, h2⟩ := Ex.fldW (P := fun _ _ => True) (C := C) t j σ _ hk
    have hg := hb pv h1
    cases pv with
    | ptr d' off' => exact h2 σ trivial _ ⟨h0, fin _ hg hk⟩
    | radd fr cs off' => exact h2 σ trivial _ ⟨h0, fin _ (by trivial) hk⟩
    | addr d' off' => exact hg.elim
    | _ => exact hk.elim
  case indexAddr t x i =>
    cases x <;> simp only at ho <;> (try (cases ho; done))
    cases idx <;> simp only at ho <;> (try (cases ho; done))
    injection ho with ho
    subst ho
    obtain ⟨pv, h1, hk⟩ := onO_some hk
    obtain ⟨iv, h2, hk⟩ := onO_some hk
    refine onO_of h1 (onO_of h2 ?_)
    obtain ⟨k, n, hk, h3⟩ := Ex.onI (P := fun _ _ => True) iv σ _ hk
    refine h3 σ trivial _ ?_
    have hg := hb pv h1
    have hn := hn rfl
    unfold idxW at hk ⊢
    obtain ⟨ti, h4, hk⟩ := onO_some hk
    refine onO_of h4 ?_
    cases e : ti.k with
    | slice el =>
      rw [e] at hk
      obtain ⟨ei, h5, hk⟩ := onO_some hk
      refine onO_of h5 ?_
      cases pv with
      | row fr m cs => exact ⟨hk.1, hk.2.1, hk.2.2.1, fin _ (by trivial) hk.2.2.2⟩
      | own d' =>
        simp only at hk
        split at hk
        · rename_i r' hr; exact absurd hr (hn _ _)
        · exact hk.elim
      | sub d' o' m =>
        simp only at hk
        split at hk
        · rename_i r' hr; exact absurd hr (hn _ _)
        · exact hk.elim
      | _ => exact hk.elim
    | arr m el =>
      rw [e] at hk
      obtain ⟨ei, h5, hk⟩ := onO_some hk
      refine onO_of h5 ?_
      cases pv with
      | ptr d' off' => exact ⟨hk.1, hk.2.1, fin _ hg hk.2.2⟩
      | radd fr cs off' => exact ⟨hk.1, hk.2.1, fin _ (by trivial) hk.2.2⟩
      | _ => exact hk.elim
    | _ => rw [e] at hk; exact hk.elim
theorem fa_one {idx : Bool} {b : Nat} (ho : trk idx o.op = some b) (hn : idx = true → NoRow σ) {r : Rx} (hb : ∀ pv, look b σ.slots = some pv → Good r ds pv) {d : Nat} (hd : o.dst = some d) (hk : oneW C all o σ K) :
    oneW C all o σ (fun τ => K τ ∧ ∀ pv, look d τ.slots = some pv → Good r ds pv) := by
  unfold oneW at hk ⊢
  cases hg : o.guard with
  | none => rw [hg] at hk; exact fa_op ho hn hb hd hk
  | some p =>
    obtain ⟨g, u⟩ := p
    rw [hg] at hk
    obtain ⟨og, d', t, h1, h2, h3, h4⟩ := guardW_some hk
    refine guardW_of h1 h2 h3 ⟨fun e => fa_op (σ := σ.put (some d') (.val (.bool u))) ho (fun e => hn e) (fun pv hpv => ?_) hd (h4.1 e), fun e => ⟨h4.2 e, fun pv hpv => ?_⟩⟩
    · rw [look_put] at hpv
      split at hpv
      · injection hpv with hpv; subst hpv; trivial
      · exact hb pv hpv
    · rw [look_put, hd, if_pos rfl] at hpv
      injection hpv with hpv
      subst hpv
      trivial
theorem one_inv (hgo : gOk o = true) (hx : rxOk rx o = true) (hi : InvR rx ds σ) (hk : oneW C all o σ K) (hc : Cl K) : oneW C all o σ (fun τ => K τ ∧ InvR rx ds τ) := by
  have base : ∀ K1 : St → Prop, Cl K1 → oneW C all o σ K1 → (∀ τ, K1 τ → K τ) → (∀ τ, K1 τ → ∀ r, rx = some r → ∀ d, o.dst = some d → d ∈ r.qs → ∀ pv, look d τ.slots = some pv → Good r ds pv) → oneW C all o σ (fun τ => K τ ∧ InvR rx ds τ) := by
    intro K1 hc1 hk1 hK hq
    obtain ⟨av, M, h1, k1, f1, h2⟩ := one_any hgo hk1 hc1
    refine h2 σ ⟨fun _ _ => rfl, rfl⟩ rfl _ (Cl.and hc InvR.cl) ⟨hK _ h1, ⟨?_, fun r hr q hqq pv hpv => ?_, fun r tp hr ht => ?_⟩⟩
    · exact (k1.wf hi.wf).eqv (mm_put _ _ _).symm
    · by_cases e : o.dst = some q
      · exact hq _ h1 r hr q e hqq pv hpv
      · rw [look_put, if_neg e] at hpv
        exact hi.q r hr q hqq pv hpv
    · subst hr
      simp only [rxOk, ht, Bool.and_eq_true] at hx
      obtain ⟨⟨off, h3⟩, h4⟩ := hi.t r tp rfl ht
      have hx1 : o.dst ≠ some tp := by simpa using hx.1.1
      refine ⟨⟨off, ?_⟩, (k1.nr (by simpa using hx.1.2) h4).eqv (mm_put _ _ _).symm⟩
      rw [look_put, if_neg hx1]
      exact h3
  cases hrx : rx with
  | none => rw [← hrx]; exact base K hc hk (fun _ h => h) (fun _ _ r hr => by rw [hrx] at hr; cases hr)
  | some r =>
    rw [← hrx]
    cases hd : o.dst with
    | none => exact base K hc hk (fun _ h => h) (fun _ _ r hr d hd' => by rw [hd] at hd'; cases hd')
    | some d =>
      by_cases hdq : d ∈ r.qs
      · have hx' := hx
        rw [hrx] at hx'
        simp only [rxOk, hd, Bool.and_eq_true, Bool.or_eq_true, Bool.not_eq_true'] at hx'
        have h5 := hx'.2
        rcases h5 with h5 | h5
        · simp [hdq] at h5
        · cases ho : trk r.tp.isSome o.op with
          | none => rw [ho] at h5; cases h5
          | some b =>
          rw [ho] at h5
          have hb : ∀ pv, look b σ.slots = some pv → Good r ds pv := fun pv hpv => hi.q r hrx b (by simpa using h5) pv hpv
          have hn : r.tp.isSome = true → NoRow σ := fun hs => by
            obtain ⟨tp, htp⟩ := Option.isSome_iff_exists.1 hs
            exact (hi.t r tp hrx htp).2
          refine base _ ?_ (fa_one ho hn hb hd hk) (fun _ h => h.1) (fun τ h r' hr' d' hd' _ pv hpv => ?_)
          · exact Cl.and hc (fun σ τ e h pv hpv => h pv (by rw [e.1]; exact hpv))
          · rw [hrx] at hr'
            injection hr' with hr'
            subst hr'
            rw [hd] at hd'
            injection hd' with hd'
            subst hd'
            exact h.2 pv hpv
      · refine base K hc hk (fun _ h => h) (fun _ _ r' hr' d' hd' hq => ?_)
        rw [hrx] at hr'
        injection hr' with hr'
        subst hr'
        rw [hd] at hd'
        injection hd' with hd'
        subst hd'
        exact absurd hq hdq
def isLdQ (r : Rx) : Op → Bool
  | .load _ (.tmp q) => r.qs.contains q
  | _ => false
def isStQ (r : Rx) : Op → Bool
  | .store _ (.tmp t) _ => r.tp == some t
  | _ => false
/-- i stands ahead of j in the text, and j may go first. -/
def cmt (rx : Option Rx) (i j : Op) : Bool :=
  (isRd i && (isPure i || isRd j || isAl j || isLitC j)) || isPure j || (isRow i && isAl j) ||
  match rx with
  | none => false
  | some r => (isLdQ r i && (isRow j || isStQ r j)) || (isRow i && isLdQ r j) || (isRowRd i && isStQ r j)
theorem isRd_pure {x : Op} (h : isPure x = true) : isRd x = true := by unfold isRd; rw [h]; rfl
theorem rdP_pure {x : Op} (h : isPure x = true) : rdP x σ σ' := by unfold rdP; rw [if_pos h]; trivial
theorem rdP_mle {x : Op} (h : Mle σ σ') : rdP x σ σ' := by
  unfold rdP
  split
  · trivial
  · split
    · exact h.r
    · exact h
theorem put_put_eqv {σ : St} {a b : Option Nat} (u v : AV) (h : ∀ d, a = some d → b ≠ some d) : Eqv ((σ.put a u).put b v) ((σ.put b v).put a u) := by
  refine ⟨fun t => ?_, by simp only [mm_put], by simp only [gl_put]⟩
  rw [look_put, look_put, look_put, look_put]
  by_cases e1 : a = some t <;> by_cases e2 : b = some t <;> simp [e1, e2]
  exact absurd e2 (h t e1)
theorem at_put (σ : St) (M : Mm) (d : Option Nat) (v : AV) : (σ.put d v).at M = (σ.at M).put d v := by cases d <;> rfl
theorem evG_put {x : Oper} {d : Option Nat} {v : AV} (h : ∀ t, d = some t → t ∉ x.looksAt all) : EvG all x σ (σ.put d v) :=
  ⟨fun t ht => by rw [look_put, if_neg (fun e => h t e ht)], gl_put _ _ _⟩
theorem EvG.trans {x : Oper} {υ : St} (h : EvG all x σ τ) (h' : EvG all x τ υ) : EvG all x σ υ := ⟨fun t ht => (h'.1 t ht).trans (h.1 t ht), h'.2.trans h.2⟩
theorem EvG.symm {x : Oper} (h : EvG all x σ τ) : EvG all x τ σ := ⟨fun t ht => (h.1 t ht).symm, h.2.symm⟩
theorem evG_at {x : Oper} (σ : St) (M : Mm) : EvG all x σ (σ.at M) := ⟨fun _ _ => rfl, rfl⟩
/-- First i, which only reads, and then j: or j first. -/
theorem comm_rd {i j : Oper} (hi : gOk i = true) (hj : gOk j = true) (hap : i.apart all j = true) (hc : Cl K)
    (hri : ∀ K, Cl K → oneW C all i σ K → ∃ av, K (σ.put i.dst av) ∧ ∀ M d v, Facts j σ M → EvG all i σ ((σ.at M).put d v) → ∀ K' : St → Prop, Cl K' → K' (((σ.at M).put d v).put i.dst av) → oneW C all i ((σ.at M).put d v) K')
    (hk : oneW C all i σ fun σ1 => oneW C all j σ1 K) : oneW C all j σ fun σ2 => oneW C all i σ2 K := by
  obtain ⟨a1, a2, a3⟩ := Oper.apart_spec hap
  obtain ⟨ai, h1, h2⟩ := hri _ (one_cl hj hc) hk
  obtain ⟨aj, M, h3, _, f, h4⟩ := one_any hj h1 hc
  have f' : Facts j σ M := by
    refine ⟨fun h => (f.rd h).trans (mm_put _ _ _), fun h => ?_, fun h => ?_, fun h => ?_, fun t p x ho d off hp d' hne => ?_⟩
    · obtain ⟨bx, e⟩ := f.al h
      exact ⟨bx, by rw [e]; cases i.dst <;> rfl⟩
    · obtain ⟨e1, e2⟩ := f.row h
      exact ⟨e1.trans (by cases i.dst <;> rfl), e2.trans (by cases i.dst <;> rfl)⟩
    · obtain ⟨bx, e⟩ := f.lit h
      exact ⟨bx, by rw [e]; cases i.dst <;> rfl⟩
    · have hp' : (σ.put i.dst ai).ev p = some (.ptr d off) := by
        rw [← hp]
        refine evA_of (o := j) (all := all) (evG_put a1) p ?_
        rw [ho]
        simp [Op.operands]
      have := f.st t p x ho d off hp' d' hne
      rw [this]
      cases i.dst <;> rfl
  refine h4 σ (evG_put a1).symm (mm_put _ _ _).symm _ (one_cl hi hc) ?_
  refine h2 M j.dst aj f' ((evG_at σ M).trans (evG_put a3)) K hc ?_
  rw [at_put] at h3
  exact hc _ _ (put_put_eqv _ _ a2) h3
/-- First i, and then j, which only reads: or j first. -/
theorem comm_dr {i j : Oper} (hi : gOk i = true) (hj : gOk j = true) (hap : i.apart all j = true) (hc : Cl K)
    (hrj : ∀ av M, Facts i σ M → ∀ K, Cl K → oneW C all j ((σ.at M).put i.dst av) K → ∃ aj, K (((σ.at M).put i.dst av).put j.dst aj) ∧ ∀ K' : St → Prop, Cl K' → K' (σ.put j.dst aj) → oneW C all j σ K')
    (hk : oneW C all i σ fun σ1 => oneW C all j σ1 K) : oneW C all j σ fun σ2 => oneW C all i σ2 K := by
  obtain ⟨a1, a2, a3⟩ := Oper.apart_spec hap
  obtain ⟨ai, M, h1, _, f, h2⟩ := one_any hi hk (one_cl hj hc)
  obtain ⟨aj, h3, h4⟩ := hrj ai M f K hc h1
  refine h4 _ (one_cl hi hc) (h2 _ (evG_put a3) (mm_put _ _ _) K hc ?_)
  rw [at_put]
  exact hc _ _ (put_put_eqv _ _ a2) h3
end
end Go.Rk

namespace Go.Rk
open Go.RowKit
section
variable {C : Ctx} {all : Array Oper} {o : Oper} {σ σ' τ : St} {K K' : St → Prop} {rx : Option Rx} {ds : Nat}
theorem al_op (h : isAl o.op = true) (hk : opW C o σ K) : ∃ bx, K ((σ.newBox bx).put o.dst (.ptr (2 * σ.nb) 0)) ∧ ∀ (σ' : St) (K' : St → Prop), K' ((σ'.newBox bx).put o.dst (.ptr (2 * σ'.nb) 0)) → opW C o σ' K' := by
  cases ho : o.op <;> rw [ho] at h <;> simp only [isAl, Bool.false_eq_true] at h
  rename_i e
  simp only [opW, ho] at hk ⊢
  obtain ⟨i, e1, hk⟩ := onO_some hk
  exact ⟨_, hk, fun σ' K' hK => onO_of e1 hK⟩
theorem guard_none (hg : gOk o = true) (h : isRd o.op = false) : o.guard = none := by
  unfold gOk at hg
  rw [h, Bool.or_false] at hg
  exact Option.isNone_iff_eq_none.1 hg
theorem boxes_at_put (σ : St) (M : Mm) (d : Option Nat) (v : AV) : ((σ.at M).put d v).boxes = M.bs := by cases d <;> rfl
theorem rows_at_put (σ : St) (M : Mm) (d : Option Nat) (v : AV) : ((σ.at M).put d v).rows = M.rs := by cases d <;> rfl
theorem comm {i j : Oper} (hi : gOk i = true) (hj : gOk j = true) (hap : i.apart all j = true) (hcm : cmt rx i.op j.op = true) (hv : InvR rx ds σ) (hc : Cl K)
    (hk : oneW C all i σ fun σ1 => oneW C all j σ1 K) : oneW C all j σ fun σ2 => oneW C all i σ2 K := by
  obtain ⟨a1, a2, a3⟩ := Oper.apart_spec hap
  have rdcase : isRd i.op = true → (∀ M d v, Facts j σ M → rdP i.op σ ((σ.at M).put d v)) → oneW C all j σ fun σ2 => oneW C all i σ2 K := by
    intro hr hp
    refine comm_rd hi hj hap hc (fun K1 hc1 hk1 => ?_) hk
    obtain ⟨av, h1, h2⟩ := one_rd hr hk1 hc1
    exact ⟨av, h1, fun M d v f he K' hc' hK => h2 _ he (hp M d v f) K' hc' hK⟩
  have ldspec : ∀ r, rx = some r → ∀ x : Oper, isLdQ r x.op = true → ∃ t q, x.op = .load t (.tmp q) ∧ q ∈ r.qs := by
    intro r hr x hx
    cases ho : x.op <;> rw [ho] at hx <;> simp only [isLdQ, Bool.false_eq_true] at hx
    rename_i t p
    cases p <;> simp only [Bool.false_eq_true] at hx
    rename_i q
    exact ⟨t, q, rfl, by simpa using hx⟩
  unfold cmt at hcm
  simp only [Bool.or_eq_true, Bool.and_eq_true] at hcm
  rcases hcm with ((⟨hr, h⟩ | h) | ⟨h1, h2⟩) | h
  · refine rdcase hr fun M d v f => ?_
    rcases h with ((h | h) | h) | h
    · exact rdP_pure h
    · refine rdP_mle ⟨fun d' bx hd => ?_, fun d' r hd => ?_⟩
      · rw [boxes_at_put, f.rd h]; exact hd
      · rw [rows_at_put, f.rd h]; exact hd
    · obtain ⟨bx0, e⟩ := f.al h
      refine rdP_mle ⟨fun d' bx hd => ?_, fun d' r hd => ?_⟩
      · rw [boxes_at_put, e]
        simp only [look_cons]
        have := hv.wf.b d' bx hd
        rw [if_neg (by omega)]
        exact hd
      · rw [rows_at_put, e]; exact hd
    · obtain ⟨r0, e⟩ := f.lit h
      refine rdP_mle ⟨fun d' bx hd => ?_, fun d' r hd => ?_⟩
      · rw [boxes_at_put, e]; exact hd
      · rw [rows_at_put, e]
        simp only [look_cons]
        have := hv.wf.r d' r hd
        rw [if_neg (by omega)]
        exact hd
  · refine comm_dr hi hj hap hc (fun av M f K1 hc1 hk1 => ?_) hk
    obtain ⟨aj, h1, h2⟩ := one_rd (isRd_pure h) hk1 hc1
    exact ⟨aj, h1, fun K' hc' hK => h2 σ ((evG_at σ M).trans (evG_put a1)).symm (rdP_pure h) K' hc' hK⟩
  · have gi := guard_none hi (not_rd (.inl h1))
    have gj := guard_none hj (not_rd (.inr (.inl h2)))
    unfold oneW at hk ⊢
    rw [gi] at hk ⊢
    rw [gj] at hk ⊢
    obtain ⟨av, ρ, n, hk, _, h3⟩ := row_ex h1 σ _ hk
    obtain ⟨bx, hk, h4⟩ := al_op h2 hk
    refine h4 σ _ (h3 _ (evA_of (all := all) ⟨fun t ht => ?_, by rw [gl_put]; rfl⟩) (by cases j.dst <;> rfl) (by cases j.dst <;> rfl) K ?_)
    · rw [look_put, if_neg (fun e => a3 t e ht)]; rfl
    · refine hc _ _ ?_ hk
      refine ⟨fun t => ?_, ?_, ?_⟩
      · have z : ∀ (x : St) t, look t ((x.rn ρ n).put i.dst av).slots = if i.dst = some t then some av else look t x.slots := fun x t => by rw [look_put]; rfl
        have z2 : ∀ (x : St) (m : Nat) t, look t ((x.newBox bx).put j.dst (.ptr m 0)).slots = if j.dst = some t then some (.ptr m 0) else look t x.slots := fun x m t => by rw [look_put]; rfl
        rw [z2, z, z, z2]
        have e0 : ((σ.rn ρ n).put i.dst av).nb = σ.nb := by cases i.dst <;> rfl
        rw [e0]
        by_cases e1 : i.dst = some t <;> by_cases e2 : j.dst = some t <;> simp [e1, e2]
        exact absurd e2 (a2 t e1)
      · rw [mm_put, mm_put]
        cases i.dst <;> cases j.dst <;> rfl
      · rw [gl_put, gl_put]
        cases i.dst <;> cases j.dst <;> rfl
  · cases hrx : rx with
    | none => rw [hrx] at h; cases h
    | some r =>
      rw [hrx] at h
      simp only [Bool.or_eq_true, Bool.and_eq_true] at h
      have stspec : isStQ r j.op = true → ∃ t p x, j.op = .store t (.tmp p) x ∧ r.tp = some p := by
        intro hs
        cases ho : j.op <;> rw [ho] at hs <;> simp only [isStQ, Bool.false_eq_true] at hs
        rename_i t p x
        cases p <;> simp only [Bool.false_eq_true] at hs
        exact ⟨_, _, _, rfl, by simpa using hs⟩
      rcases h with (⟨h1, h2⟩ | ⟨h1, h2⟩) | ⟨h1, h2⟩
      · obtain ⟨t, q, ho, hq⟩ := ldspec r hrx i h1
        refine comm_rd hi hj hap hc (fun K1 hc1 hk1 => ?_) hk
        obtain ⟨av, h3, h4⟩ := one_ld (Db := fun d => r.tp.isSome = true → d ≠ ds) ho (fun pv hpv => hv.q r hrx q hq pv hpv) hk1 hc1
        refine ⟨av, h3, fun M d v f he K' hc' hK => h4 _ he (fun d' hd' => ?_) K' hc' hK⟩
        rw [boxes_at_put]
        rcases h2 with h2 | h2
        · rw [(f.row h2).1]
        · obtain ⟨t', p, x, ho', htp⟩ := stspec h2
          obtain ⟨⟨off, hp⟩, _⟩ := hv.t r p hrx htp
          exact f.st t' (.tmp p) x ho' ds off hp d' (hd' (by rw [htp]; rfl))
      · obtain ⟨t, q, ho, hq⟩ := ldspec r hrx j h2
        refine comm_dr hi hj hap hc (fun av M f K1 hc1 hk1 => ?_) hk
        have hqj : q ∈ j.looksAt all := List.mem_append_left _ (List.mem_filterMap.2 ⟨.tmp q, by rw [ho]; simp [Op.operands], rfl⟩)
        obtain ⟨aj, h3, h4⟩ := one_ld (Db := fun d => r.tp.isSome = true → d ≠ ds) ho (fun pv hpv => hv.q r hrx q hq pv (by rw [look_put, if_neg (fun e => a1 q e hqj)] at hpv; exact hpv)) hk1 hc1
        refine ⟨aj, h3, fun K' hc' hK => h4 σ ((evG_at σ M).trans (evG_put a1)).symm (fun d' _ => ?_) K' hc' hK⟩
        rw [boxes_at_put, (f.row h1).1]
      · obtain ⟨t', p, x, ho', htp⟩ := stspec h2
        obtain ⟨_, hnr⟩ := hv.t r p hrx htp
        refine rdcase (by unfold isRd; rw [h1]; simp) fun M d v f => ?_
        unfold rdP
        split
        · trivial
        · exact fun d r hd => absurd hd (hnr d r)
/-- The operations by their numbers. -/
def opsI (C : Ctx) (all : Array Oper) : List Nat → St → (St → Prop) → Prop
  | [], σ, K => K σ
  | i :: l, σ, K => match all[i]? with
    | none => opsI C all l σ K
    | some o => oneW C all o σ fun σ' => opsI C all l σ' K
def wt (all : Array Oper) : Nat → Nat → Nat → Bool
  | 0, _, _ => false
  | n + 1, j, i => match all[j]? with
    | none => false
    | some o => o.after.toList.any fun e => Region.binds .any e && (e.on == i || (Nat.blt i e.on && wt all n e.on i))
/-- i stands ahead of j. -/
def pairOk (rx : Option Rx) (all : Array Oper) (i j : Nat) : Bool :=
  wt all 6 j i || match all[i]?, all[j]? with
    | some oi, some oj => oi.apart all oj && cmt rx oi.op oj.op
    | _, _ => true
def backOk (all : Array Oper) (j : Nat) : Bool :=
  match all[j]? with
  | none => true
  | some o => gOk o && o.after.toList.all fun e => !Region.binds .any e || Nat.blt e.on j
def regOk (rx : Option Rx) (all : Array Oper) : Bool :=
  (List.range all.size).all fun j => backOk all j && (match all[j]? with
    | some o => rxOk rx o
    | none => true) && (List.range j).all fun i => pairOk rx all i j
theorem opsI_cl (hg : ∀ (i : Nat) (o : Oper), all[i]? = some o → gOk o = true) (hc : Cl K) : ∀ l, Cl (fun σ => opsI C all l σ K)
  | [] => hc
  | i :: l => by
    have ih := opsI_cl hg hc l
    intro σ τ e h
    simp only [opsI] at h ⊢
    cases ho : all[i]? with
    | none => rw [ho] at h; exact ih σ τ e h
    | some o => rw [ho] at h; exact one_cl (hg i o ho) ih σ τ e h
theorem bubble (hg : ∀ (i : Nat) (o : Oper), all[i]? = some o → gOk o = true) (hx : ∀ (i : Nat) (o : Oper), all[i]? = some o → rxOk rx o = true) (hc : Cl K) {j : Nat} {oj : Oper} (hj : all[j]? = some oj) (l2 : List Nat) :
    ∀ (l1 : List Nat) (σ : St), InvR rx ds σ → (∀ i ∈ l1, ∀ oi, all[i]? = some oi → oi.apart all oj = true ∧ cmt rx oi.op oj.op = true) → opsI C all (l1 ++ j :: l2) σ K →
      oneW C all oj σ fun σ' => opsI C all (l1 ++ l2) σ' K
  | [], σ, _, _, hk => by simpa [opsI, hj] using hk
  | i :: l1, σ, hv, hs, hk => by
    have ih := fun σ hv => bubble hg hx hc hj l2 l1 σ hv (fun i hi => hs i (by simp [hi]))
    simp only [List.cons_append, opsI] at hk ⊢
    cases ho : all[i]? with
    | none => rw [ho] at hk; exact ih σ hv hk
    | some oi =>
      rw [ho] at hk
      obtain ⟨h1, h2⟩ := hs i (by simp) oi ho
      have hcl := opsI_cl (C := C) hg hc (l1 ++ l2)
      refine comm (hg i oi ho) (hg j oj hj) h1 h2 hv hcl ?_
      refine one_mono (hg i oi ho) (one_inv (hg i oi ho) (hx i oi ho) hv hk (opsI_cl hg hc _)) (Cl.and (opsI_cl hg hc _) InvR.cl) (one_cl (hg j oj hj) hcl) ?_
      rintro σ1 ⟨h3, h4⟩
      exact ih σ1 h4 h3
theorem wt_sound {listed : Array Bool} (hdc : ∀ k ok, all[k]? = some ok → listed.getD k false = true → ∀ e ∈ ok.after, Region.binds .any e = true → listed.getD e.on false = true) :
    ∀ (n j i : Nat) (oj : Oper), all[j]? = some oj → (∀ e ∈ oj.after, Region.binds .any e = true → listed.getD e.on false = true) → wt all n j i = true → listed.getD i false = true
  | 0, _, _, _, _, _, h => by cases h
  | n + 1, j, i, oj, hj, hd, h => by
    simp only [wt, hj, List.any_eq_true, Bool.and_eq_true, Bool.or_eq_true, beq_iff_eq] at h
    obtain ⟨e, he, hb, h⟩ := h
    have hl := hd e (by simpa using he) hb
    rcases h with h | ⟨_, h⟩
    · rw [← h]; exact hl
    · cases hk : all[e.on]? with
      | none => cases n <;> simp [wt, hk] at h
      | some ok => exact wt_sound hdc n e.on i ok hk (fun e' he' hb' => hdc e.on ok hk hl e' he' hb') h
end
end Go.Rk
