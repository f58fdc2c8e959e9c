/- DecdivLarge, the tied card: for every context and all Decs x and y the law answers true and leaves its arguments as they were, for a Dec with too many words gives ErrSize from each of the seven functions. Conditions: none beyond the given statement (part 6 of 8) -/
import Derived.Test.YtilkfpaelkekfaaDoorK04
import Derived.Test.YtilkfpaelkekfaaDoorProg
set_option linter.unusedVariables false
set_option linter.unusedSimpArgs false
namespace Go.Rk
open Go.RowKit
section
variable {β : Type} {r : β} {C : Ctx} {σ : St} {h : Nat → List AV → Option AV}
theorem onE_s {α : Type} {x : Option α} {KE : α → Option β} {KW : α → Prop} (hK : ∀ y, KE y = some r → KW y) (e : onE x KE = some r) : onO x KW := by
  cases x with
  | none => cases e
  | some a => exact hK a e
theorem ifE_s {b : Bool} {x : Option β} (e : ifE b x = some r) : b = true ∧ x = some r := by
  cases b with
  | false => cases e
  | true => exact ⟨rfl, e⟩
theorem blt_s {a b : Nat} (e : Nat.blt a b = true) : a < b := Nat.lt_of_lt_of_le (Nat.lt_succ_self _) (Nat.le_of_ble_eq_true e)
theorem frzE_s {av : AV} {KE : AV → St → Option β} {KW : AV → St → Prop} (hK : ∀ y τ, KE y τ = some r → KW y τ) (e : frzE σ av KE = some r) : frzW σ av KW := by
  cases av with
  | own d =>
    simp only [frzE, frzW] at e ⊢
    split at e
    · rename_i r' hr
      simp only [hr]
      exact hK _ _ e
    · cases e
  | sub d off n => cases e
  | _ => exact hK _ _ e
theorem rowE_s {av : AV} {KE : Nat → List AV → Option β} {KW : Nat → List AV → Prop} (hK : ∀ y τ, KE y τ = some r → KW y τ) (e : rowE σ av KE = some r) : rowW σ av KW := by
  cases av with
  | val v =>
    cases v with
    | slice A p q =>
      cases A with
      | none =>
        match p, q, e with
        | 0, 0, e => exact hK _ _ e
        | 0, _ + 1, e => cases e
        | _ + 1, _, e => cases e
      | some _ => cases e
    | _ => cases e
  | row fr n cells => exact hK _ _ e
  | own d =>
    simp only [rowE, rowW] at e ⊢
    split at e
    · rename_i r' hr
      simp only [hr]
      exact hK _ _ e
    · cases e
  | sub d off n =>
    simp only [rowE, rowW] at e ⊢
    split at e
    · rename_i r' hr
      simp only [hr]
      obtain ⟨h1, e⟩ := ifE_s e
      exact ⟨Nat.le_of_ble_eq_true h1, hK _ _ e⟩
    · cases e
  | _ => cases e
theorem loadE_s {t : TypeId} {cells : List AV} {off : Nat} {KE : AV → Option β} {KW : AV → Prop} (hK : ∀ y, KE y = some r → KW y) (e : loadE C t cells off KE = some r) : loadW C t cells off KW := by
  unfold loadE at e
  unfold loadW
  refine onE_s (fun i e => ?_) e
  cases hi : i.k.isAgg with
  | true =>
    rw [hi] at e
    obtain ⟨h1, e⟩ := ifE_s e
    exact ⟨Nat.le_of_ble_eq_true h1, hK _ e⟩
  | false =>
    rw [hi] at e
    exact onE_s hK e
theorem ldE_s {t : TypeId} {p : AV} {KE : AV → Option β} {KW : AV → Prop} (hK : ∀ y, KE y = some r → KW y) (e : ldE C σ t p KE = some r) : ldW C σ t p KW := by
  cases p with
  | ptr d off => exact onE_s (fun bx e => loadE_s hK e) e
  | radd fr cells off => exact loadE_s hK e
  | addr d off =>
    simp only [ldE, ldW] at e ⊢
    split at e
    · rename_i r' hr
      simp only [hr]
      exact loadE_s hK e
    · cases e
  | _ => cases e
theorem stE_s {t : TypeId} {p x : AV} {KE : St → Option β} {KW : St → Prop} (hK : ∀ y, KE y = some r → KW y) (e : stE C σ t p x KE = some r) : stW C σ t p x KW := by
  unfold stE at e
  unfold stW
  refine frzE_s (fun x' σ' e => onE_s (fun xs e => onE_s (fun i e => ?_) e) e) e
  obtain ⟨h1, e⟩ := ifE_s e
  refine ⟨Nat.eq_of_beq_eq_true h1, ?_⟩
  cases p with
  | ptr d off =>
    refine onE_s (fun bx e => ?_) e
    obtain ⟨h1, e⟩ := ifE_s e
    exact ⟨Nat.le_of_ble_eq_true h1, hK _ e⟩
  | addr d off =>
    simp only at e ⊢
    split at e
    · rename_i r' hr
      simp only [hr]
      obtain ⟨h1, e⟩ := ifE_s e
      exact ⟨Nat.le_of_ble_eq_true h1, hK _ e⟩
    · cases e
  | _ => cases e
theorem frzLE_s : ∀ {l : List (Nat × Operand)} {σ : St} {KE : List (Nat × AV) → St → Option β} {KW : List (Nat × AV) → St → Prop}, (∀ y τ, KE y τ = some r → KW y τ) → frzLE σ l KE = some r → frzL σ l KW
  | [], σ, KE, KW, hK, e => hK _ _ e
  | p :: l, σ, KE, KW, hK, e => onE_s (fun av e => frzE_s (fun av' σ' e => frzLE_s (fun ps τ e => hK _ _ e) e) e) e
theorem fillE_s {fs : List (Nat × TypeId)} : ∀ {ps : List (Nat × AV)} {cells : List AV} {KE : List AV → Option β} {KW : List AV → Prop}, (∀ y, KE y = some r → KW y) → fillE C fs cells ps KE = some r → fillW C fs cells ps KW
  | [], cells, KE, KW, hK, e => hK _ e
  | p :: l, cells, KE, KW, hK, e => onE_s (fun f e => onE_s (fun i e => onE_s (fun xs e => by
      obtain ⟨h1, e⟩ := ifE_s e
      obtain ⟨h2, e⟩ := ifE_s e
      exact ⟨Nat.eq_of_beq_eq_true h1, Nat.le_of_ble_eq_true h2, fillE_s hK e⟩) e) e) e
theorem litE_s {size : Nat} : ∀ {ps : List (Nat × AV)} {j : Nat} {KE : List AV → Option β} {KW : List AV → Prop}, (∀ y, KE y = some r → KW y) → litE size j ps KE = some r → litW size j ps KW
  | [], j, KE, KW, hK, e => hK _ e
  | p :: l, j, KE, KW, hK, e => by
    obtain ⟨h1, e⟩ := ifE_s e
    refine ⟨Nat.eq_of_beq_eq_true h1, onE_s (fun xs e => ?_) e⟩
    obtain ⟨h2, e⟩ := ifE_s e
    exact ⟨Nat.eq_of_beq_eq_true h2, litE_s (fun cs e => hK _ e) e⟩
theorem onIE_s {av : AV} {KE : IntKind → Int → Option β} {KW : IntKind → Int → Prop} (hK : ∀ y τ, KE y τ = some r → KW y τ) (e : onIE av KE = some r) : onI av KW := by
  cases av with
  | val v =>
    cases v with
    | int k n => exact hK _ _ e
    | _ => cases e
  | _ => cases e
theorem idxE_s {t : TypeId} {x : AV} {i : Int} {KE : AV → Option β} {KW : AV → Prop} (hK : ∀ y, KE y = some r → KW y) (e : idxE C σ t x i KE = some r) : idxW C σ t x i KW := by
  unfold idxE at e
  unfold idxW
  refine onE_s (fun ti e => ?_) e
  cases hk : ti.k with
  | slice el =>
    rw [hk] at e
    refine onE_s (fun ei e => ?_) e
    cases x with
    | row fr n cells =>
      obtain ⟨h1, e⟩ := ifE_s e
      obtain ⟨h2, e⟩ := ifE_s e
      obtain ⟨h3, e⟩ := ifE_s e
      exact ⟨of_decide_eq_true h1, of_decide_eq_true h2, blt_s h3, hK _ e⟩
    | own d =>
      simp only at e ⊢
      split at e
      · rename_i r' hr
        simp only [hr]
        obtain ⟨h1, e⟩ := ifE_s e
        obtain ⟨h2, e⟩ := ifE_s e
        obtain ⟨h3, e⟩ := ifE_s e
        exact ⟨of_decide_eq_true h1, of_decide_eq_true h2, Nat.eq_of_beq_eq_true h3, hK _ e⟩
      · cases e
    | sub d off n =>
      simp only at e ⊢
      split at e
      · rename_i r' hr
        simp only [hr]
        obtain ⟨h1, e⟩ := ifE_s e
        obtain ⟨h2, e⟩ := ifE_s e
        obtain ⟨h3, e⟩ := ifE_s e
        exact ⟨of_decide_eq_true h1, of_decide_eq_true h2, Nat.eq_of_beq_eq_true h3, hK _ e⟩
      · cases e
    | _ => cases e
  | arr n el =>
    rw [hk] at e
    refine onE_s (fun ei e => ?_) e
    cases x with
    | ptr d off =>
      obtain ⟨h1, e⟩ := ifE_s e
      obtain ⟨h2, e⟩ := ifE_s e
      exact ⟨of_decide_eq_true h1, of_decide_eq_true h2, hK _ e⟩
    | radd fr cells off =>
      obtain ⟨h1, e⟩ := ifE_s e
      obtain ⟨h2, e⟩ := ifE_s e
      exact ⟨of_decide_eq_true h1, of_decide_eq_true h2, hK _ e⟩
    | _ => cases e
  | _ => rw [hk] at e; cases e
theorem bndE_s {x : Option Operand} {d : Nat} {KE : Nat → Option β} {KW : Nat → Prop} (hK : ∀ y, KE y = some r → KW y) (e : bndE σ x d KE = some r) : bndW σ x d KW := by
  cases x with
  | none => exact hK _ e
  | some y => exact onE_s (fun av e => onIE_s (fun k n e => by
      obtain ⟨h1, e⟩ := ifE_s e
      exact ⟨of_decide_eq_true h1, hK _ e⟩) e) e
theorem mxhi {a b : Bool} (h : (!a || b) = true) : a = true → b = true := by cases a <;> cases b <;> simp_all
theorem cutE_s {t : TypeId} {x : AV} {lo hi mx : Option Operand} {KE : AV → Option β} {KW : AV → Prop} (hK : ∀ y, KE y = some r → KW y) (e : cutE C σ t x lo hi mx KE = some r) : cutW C σ t x lo hi mx KW := by
  unfold cutE at e
  unfold cutW
  refine onE_s (fun ti e => ?_) e
  cases hk : ti.k with
  | slice el =>
    rw [hk] at e
    refine onE_s (fun ei e => ?_) e
    cases x with
    | row fr n cells =>
      refine bndE_s (fun h e => bndE_s (fun m e => bndE_s (fun l e => ?_) e) e) e
      obtain ⟨h1, e⟩ := ifE_s e
      obtain ⟨h2, e⟩ := ifE_s e
      obtain ⟨h3, e⟩ := ifE_s e
      obtain ⟨h4, e⟩ := ifE_s e
      exact ⟨mxhi h1, Nat.le_of_ble_eq_true h2, Nat.le_of_ble_eq_true h3, Nat.le_of_ble_eq_true h4, hK _ e⟩
    | own d =>
      simp only at e ⊢
      split at e
      · rename_i r' hr
        simp only [hr]
        refine bndE_s (fun h e => bndE_s (fun l e => ?_) e) e
        obtain ⟨h1, e⟩ := ifE_s e
        obtain ⟨h2, e⟩ := ifE_s e
        obtain ⟨h3, e⟩ := ifE_s e
        obtain ⟨h4, e⟩ := ifE_s e
        exact ⟨Option.isNone_iff_eq_none.1 h1, Nat.le_of_ble_eq_true h2, Nat.le_of_ble_eq_true h3, Nat.eq_of_beq_eq_true h4, hK _ e⟩
      · cases e
    | sub d off n =>
      simp only at e ⊢
      split at e
      · rename_i r' hr
        simp only [hr]
        refine bndE_s (fun h e => bndE_s (fun l e => ?_) e) e
        obtain ⟨h1, e⟩ := ifE_s e
        obtain ⟨h2, e⟩ := ifE_s e
        obtain ⟨h3, e⟩ := ifE_s e
        obtain ⟨h4, e⟩ := ifE_s e
        exact ⟨Option.isNone_iff_eq_none.1 h1, Nat.le_of_ble_eq_true h2, Nat.le_of_ble_eq_true h3, Nat.eq_of_beq_eq_true h4, hK _ e⟩
      · cases e
    | val v =>
      have key : ∀ {KE : AV → Option β} {KW : AV → Prop}, (∀ y, KE y = some r → KW y) → (bndE σ hi 0 fun h => bndE σ mx 0 fun m => bndE σ lo 0 fun l => ifE (!mx.isSome || hi.isSome) (ifE (Nat.ble l h) (ifE (Nat.ble h m) (ifE (Nat.ble m 0) (KE (.val (.slice none 0 0))))))) = some r →
          bndW σ hi 0 fun h => bndW σ mx 0 fun m => bndW σ lo 0 fun l => (mx.isSome = true → hi.isSome = true) ∧ l ≤ h ∧ h ≤ m ∧ m ≤ 0 ∧ KW (.val (.slice none 0 0)) := by
        intro KE KW hK e
        refine bndE_s (fun h e => bndE_s (fun m e => bndE_s (fun l e => ?_) e) e) e
        obtain ⟨h1, e⟩ := ifE_s e
        obtain ⟨h2, e⟩ := ifE_s e
        obtain ⟨h3, e⟩ := ifE_s e
        obtain ⟨h4, e⟩ := ifE_s e
        exact ⟨mxhi h1, Nat.le_of_ble_eq_true h2, Nat.le_of_ble_eq_true h3, Nat.le_of_ble_eq_true h4, hK _ e⟩
      cases v with
      | slice A p q =>
        cases A with
        | none =>
          match p, q, e with
          | 0, 0, e => exact key hK e
          | 0, _ + 1, e => cases e
          | _ + 1, _, e => cases e
        | some _ => cases e
      | _ => cases e
    | _ => cases e
  | _ => rw [hk] at e; cases e
theorem fldE_s {t : TypeId} {j : Nat} {KE : Nat → TI → Option β} {KW : Nat → TI → Prop} (hK : ∀ y τ, KE y τ = some r → KW y τ) (e : fldE C t j KE = some r) : fldW C t j KW := by
  unfold fldE at e
  unfold fldW
  refine onE_s (fun ti e => ?_) e
  cases hk : ti.k with
  | struct fs => rw [hk] at e; exact onE_s (fun f e => onE_s (fun fi e => hK _ _ e) e) e
  | _ => rw [hk] at e; cases e
theorem fadE_s {t : TypeId} {x : AV} {j : Nat} {KE : AV → Option β} {KW : AV → Prop} (hK : ∀ y, KE y = some r → KW y) (e : fadE C t x j KE = some r) : fadW C t x j KW := by
  unfold fadE at e
  unfold fadW
  refine fldE_s (fun off fi e => ?_) e
  obtain ⟨h1, e⟩ := ifE_s e
  refine ⟨Nat.pos_iff_ne_zero.1 (blt_s h1), ?_⟩
  cases x <;> first | exact hK _ e | cases e
theorem partE_s {t : TypeId} {x : AV} {j : Nat} {KE : AV → Option β} {KW : AV → Prop} (hK : ∀ y, KE y = some r → KW y) (e : partE C t x j KE = some r) : partW C t x j KW := by
  unfold partE at e
  unfold partW
  refine fldE_s (fun off fi e => ?_) e
  cases x with
  | agg cells =>
    simp only at e ⊢
    cases hi : fi.k.isAgg with
    | true =>
      rw [hi] at e
      obtain ⟨h1, e⟩ := ifE_s e
      exact ⟨Nat.le_of_ble_eq_true h1, hK _ e⟩
    | false => rw [hi] at e; exact onE_s hK e
  | _ => cases e
theorem cvtE_s {av : AV} {KE : AV → Bool → Option β} {KW : AV → Bool → Prop} (hK : ∀ y τ, KE y τ = some r → KW y τ) (e : cvtE σ av KE = some r) : cvtW σ av KW := by
  cases av with
  | own d =>
    simp only [cvtE, cvtW] at e ⊢
    split at e
    · rename_i r' hr
      simp only [hr]
      obtain ⟨h1, e⟩ := ifE_s e
      exact ⟨h1, hK _ _ e⟩
    · cases e
  | sub d off n =>
    simp only [cvtE, cvtW] at e ⊢
    split at e
    · rename_i r' hr
      simp only [hr]
      obtain ⟨h1, e⟩ := ifE_s e
      obtain ⟨h2, e⟩ := ifE_s e
      exact ⟨Nat.le_of_ble_eq_true h1, h2, hK _ _ e⟩
    · cases e
  | ptr d off => exact onE_s (fun bx e => by
      obtain ⟨h1, e⟩ := ifE_s e
      exact ⟨h1, hK _ _ e⟩) e
  | val v =>
    obtain ⟨h1, e⟩ := ifE_s (b := (AV.val v).closed) (x := KE (AV.val v).unt false) e
    exact ⟨h1, hK _ _ e⟩
  | addr d off =>
    obtain ⟨h1, e⟩ := ifE_s (b := (AV.addr d off).closed) (x := KE (AV.addr d off).unt false) e
    exact ⟨h1, hK _ _ e⟩
  | row fr n cs =>
    obtain ⟨h1, e⟩ := ifE_s (b := (AV.row fr n cs).closed) (x := KE (AV.row fr n cs).unt false) e
    exact ⟨h1, hK _ _ e⟩
  | radd fr cs off =>
    obtain ⟨h1, e⟩ := ifE_s (b := (AV.radd fr cs off).closed) (x := KE (AV.radd fr cs off).unt false) e
    exact ⟨h1, hK _ _ e⟩
  | agg cs =>
    obtain ⟨h1, e⟩ := ifE_s (b := (AV.agg cs).closed) (x := KE (AV.agg cs).unt false) e
    exact ⟨h1, hK _ _ e⟩
  | tup cs =>
    obtain ⟨h1, e⟩ := ifE_s (b := (AV.tup cs).closed) (x := KE (AV.tup cs).unt false) e
    exact ⟨h1, hK _ _ e⟩
  | clo f cs =>
    obtain ⟨h1, e⟩ := ifE_s (b := (AV.clo f cs).closed) (x := KE (AV.clo f cs).unt false) e
    exact ⟨h1, hK _ _ e⟩
theorem argsE_s : ∀ {l : List Operand} {KE : List AV → Bool → Option β} {KW : List AV → Bool → Prop}, (∀ y τ, KE y τ = some r → KW y τ) → argsE σ l KE = some r → argsW σ l KW
  | [], KE, KW, hK, e => hK _ _ e
  | x :: l, KE, KW, hK, e => onE_s (fun av e => cvtE_s (fun av' o e => argsE_s (fun avs o' e => hK _ _ e) e) e) e
theorem capsE_s : ∀ {l : List AV} {KE : List AV → Bool → Option β} {KW : List AV → Bool → Prop}, (∀ y τ, KE y τ = some r → KW y τ) → capsE σ l KE = some r → capsW σ l KW
  | [], KE, KW, hK, e => hK _ _ e
  | x :: l, KE, KW, hK, e => cvtE_s (fun av' o e => capsE_s (fun avs o' e => hK _ _ e) e) e
theorem callE_s (hh : ∀ f args r, h f args = some r → ACalls C f args r) {f : FuncId} {args : List AV} {ow : Bool} {KE : AV → Option β} {KW : AV → Prop} (hK : ∀ y, KE y = some r → KW y) (e : callE C h f args ow KE = some r) : callW C f args ow KW := by
  unfold callE at e
  unfold callW
  cases hx : C.X f with
  | none =>
    rw [hx] at e
    cases hf : h f args with
    | none => rw [hf] at e; cases e
    | some q =>
      rw [hf] at e
      obtain ⟨h1, e⟩ := ifE_s (b := !ow || q.fresh) e
      exact ⟨q, hh _ _ _ hf, mxhi h1, hK _ e⟩
  | some x =>
    rw [hx] at e
    simp only [xE, xW] at e ⊢
    split at e
    · obtain ⟨h1, e⟩ := ifE_s e
      obtain ⟨h2, e⟩ := ifE_s e
      obtain ⟨h3, e⟩ := ifE_s e
      simp only [Bool.and_eq_true, decide_eq_true_eq] at h1 h2 h3
      exact ⟨h1, h2, h3, hK _ e⟩
    · cases e
theorem foldE_s {f : Int → Int → Int} {k : IntKind} : ∀ {l : List AV} {acc : Int} {KE : Int → Option β} {KW : Int → Prop}, (∀ y, KE y = some r → KW y) → foldE f k acc l KE = some r → foldI f k acc l KW
  | [], acc, KE, KW, hK, e => hK _ e
  | av :: l, acc, KE, KW, hK, e => onIE_s (fun k' n e => by
      obtain ⟨h1, e⟩ := ifE_s e
      exact ⟨of_decide_eq_true h1, foldE_s hK e⟩) e
theorem evLE_s : ∀ {l : List Operand} {KE : List AV → Option β} {KW : List AV → Prop}, (∀ y, KE y = some r → KW y) → evLE σ l KE = some r → evL σ l KW
  | [], KE, KW, hK, e => hK _ e
  | x :: l, KE, KW, hK, e => onE_s (fun av e => evLE_s (fun avs e => hK _ e) e) e
theorem appE_s {dst : Option Nat} {t : TypeId} {s x : AV} {KE : St → Option β} {KW : St → Prop} (hK : ∀ y, KE y = some r → KW y) (e : appE C σ dst t s x KE = some r) : appW C σ dst t s x KW := by
  unfold appE at e
  unfold appW
  refine onE_s (fun ti e => ?_) e
  cases hk : ti.k with
  | slice el =>
    rw [hk] at e
    refine onE_s (fun ei e => rowE_s (fun m news e => ?_) e) e
    obtain ⟨h1, e⟩ := ifE_s e
    obtain ⟨h2, e⟩ := ifE_s e
    refine ⟨blt_s h1, Nat.eq_of_beq_eq_true h2, ?_⟩
    cases s with
    | val v =>
      cases v with
      | slice A p q =>
        cases A with
        | none =>
          match p, q, e with
          | 0, 0, e =>
            obtain ⟨h1, e⟩ := ifE_s e
            obtain ⟨h2, e⟩ := ifE_s e
            exact ⟨Nat.le_of_ble_eq_true h1, Nat.le_of_ble_eq_true h2, hK _ e⟩
          | 0, _ + 1, e => cases e
          | _ + 1, _, e => cases e
        | some _ => cases e
      | _ => cases e
    | own d =>
      simp only at e ⊢
      split at e
      · rename_i r' hr
        simp only [hr]
        obtain ⟨h1, e⟩ := ifE_s e
        obtain ⟨h2, e⟩ := ifE_s e
        obtain ⟨h3, e⟩ := ifE_s e
        obtain ⟨h4, e⟩ := ifE_s e
        exact ⟨Nat.eq_of_beq_eq_true h1, Nat.eq_of_beq_eq_true h2, Nat.le_of_ble_eq_true h3, Nat.le_of_ble_eq_true h4, hK _ e⟩
      · cases e
    | _ => cases e
  | _ => rw [hk] at e; cases e
theorem isSl_s {t : TypeId} (e : isSl C t = true) : ∃ i, C.T t = some i ∧ ∃ e, i.k = .slice e := by
  unfold isSl at e
  cases ht : C.T t with
  | none => rw [ht] at e; cases e
  | some i =>
    rw [ht] at e
    simp only at e
    cases hk : i.k with
    | slice el => exact ⟨i, rfl, el, hk⟩
    | _ => rw [hk] at e; cases e
theorem bltE_s {dst : Option Nat} {b : Builtin} {ts : Array TypeId} {args : List AV} {KE : St → Option β} {KW : St → Prop} (hK : ∀ y, KE y = some r → KW y) (e : bltE C σ dst b ts args KE = some r) : bltW C σ dst b ts args KW := by
  unfold bltE at e
  unfold bltW
  split at e
  · refine rowE_s (fun n cs e => ?_) e
    cases ht : ts[0]? with
    | none => rw [ht] at e; cases e
    | some t =>
      rw [ht] at e
      obtain ⟨h1, e⟩ := ifE_s (b := isSl C t) e
      exact ⟨⟨t, rfl, isSl_s h1⟩, hK _ e⟩
  · exact onIE_s (fun k n e => foldE_s (fun r e => hK _ e) e) e
  · exact onIE_s (fun k n e => foldE_s (fun r e => hK _ e) e) e
  · refine onE_s (fun t e => ?_) e
    obtain ⟨h1, e⟩ := ifE_s e
    refine ⟨?_, appE_s hK e⟩
    obtain ⟨l⟩ := ts
    match l, h1 with
    | [t1, t2], h1 =>
      simp only [Bool.and_eq_true] at h1
      rw [Nat.eq_of_beq_eq_true h1.1, Nat.eq_of_beq_eq_true h1.2]
    | [], h1 => cases h1
    | [_], h1 => cases h1
    | _ :: _ :: _ :: _, h1 => cases h1
  · cases e
theorem intE_s {op : BinOp} {k : IntKind} {a b : Int} {KE : Value → Option β} {KW : Value → Prop} (hK : ∀ y, KE y = some r → KW y) (e : intE op k a b KE = some r) : intW op k a b KW := by
  cases op <;> simp only [intE] at e <;> simp only [intW] <;> first
    | exact hK _ e
    | (obtain ⟨h1, e⟩ := ifE_s e; exact ⟨by simpa using h1, hK _ e⟩)
    | cases e
theorem binW_int {op : BinOp} (h1 : op ≠ .shl) (h2 : op ≠ .shr) {k k' : IntKind} {a b : Int} {K : Value → Prop} : binW op (.int k a) (.int k' b) K = (k = k' ∧ intW op k a b K) := by
  cases op <;> first | rfl | exact absurd rfl h1 | exact absurd rfl h2
theorem binE_int {op : BinOp} (h1 : op ≠ .shl) (h2 : op ≠ .shr) {k k' : IntKind} {a b : Int} {K : Value → Option β} : binE op (.int k a) (.int k' b) K = ifE (decide (k = k')) (intE op k a b K) := by
  cases op <;> first | rfl | exact absurd rfl h1 | exact absurd rfl h2
theorem binE_s {op : BinOp} {x y : Value} {KE : Value → Option β} {KW : Value → Prop} (hK : ∀ y, KE y = some r → KW y) (e : binE op x y KE = some r) : binW op x y KW := by
  cases x with
  | int k a =>
    cases y with
    | int k' b =>
      by_cases h1 : op = .shl
      · subst h1
        obtain ⟨h1, e⟩ := ifE_s (b := decide (0 ≤ b)) e
        exact ⟨of_decide_eq_true h1, hK _ e⟩
      · by_cases h2 : op = .shr
        · subst h2
          obtain ⟨h1, e⟩ := ifE_s (b := decide (0 ≤ b)) e
          exact ⟨of_decide_eq_true h1, hK _ e⟩
        · rw [binE_int h1 h2] at e
          rw [binW_int h1 h2]
          obtain ⟨h3, e⟩ := ifE_s e
          exact ⟨of_decide_eq_true h3, intE_s hK e⟩
    | _ => cases op <;> cases e
  | bool a =>
    cases y with
    | bool b => cases op <;> first | exact hK _ e | cases e
    | _ => cases op <;> cases e
  | _ => cases y <;> cases op <;> cases e
theorem isBo_s {t : TypeId} (e : isBo C t = true) : ∃ i, C.T t = some i ∧ i.k = .bool := by
  unfold isBo at e
  cases ht : C.T t with
  | none => rw [ht] at e; cases e
  | some i =>
    rw [ht] at e
    simp only at e
    cases hk : i.k with
    | bool => exact ⟨i, rfl, hk⟩
    | _ => rw [hk] at e; cases e
theorem opE_s (hh : ∀ f args r, h f args = some r → ACalls C f args r) {o : Oper} {KE : St → Option β} {KW : St → Prop} (hK : ∀ y, KE y = some r → KW y) (e : opE C h o σ KE = some r) : opW C o σ KW := by
  unfold opE at e
  unfold opW
  cases ho : o.op <;> rw [ho] at e <;> (try simp only at e ⊢) <;> (try (cases e; done))
  case move x => exact onE_s (fun av e => hK _ e) e
  case assign x => exact onE_s (fun av e => hK _ e) e
  case pick c a b =>
    refine onE_s (fun cv e => ?_) e
    cases cv with
    | val v =>
      cases v with
      | bool t =>
        cases t with
        | true => exact ⟨fun _ => onE_s (fun av e => hK _ e) e, fun e => by cases e⟩
        | false => exact ⟨fun e => (by cases e), fun _ => onE_s (fun av e => hK _ e) e⟩
      | _ => cases e
    | _ => cases e
  case alloc t => exact onE_s (fun i e => hK _ e) e
  case box t x => exact onE_s (fun av e => frzE_s (fun av' σ' e => onE_s (fun cs e => hK _ e) e) e) e
  case build t parts =>
    refine onE_s (fun i e => ?_) e
    cases hk : i.k with
    | struct fs => rw [hk] at e; exact frzLE_s (fun ps τ e => fillE_s (fun cs e => hK _ e) e) e
    | _ => rw [hk] at e; cases e
  case buildSlice t len parts =>
    refine onE_s (fun i e => ?_) e
    cases hk : i.k with
    | slice el =>
      rw [hk] at e
      refine onE_s (fun ei e => frzLE_s (fun ps τ e => ?_) e) e
      obtain ⟨h1, e⟩ := ifE_s e
      obtain ⟨h2, e⟩ := ifE_s e
      obtain ⟨h3, e⟩ := ifE_s e
      exact ⟨Nat.eq_of_beq_eq_true h1, Nat.le_of_ble_eq_true h2, blt_s h3, litE_s (fun cs e => hK _ e) e⟩
    | _ => rw [hk] at e; cases e
  case load t p => exact onE_s (fun pv e => ldE_s (fun av e => hK _ e) e) e
  case store t p x => exact onE_s (fun pv e => onE_s (fun xv e => stE_s (fun τ e => hK _ e) e) e) e
  case nilCheck x =>
    refine onE_s (fun av e => ?_) e
    cases av with
    | ptr _ _ => exact hK _ e
    | addr _ _ => exact hK _ e
    | radd _ _ _ => exact hK _ e
    | clo _ _ => exact hK _ e
    | val v =>
      cases v with
      | func f a b =>
        cases f with
        | func g => exact hK _ e
        | _ => cases e
      | _ => cases e
    | _ => cases e
  case binOp op t x y z =>
    refine onE_s (fun xv e => onE_s (fun yv e => ?_) e) e
    cases xv with
    | val a =>
      cases yv with
      | val b =>
        obtain ⟨h1, e⟩ := ifE_s e
        refine ⟨fun hb => ?_, binE_s (fun v e => hK _ e) e⟩
        cases a with
        | bool c => exact isBo_s (by simpa using h1)
        | _ => cases hb
      | _ => cases e
    | _ => cases e
  case unOp op t x =>
    refine onE_s (fun xv e => ?_) e
    split at e
    · exact hK _ e
    · exact hK _ e
    · exact hK _ e
    · cases e
  case convert st dt x =>
    refine onE_s (fun i e => onE_s (fun xv e => onIE_s (fun k n e => onE_s (fun i e => ?_) e) e) e) e
    cases hk : i.k with
    | int k' => rw [hk] at e; exact hK _ e
    | _ => rw [hk] at e; cases e
  case fieldAddr t x j => exact onE_s (fun xv e => fadE_s (fun av e => hK _ e) e) e
  case field t x j => exact onE_s (fun xv e => partE_s (fun av e => hK _ e) e) e
  case indexAddr t x i => exact onE_s (fun xv e => onE_s (fun iv e => onIE_s (fun k n e => idxE_s (fun av e => hK _ e) e) e) e) e
  case index t x i =>
    refine onE_s (fun ti e => onE_s (fun xv e => onE_s (fun iv e => onIE_s (fun k n e => ?_) e) e) e) e
    cases hk : ti.k with
    | str =>
      rw [hk] at e
      cases xv with
      | val v =>
        cases v with
        | string s =>
          obtain ⟨h1, e⟩ := ifE_s e
          exact ⟨of_decide_eq_true h1, onE_s (fun b e => hK _ e) e⟩
        | _ => cases e
      | _ => cases e
    | _ => rw [hk] at e; cases e
  case slice t x lo hi mx => exact onE_s (fun xv e => cutE_s (fun av e => hK _ e) e) e
  case makeSlice t l c =>
    refine onE_s (fun lv e => onIE_s (fun k n e => onE_s (fun cv e => onIE_s (fun k' n' e => ?_) e) e) e) e
    obtain ⟨h1, e⟩ := ifE_s e
    obtain ⟨h2, e⟩ := ifE_s e
    obtain ⟨h3, e⟩ := ifE_s e
    refine ⟨of_decide_eq_true h1, of_decide_eq_true h2, of_decide_eq_true h3, onE_s (fun i e => ?_) e⟩
    cases hk : i.k with
    | slice el =>
      rw [hk] at e
      refine onE_s (fun ei e => ?_) e
      cases hz : ei.zero with
      | nil => rw [hz] at e; cases e
      | cons z zs =>
        cases zs with
        | cons _ _ => rw [hz] at e; cases e
        | nil =>
          rw [hz] at e
          obtain ⟨h1, e⟩ := ifE_s e
          obtain ⟨h2, e⟩ := ifE_s e
          obtain ⟨h3, e⟩ := ifE_s e
          exact ⟨of_decide_eq_true h1, of_decide_eq_true h2, Nat.le_of_ble_eq_true h3, hK _ e⟩
    | _ => rw [hk] at e; cases e
  case makeFunc f first caps =>
    cases f with
    | func f =>
      obtain ⟨h1, e⟩ := ifE_s e
      exact ⟨by simpa using h1, evLE_s (fun cs e => hK _ e) e⟩
    | _ => cases e
  case extract x j =>
    refine onE_s (fun xv e => ?_) e
    cases xv with
    | tup vs => exact onE_s (fun av e => hK _ e) e
    | _ => cases e
  case call c =>
    cases hc : c.callee with
    | value f =>
      rw [hc] at e
      refine onE_s (fun fv e => argsE_s (fun args ow e => ?_) e) e
      split at e
      · obtain ⟨h1, e⟩ := ifE_s e
        simp only [Bool.and_eq_true, Array.isEmpty_iff] at h1
        exact ⟨h1.1, h1.2, callE_s hh (fun r e => hK _ e) e⟩
      · exact capsE_s (fun cs ow' e => callE_s hh (fun r e => hK _ e) e) e
      · cases e
    | builtin b => rw [hc] at e; exact evLE_s (fun args e => bltE_s hK e) e
    | invoke r m => rw [hc] at e; cases e
end
end Go.Rk

namespace Go.Rk
open Go.RowKit
section
variable {C : Ctx} {R : List (Nat × Rx)} {h : Nat → List AV → Option AV}
theorem Incl.refl (σ : St) : Incl σ σ := fun w0 N E a w hr => ⟨E, hr, rfl, rfl, rfl⟩
theorem Incl.trans {σ τ υ : St} (h : Incl σ τ) (h' : Incl τ υ) : Incl σ υ := fun w0 N E a w hr => by
  obtain ⟨E1, h1, e1, e2, e3⟩ := h w0 N E a w hr
  obtain ⟨E2, h2, d1, d2, d3⟩ := h' w0 N E1 a w h1
  exact ⟨E2, h2, d1.trans e1, d2.trans e2, d3.trans e3⟩
theorem Incl.eqv {σ τ : St} (h : Eqv σ τ) : Incl σ τ := fun w0 N E a w hr => ⟨E, rel_eqv h hr, rfl, rfl, rfl⟩
theorem opsW_mono {all : Array Oper} : ∀ {l : List Oper} {σ : St} {K K' : St → Prop}, opsW C all l σ K → (∀ σ, K σ → K' σ) → opsW C all l σ K'
  | [], σ, K, K', hk, h => h _ hk
  | o :: l, σ, K, K', hk, h => by
    rw [opsW_cons] at hk ⊢
    exact one_mono' hk fun σ' h' => opsW_mono h' h
theorem codeW_mono : ∀ (c : Code) {σ : St} {Q Q' : AEx → St → Prop}, codeW C R c σ Q → (∀ e σ, Q e σ → Q' e σ) → codeW C R c σ Q' := by
  intro c
  induction c with
  | skip => intro σ Q Q' hk h; exact h _ _ hk
  | region id ops dr =>
    intro σ Q Q' hk h
    cases dr with
    | false => exact opsW_mono (K := Q .normal) hk (h .normal)
    | true => exact ⟨hk.1, opsW_mono hk.2 (h .normal)⟩
  | seq x y ihx ihy =>
    intro σ Q Q' hk h
    refine ihx hk fun e σ' h' => ?_
    cases e with
    | normal => exact ihy h' h
    | exit j => exact h _ _ h'
    | ret => exact h _ _ h'
  | cond c x y ihx ihy =>
    intro σ Q Q' hk h
    obtain ⟨av, e1, hk⟩ := onO_some hk
    refine onO_of e1 ?_
    cases av with
    | val v =>
      cases v with
      | bool t => exact ⟨fun e => ihx (hk.1 e) h, fun e => ihy (hk.2 e) h⟩
      | _ => exact hk.elim
    | _ => exact hk.elim
  | block id c ih =>
    intro σ Q Q' hk h
    refine ih hk fun e σ' h' => ?_
    cases e with
    | normal => exact h _ _ h'
    | exit j =>
      simp only at h' ⊢
      split
      · rename_i e; rw [if_pos e] at h'; exact h _ _ h'
      · rename_i e; rw [if_neg e] at h'; exact h _ _ h'
    | ret => exact h _ _ h'
  | loop c ih =>
    intro σ Q Q' hk h
    obtain ⟨α, I, μ, x0, hI, hr⟩ := hk
    refine ⟨α, I, μ, x0, hI, fun x => ih (hr x) fun e σ' h' => ?_⟩
    cases e with
    | normal => exact h'
    | exit j => exact h _ _ h'
    | ret => exact h _ _ h'
  | exit id => intro σ Q Q' hk h; exact h _ _ hk
  | ret => intro σ Q Q' hk h; exact h _ _ hk
  | _ => intro σ Q Q' hk h; exact hk.elim
def opsE (C : Ctx) (h : Nat → List AV → Option AV) (all : Array Oper) : List Oper → St → Option St
  | [], σ => some σ
  | o :: l, σ => match (match o.guard with
      | none => opE C h o σ some
      | some (g, u) => onE ((all[g]?).bind (·.dst)) fun d => match look d σ.slots with
        | some (.val (.bool t)) => match t == u with
          | true => opE C h o (σ.put (some d) (.val (.bool u))) some
          | false => some ((σ.put (some d) (.val (.bool (!u)))).put o.dst (.val undef))
        | _ => none) with
    | some τ => opsE C h all l τ
    | none => none
theorem opsE_s (hh : ∀ f args r, h f args = some r → ACalls C f args r) {all : Array Oper} : ∀ {l : List Oper} {σ τ : St} {K : St → Prop}, opsE C h all l σ = some τ → K τ → opsW C all l σ K
  | [], σ, τ, K, e, hK => by injection e with e; subst e; exact hK
  | o :: l, σ, τ, K, e, hK => by
    rw [opsW_cons]
    simp only [opsE] at e
    unfold oneW
    cases hg : o.guard with
    | none =>
      rw [hg] at e
      simp only at e ⊢
      cases h1 : opE C h o σ some with
      | none => rw [h1] at e; cases e
      | some τ1 =>
        rw [h1] at e
        exact opE_s hh (KE := some) (fun y hy => by injection hy with hy; subst hy; exact opsE_s hh e hK) h1
    | some p =>
      obtain ⟨g, u⟩ := p
      rw [hg] at e
      simp only at e ⊢
      cases h1 : (onE ((all[g]?).bind (·.dst)) fun d => match look d σ.slots with
        | some (.val (.bool t)) => match t == u with
          | true => opE C h o (σ.put (some d) (.val (.bool u))) some
          | false => some ((σ.put (some d) (.val (.bool (!u)))).put o.dst (.val undef))
        | _ => none) with
      | none => rw [h1] at e; cases e
      | some τ1 =>
        rw [h1] at e
        unfold guardW
        refine onE_s (fun d h2 => ?_) h1
        cases hl : look d σ.slots with
        | none => rw [hl] at h2; cases h2
        | some av =>
          rw [hl] at h2
          refine onO_of rfl ?_
          cases av with
          | val v =>
            cases v with
            | bool t =>
              simp only at h2 ⊢
              cases htu : t == u with
              | true =>
                rw [htu] at h2
                have htu' : t = u := by simpa using htu
                refine ⟨fun _ => opE_s hh (KE := some) (fun y hy => by injection hy with hy; subst hy; exact opsE_s hh e hK) h2, fun e => ?_⟩
                subst htu'
                cases t <;> cases e
              | false =>
                rw [htu] at h2
                have htu' : ¬ t = u := by simpa using htu
                injection h2 with h2
                subst h2
                exact ⟨fun e => absurd e htu', fun _ => opsE_s hh e hK⟩
            | _ => cases h2
          | _ => cases h2
def dynQE (Pd : Nat → Bool) (σ : St) : List Nat → Bool
  | [] => true
  | q :: l => (match look q σ.slots with
    | none => true
    | some (.ptr d _) => Pd d
    | some (.addr _ _) => false
    | _ => true) && dynQE Pd σ l
def dynE : Option Rx → St → Bool
  | none, _ => true
  | some ⟨none, qs⟩, σ => dynQE (fun _ => true) σ qs
  | some ⟨some tp, qs⟩, σ => noRow σ.rows && match look tp σ.slots with
    | some (.ptr d _) => dynQE (fun d' => !Nat.beq d' d) σ qs
    | _ => false
theorem dynQE_s {Pd : Nat → Bool} {Pp : Nat → Prop} (hp : ∀ d, Pd d = true → Pp d) {σ : St} : ∀ {qs : List Nat}, dynQE Pd σ qs = true → dynQs Pp σ qs
  | [], _ => trivial
  | q :: l, e => by
    simp only [dynQE, Bool.and_eq_true] at e
    refine ⟨?_, dynQE_s hp e.2⟩
    have e1 := e.1
    cases hl : look q σ.slots with
    | none => trivial
    | some av =>
      rw [hl] at e1
      cases av with
      | ptr d off => exact hp d e1
      | addr d off => cases e1
      | _ => trivial
theorem dynE_s {rx : Option Rx} {σ : St} (e : dynE rx σ = true) : DynW rx σ := by
  cases rx with
  | none => trivial
  | some r =>
    obtain ⟨tp, qs⟩ := r
    cases tp with
    | none => exact dynQE_s (fun _ _ => trivial) e
    | some tp =>
      simp only [dynE, Bool.and_eq_true] at e
      refine ⟨e.1, ?_⟩
      have e2 := e.2
      cases hl : look tp σ.slots with
      | none => rw [hl] at e2; cases e2
      | some av =>
        rw [hl] at e2
        cases av with
        | ptr d off => exact dynQE_s (fun d' hd => by intro he; subst he; simp at hd) e2
        | _ => cases e2
def codeE (C : Ctx) (R : List (Nat × Rx)) (h : Nat → List AV → Option AV) : Nat → Code → St → Option (AEx × St)
  | 0, _, _ => none
  | _ + 1, .skip, σ => some (.normal, σ)
  | _ + 1, .region id ops dr, σ => ifE (!dr || dynE (look id R) σ) (match opsE C h ops ops.toList σ with
    | some τ => some (.normal, τ)
    | none => none)
  | n + 1, .seq x y, σ => match codeE C R h n x σ with
    | some (.normal, τ) => codeE C R h n y τ
    | some (.exit j, τ) => some (.exit j, τ)
    | some (.ret, τ) => some (.ret, τ)
    | none => none
  | n + 1, .cond c x y, σ => match σ.ev c with
    | some (.val (.bool true)) => codeE C R h n x (σ.know c true)
    | some (.val (.bool false)) => codeE C R h n y (σ.know c false)
    | _ => none
  | n + 1, .block id c, σ => match codeE C R h n c σ with
    | some (.normal, τ) => some (.normal, τ)
    | some (.exit j, τ) => match Nat.beq j id with
      | true => some (.normal, τ)
      | false => some (.exit j, τ)
    | some (.ret, τ) => some (.ret, τ)
    | none => none
  | n + 1, .loop c, σ => match codeE C R h n c σ with
    | some (.normal, τ) => codeE C R h n (.loop c) τ
    | some (.exit j, τ) => some (.exit j, τ)
    | some (.ret, τ) => some (.ret, τ)
    | none => none
  | _ + 1, .exit id, σ => some (.exit id, σ)
  | _ + 1, .ret, σ => some (.ret, σ)
  | _, _, _ => none
theorem codeE_s (hh : ∀ f args r, h f args = some r → ACalls C f args r) : ∀ (n : Nat) (c : Code) {σ τ : St} {e : AEx} {Q : AEx → St → Prop}, codeE C R h n c σ = some (e, τ) → Q e τ → codeW C R c σ Q := by
  intro n
  induction n with
  | zero => intro c σ τ e Q he; cases he
  | succ n ih =>
    intro c σ τ e Q he hQ
    cases c with
    | skip => injection he with he; injection he with h1 h2; subst h1 h2; exact hQ
    | region id ops dr =>
      simp only [codeE] at he
      obtain ⟨h1, he⟩ := ifE_s he
      cases ho : opsE C h ops ops.toList σ with
      | none => rw [ho] at he; cases he
      | some τ' =>
        rw [ho] at he
        injection he with he
        injection he with h2 h3
        subst h2 h3
        cases dr with
        | false => exact opsE_s hh (K := Q .normal) ho hQ
        | true => exact ⟨dynE_s (by simpa using h1), opsE_s hh ho hQ⟩
    | seq x y =>
      simp only [codeE] at he
      cases hx : codeE C R h n x σ with
      | none => rw [hx] at he; cases he
      | some p =>
        obtain ⟨e1, τ1⟩ := p
        rw [hx] at he
        refine ih x hx ?_
        cases e1 with
        | normal => exact ih y he hQ
        | exit j => injection he with he; injection he with h2 h3; subst h2 h3; exact hQ
        | ret => injection he with he; injection he with h2 h3; subst h2 h3; exact hQ
    | cond c x y =>
      simp only [codeE] at he
      cases hc : σ.ev c with
      | none => rw [hc] at he; cases he
      | some av =>
        rw [hc] at he
        refine onO_of hc ?_
        cases av with
        | val v =>
          cases v with
          | bool t =>
            cases t with
            | true => exact ⟨fun _ => ih x he hQ, fun e => by cases e⟩
            | false => exact ⟨fun e => (by cases e), fun _ => ih y he hQ⟩
          | _ => cases he
        | _ => cases he
    | block id c =>
      simp only [codeE] at he
      cases hx : codeE C R h n c σ with
      | none => rw [hx] at he; cases he
      | some p =>
        obtain ⟨e1, τ1⟩ := p
        rw [hx] at he
        refine ih c hx ?_
        cases e1 with
        | normal => injection he with he; injection he with h2 h3; subst h2 h3; exact hQ
        | exit j =>
          simp only at he ⊢
          cases hj : Nat.beq j id with
          | true =>
            rw [hj] at he
            injection he with he
            injection he with h2 h3
            subst h2 h3
            rw [if_pos (Nat.eq_of_beq_eq_true hj)]
            exact hQ
          | false =>
            rw [hj] at he
            injection he with he
            injection he with h2 h3
            subst h2 h3
            rw [if_neg (fun e => by subst e; simp at hj)]
            exact hQ
        | ret => injection he with he; injection he with h2 h3; subst h2 h3; exact hQ
    | loop c =>
      simp only [codeE] at he
      cases hx : codeE C R h n c σ with
      | none => rw [hx] at he; cases he
      | some p =>
        obtain ⟨e1, τ1⟩ := p
        rw [hx] at he
        cases e1 with
        | normal =>
          obtain ⟨α, I, μ, x0, hI, hr⟩ := ih (.loop c) he hQ
          refine ⟨Option α, fun x => x.elim σ I, fun x => x.elim (μ x0 + 1) μ, none, Incl.refl σ, fun x => ?_⟩
          cases x with
          | none => exact ih c hx ⟨some x0, hI, Nat.lt_succ_self _⟩
          | some x =>
            refine codeW_mono c (hr x) fun e σ' h' => ?_
            cases e with
            | normal =>
              obtain ⟨x', h1, h2⟩ := h'
              exact ⟨some x', h1, h2⟩
            | exit j => exact h'
            | ret => exact h'
        | exit j =>
          injection he with he; injection he with h2 h3; subst h2 h3
          exact ⟨Unit, fun _ => σ, fun _ => 0, (), Incl.refl σ, fun _ => ih c hx hQ⟩
        | ret =>
          injection he with he; injection he with h2 h3; subst h2 h3
          exact ⟨Unit, fun _ => σ, fun _ => 0, (), Incl.refl σ, fun _ => ih c hx hQ⟩
    | exit id => injection he with he; injection he with h1 h2; subst h1 h2; exact hQ
    | ret => injection he with he; injection he with h1 h2; subst h1 h2; exact hQ
    | _ => cases he
def resE {β : Type} (C : Ctx) (σ : St) : List ResultVar → (List AV → St → Option β) → Option β
  | [], K => K [] σ
  | .tmp t :: l, K => onE (look t σ.slots) fun av => frzE σ av fun av' σ' => resE C σ' l fun avs σ'' => K (av' :: avs) σ''
  | .cell p ty :: l, K => onE (look p σ.slots) fun pv => ifE (match pv with | .ptr _ _ => true | _ => false) (ldE C σ ty pv fun av => frzE σ av fun av' σ' => resE C σ' l fun avs σ'' => K (av' :: avs) σ'')
theorem resE_s {β : Type} {r : β} : ∀ {l : List ResultVar} {σ : St} {KE : List AV → St → Option β} {KW : List AV → St → Prop}, (∀ y τ, KE y τ = some r → KW y τ) → resE C σ l KE = some r → resW C σ l KW
  | [], σ, KE, KW, hK, e => hK _ _ e
  | .tmp t :: l, σ, KE, KW, hK, e => onE_s (fun av e => frzE_s (fun av' σ' e => resE_s (fun avs τ e => hK _ _ e) e) e) e
  | .cell p ty :: l, σ, KE, KW, hK, e => onE_s (fun pv e => by
      obtain ⟨h1, e⟩ := ifE_s e
      exact ⟨h1, ldE_s (fun av e => frzE_s (fun av' σ' e => resE_s (fun avs τ e => hK _ _ e) e) e) e⟩) e
structure Fn where
  f : Func
  R : List (Nat × Rx)
def fnE (C : Ctx) (F : List (Nat × Fn)) : Nat → Nat → List AV → Option AV
  | 0, _, _ => none
  | n + 1, f, args => onE (look f F) fun fn => onE fn.f.body fun c => ifE (Nat.ble args.length fn.f.ntmps) (match codeE C fn.R (fnE C F n) n c (St.init C args) with
    | some (e, τ) => ifE e.done (resE C τ fn.f.results.toList fun avs _ => ifE (oneRes avs).closed (some (oneRes avs)))
    | none => none)
def fnFit (fn : Fn) : Bool := !(fn.f.name == "runtime.NumGoroutine") && match fn.f.body with
  | some c => codeFit fn.R fn.f.ntmps c
  | none => true
inductive FOk (C : Ctx) : List (Nat × Fn) → Prop
  | nil : FOk C []
  | cons {f : Nat} {fn : Fn} {l : List (Nat × Fn)} : C.P.funcs[f]? = some fn.f → fnFit fn = true → FOk C l → FOk C ((f, fn) :: l)
theorem FOk.get {F : List (Nat × Fn)} (h : FOk C F) {f : Nat} {fn : Fn} (e : look f F = some fn) : C.P.funcs[f]? = some fn.f ∧ fnFit fn = true := by
  induction h with
  | nil => cases e
  | cons h1 h2 _ ih =>
    rw [look_cons] at e
    split at e
    · rename_i e'; injection e with e; subst e e'; exact ⟨h1, h2⟩
    · exact ih e
/-- WHAT IS COMPUTED IS WHAT THE CALL HANDS BACK. -/
theorem fnE_s (hC : C.Okx) (hm : C.P.follows .mixedOrders = true) {F : List (Nat × Fn)} (hF : FOk C F) : ∀ (n f : Nat) (args : List AV) (r : AV), fnE C F n f args = some r → ACalls C f args r := by
  intro n
  induction n with
  | zero => intro f args r e; cases e
  | succ n ih =>
    intro f args r e
    simp only [fnE] at e
    cases hl : look f F with
    | none => rw [hl] at e; cases e
    | some fn =>
      rw [hl] at e
      obtain ⟨h1, h2⟩ := hF.get hl
      simp only [onE] at e
      cases hb : fn.f.body with
      | none => rw [hb] at e; cases e
      | some c =>
        rw [hb] at e
        simp only at e
        obtain ⟨h3, e⟩ := ifE_s e
        simp only [fnFit, hb, Bool.and_eq_true, Bool.not_eq_true'] at h2
        cases hc : codeE C fn.R (fnE C F n) n c (St.init C args) with
        | none => rw [hc] at e; cases e
        | some p =>
          obtain ⟨ex, τ⟩ := p
          rw [hc] at e
          obtain ⟨h4, e⟩ := ifE_s e
          refine ACalls.of hC hm (R := fn.R) h1 hb h2.1 h2.2 h3 (codeE_s ih n c hc ⟨h4, resE_s (r := r) (fun avs τ e => ?_) e⟩)
          obtain ⟨h5, e⟩ := ifE_s e
          injection e with e
          exact ⟨h5, .inl e⟩
end
end Go.Rk

namespace Go.Rk
open Go.RowKit
/-! A context out of a program's own tables. -/
def tkOf : TypeDesc → TK
  | .int k => .int k
  | .bool => .bool
  | .slice e => .slice e
  | .struct fs => .struct (fs.toList.map fun f => (f.offset, f.type))
  | .array n e => .arr n e
  | .string => .str
  | _ => .other
def isAggV : Value → Bool
  | .agg _ => true
  | _ => false
def fldsOk (P : Program) : TypeDesc → Bool
  | .struct fs => fs.toList.all fun f => (P.info? f.type).isSome
  | _ => true
def tiOf (P : Program) (t : TypeId) : Option TI :=
  match P.info? t with
  | none => none
  | some inf => match inf.zero with
    | none => none
    | some z => match P.underlying t with
      | none => none
      | some d => match Nat.beq z.cells.toList.length inf.size && z.cells.toList.all Value.oneCell' && fldsOk P d && (!(tkOf d).isAgg || isAggV z) with
        | true => some ⟨tkOf d, inf.size, inf.bytes, z.cells.toList⟩
        | false => none
theorem tiOf_s {P : Program} {t : TypeId} {i : TI} (h : tiOf P t = some i) : TFit P t i := by
  unfold tiOf at h
  cases h1 : P.info? t with
  | none => rw [h1] at h; cases h
  | some inf =>
    rw [h1] at h
    simp only at h
    cases h2 : inf.zero with
    | none => rw [h2] at h; cases h
    | some z =>
      rw [h2] at h
      simp only at h
      cases h3 : P.underlying t with
      | none => rw [h3] at h; cases h
      | some d =>
        rw [h3] at h
        simp only at h
        split at h
        · rename_i hb
          injection h with h
          subst h
          simp only [Bool.and_eq_true, Bool.or_eq_true, Bool.not_eq_true'] at hb
          obtain ⟨⟨⟨b1, b2⟩, b3⟩, b4⟩ := hb
          refine ⟨⟨inf, z, h1, rfl, rfl, h2, rfl, fun ha => ?_⟩, Nat.eq_of_beq_eq_true b1, b2, ?_⟩
          · rcases b4 with e | e
            · rw [ha] at e; cases e
            · cases z <;> simp [isAggV] at e
              exact ⟨_, rfl⟩
          · cases d <;> simp only [tkOf, TK.fits] <;> first | exact h3 | skip
            case struct fs => exact ⟨fs, h3, rfl, b3⟩
            all_goals exact ⟨_, h3, rfl⟩
        · cases h
def tyOk (P : Program) (T : List (Nat × TI)) : Prop := (T.map fun p => tiOf P p.1) = T.map fun p => some p.2
theorem tyOk_get {P : Program} {T : List (Nat × TI)} (h : tyOk P T) {t : Nat} {i : TI} (e : look t T = some i) : tiOf P t = some i := by
  induction T with
  | nil => cases e
  | cons p l ih =>
    simp only [tyOk, List.map_cons, List.cons.injEq] at h
    rw [look_cons] at e
    split at e
    · rename_i e'; injection e with e; subst e; rw [e']; exact h.1
    · exact ih h.2 e
/-- The package-level variables that are laid, as they lie. -/
def GlOk (gl : List (Nat × List Value)) (w : World) : Prop := ∀ g vs, look g gl = some vs → g < w.heap.size ∧ ∀ j (h : j < vs.length), w.cell? ⟨g, j, none⟩ = some vs[j] ∧ (vs[j]).oneCell' = true
def addF (args : Array Value) : Sem Value := do
  let (x, y, c) ← Extern.MathBitsCarry.three "Add64" args
  pure (Extern.MathBitsCarry.pair ((x + y + c) % Extern.MathBitsCarry.m64) ((x + y + c) / Extern.MathBitsCarry.m64))
def subF (args : Array Value) : Sem Value := do
  let (x, y, b) ← Extern.MathBitsCarry.three "Sub64" args
  pure (Extern.MathBitsCarry.pair ((x + Extern.MathBitsCarry.m64 - y - b) % Extern.MathBitsCarry.m64) (if x < y + b then 1 else 0))
theorem ext_run {P : Program} {f : FuncId} {fn : Func} (hf : P.funcs[f]? = some fn) (hb : fn.body = none) (hn : (fn.name == "runtime.NumGoroutine") = false) {F : Array Value → Sem Value} (h1 : Extern.findNext fn = none) (h2 : Extern.find fn = some F) {args : Array Value} {w : World} {v : Value} (hv : (F args).run P w = .ok v w) :
    (callFunc f args).run P w = .ok (.value v) w := by
  have hn' : ¬ fn.name = "runtime.NumGoroutine" := by simpa using hn
  have hm : ∀ (m : Mark) (w : World), (Sem.mark m (Sem.pure ())).run P w = .ok () w := fun _ _ => rfl
  simp [callFunc, hf, hb, hn', h1, h2, mark, hm, hv]
theorem three_run {P : Program} {w : World} (name : String) (a b c : Int) (hc : 0 ≤ c ∧ c ≤ 1) : (Extern.MathBitsCarry.three name #[.int .u64 a, .int .u64 b, .int .u64 c]).run P w = .ok (a.toNat, b.toNat, c.toNat) w := by
  rcases (show c = 0 ∨ c = 1 by omega) with rfl | rfl <;> rfl
theorem add64_run {P : Program} {f : FuncId} {fn : Func} (hf : P.funcs[f]? = some fn) (hb : fn.body = none) (hn : (fn.name == "runtime.NumGoroutine") = false) (h1 : Extern.findNext fn = none) (h2 : Extern.find fn = some addF) (w : World) (a b c : Int) (ha : 0 ≤ a ∧ a < 18446744073709551616) (hb' : 0 ≤ b ∧ b < 18446744073709551616) (hc : 0 ≤ c ∧ c ≤ 1) :
    (callFunc f #[.int .u64 a, .int .u64 b, .int .u64 c]).run P w = .ok (.value (.tuple #[.int .u64 (XK.add64.fst a b c), .int .u64 (XK.add64.snd a b c)])) w := by
  refine ext_run hf hb hn h1 h2 ?_
  simp only [addF, Sem.run_bind, three_run _ a b c hc, Result.andThen_ok, Sem.run_pure, Extern.MathBitsCarry.pair, XK.fst, XK.snd]
  have e1 : Int.ofNat ((a.toNat + b.toNat + c.toNat) % Extern.MathBitsCarry.m64) = (a + b + c) % 18446744073709551616 := by
    simp only [Extern.MathBitsCarry.m64, Int.ofNat_eq_natCast]; omega
  have e2 : Int.ofNat ((a.toNat + b.toNat + c.toNat) / Extern.MathBitsCarry.m64) = (a + b + c) / 18446744073709551616 := by
    simp only [Extern.MathBitsCarry.m64, Int.ofNat_eq_natCast]; omega
  rw [e1, e2]
theorem sub64_run {P : Program} {f : FuncId} {fn : Func} (hf : P.funcs[f]? = some fn) (hb : fn.body = none) (hn : (fn.name == "runtime.NumGoroutine") = false) (h1 : Extern.findNext fn = none) (h2 : Extern.find fn = some subF) (w : World) (a b c : Int) (ha : 0 ≤ a ∧ a < 18446744073709551616) (hb' : 0 ≤ b ∧ b < 18446744073709551616) (hc : 0 ≤ c ∧ c ≤ 1) :
    (callFunc f #[.int .u64 a, .int .u64 b, .int .u64 c]).run P w = .ok (.value (.tuple #[.int .u64 (XK.sub64.fst a b c), .int .u64 (XK.sub64.snd a b c)])) w := by
  refine ext_run hf hb hn h1 h2 ?_
  simp only [subF, Sem.run_bind, three_run _ a b c hc, Result.andThen_ok, Sem.run_pure, Extern.MathBitsCarry.pair, XK.fst, XK.snd]
  have e1 : Int.ofNat ((a.toNat + Extern.MathBitsCarry.m64 - b.toNat - c.toNat) % Extern.MathBitsCarry.m64) = (a - b - c) % 18446744073709551616 := by
    simp only [Extern.MathBitsCarry.m64, Int.ofNat_eq_natCast]; omega
  have e2 : Int.ofNat (if a.toNat < b.toNat + c.toNat then 1 else 0) = if a < b + c then 1 else 0 := by
    by_cases h : a < b + c
    · rw [if_pos h, if_pos (by omega)]; rfl
    · rw [if_neg h, if_neg (by omega)]; rfl
  rw [e1, e2]
end Go.Rk

set_option maxRecDepth 100000
namespace Go.Rk
open Go.RowKit
open Go.Proofs
def tyTab : List (Nat × TI) := [
  (1, ⟨.other, 1, 8, [.nilFunc]⟩),
  (2, ⟨.int .i64, 1, 8, [.int .i64 0]⟩),
  (3, ⟨.int .i64, 1, 8, [.int .i64 0]⟩),
  (4, ⟨.bool, 1, 1, [.bool false]⟩),
  (5, ⟨.int .u8, 1, 1, [.int .u8 0]⟩),
  (6, ⟨.int .u8, 1, 1, [.int .u8 0]⟩),
  (7, ⟨.struct [(0, 2), (1, 3), (2, 4), (3, 6)], 4, 24, [.int .i64 0, .int .i64 0, .bool false, .int .u8 0]⟩),
  (8, ⟨.struct [(0, 2), (1, 3), (2, 4), (3, 6)], 4, 24, [.int .i64 0, .int .i64 0, .bool false, .int .u8 0]⟩),
  (9, ⟨.str, 1, 16, [.string ByteArray.empty]⟩),
  (10, ⟨.str, 1, 16, [.string ByteArray.empty]⟩),
  (11, ⟨.str, 1, 16, [.string ByteArray.empty]⟩),
  (12, ⟨.int .u64, 1, 8, [.int .u64 0]⟩),
  (13, ⟨.struct [(0, 9), (1, 12)], 2, 24, [.string ByteArray.empty, .int .u64 0]⟩),
  (14, ⟨.struct [(0, 9), (1, 12)], 2, 24, [.string ByteArray.empty, .int .u64 0]⟩),
  (15, ⟨.other, 1, 8, [.pointer none]⟩),
  (16, ⟨.other, 1, 8, [.pointer none]⟩),
  (17, ⟨.other, 1, 8, [.pointer none]⟩),
  (18, ⟨.struct [(0, 17)], 1, 8, [.pointer none]⟩),
  (19, ⟨.struct [(0, 17)], 1, 8, [.pointer none]⟩),
  (21, ⟨.int .i32, 1, 4, [.int .i32 0]⟩),
  (22, ⟨.int .i64, 1, 8, [.int .i64 0]⟩),
  (23, ⟨.struct [(0, 3), (1, 3), (2, 22)], 3, 24, [.int .i64 0, .int .i64 0, .int .i64 0]⟩),
  (24, ⟨.struct [(0, 3), (1, 3), (2, 22)], 3, 24, [.int .i64 0, .int .i64 0, .int .i64 0]⟩),
  (25, ⟨.int .i64, 1, 8, [.int .i64 0]⟩),
  (26, ⟨.slice 46, 1, 24, [.slice none 0 0]⟩),
  (27, ⟨.slice 46, 1, 24, [.slice none 0 0]⟩),
  (28, ⟨.struct [(0, 25), (1, 4), (2, 27), (3, 3)], 4, 48, [.int .i64 0, .bool false, .slice none 0 0, .int .i64 0]⟩),
  (29, ⟨.struct [(0, 25), (1, 4), (2, 27), (3, 3)], 4, 48, [.int .i64 0, .bool false, .slice none 0 0, .int .i64 0]⟩),
  (30, ⟨.other, 1, 8, [.nilFunc]⟩),
  (31, ⟨.other, 1, 8, [.nilFunc]⟩),
  (32, ⟨.other, 1, 8, [.nilFunc]⟩),
  (33, ⟨.int .i64, 1, 8, [.int .i64 0]⟩),
  (34, ⟨.int .i64, 1, 8, [.int .i64 0]⟩),
  (36, ⟨.other, 1, 8, [.nilFunc]⟩),
  (37, ⟨.other, 1, 8, [.nilFunc]⟩),
  (38, ⟨.other, 1, 8, [.nilFunc]⟩),
  (40, ⟨.other, 1, 8, [.nilFunc]⟩),
  (41, ⟨.struct [(0, 3), (1, 4), (2, 27), (3, 3)], 4, 48, [.int .i64 0, .bool false, .slice none 0 0, .int .i64 0]⟩),
  (42, ⟨.struct [(0, 3), (1, 4), (2, 27), (3, 3)], 4, 48, [.int .i64 0, .bool false, .slice none 0 0, .int .i64 0]⟩),
  (43, ⟨.other, 1, 8, [.nilFunc]⟩),
  (44, ⟨.other, 1, 8, [.nilFunc]⟩),
  (45, ⟨.slice 29, 1, 24, [.slice none 0 0]⟩),
  (46, ⟨.int .u64, 1, 8, [.int .u64 0]⟩),
  (48, ⟨.other, 1, 8, [.nilFunc]⟩),
  (50, ⟨.other, 1, 8, [.nilFunc]⟩),
  (51, ⟨.other, 1, 8, [.nilFunc]⟩),
  (53, ⟨.other, 1, 8, [.nilFunc]⟩),
  (55, ⟨.other, 1, 8, [.nilFunc]⟩),
  (56, ⟨.other, 1, 8, [.nilFunc]⟩),
  (57, ⟨.other, 1, 8, [.nilFunc]⟩),
  (58, ⟨.other, 1, 8, [.nilFunc]⟩),
  (59, ⟨.other, 1, 8, [.nilFunc]⟩),
  (60, ⟨.other, 1, 8, [.nilFunc]⟩),
  (62, ⟨.other, 1, 8, [.nilFunc]⟩),
  (63, ⟨.other, 1, 8, [.nilFunc]⟩),
  (64, ⟨.other, 1, 8, [.nilFunc]⟩),
  (65, ⟨.other, 1, 8, [.nilFunc]⟩),
  (66, ⟨.other, 1, 8, [.nilFunc]⟩),
  (67, ⟨.other, 1, 8, [.nilFunc]⟩),
  (69, ⟨.other, 1, 8, [.nilFunc]⟩),
  (70, ⟨.other, 1, 8, [.nilFunc]⟩),
  (71, ⟨.other, 1, 8, [.nilFunc]⟩),
  (72, ⟨.other, 1, 8, [.nilFunc]⟩),
  (73, ⟨.other, 1, 8, [.nilFunc]⟩),
  (74, ⟨.other, 1, 8, [.nilFunc]⟩),
  (75, ⟨.other, 1, 8, [.nilFunc]⟩),
  (77, ⟨.other, 1, 8, [.nilFunc]⟩),
  (79, ⟨.other, 1, 8, [.nilFunc]⟩),
  (80, ⟨.other, 1, 8, [.nilFunc]⟩),
  (81, ⟨.other, 1, 8, [.nilFunc]⟩),
  (82, ⟨.struct [(0, 4), (1, 27), (2, 3)], 3, 40, [.bool false, .slice none 0 0, .int .i64 0]⟩),
  (83, ⟨.struct [(0, 4), (1, 27), (2, 3)], 3, 40, [.bool false, .slice none 0 0, .int .i64 0]⟩),
  (85, ⟨.other, 1, 8, [.nilFunc]⟩),
  (86, ⟨.int .u64, 1, 8, [.int .u64 0]⟩),
  (87, ⟨.other, 1, 8, [.nilFunc]⟩),
  (88, ⟨.other, 1, 8, [.nilFunc]⟩),
  (90, ⟨.other, 1, 8, [.nilFunc]⟩),
  (91, ⟨.other, 1, 8, [.nilFunc]⟩),
  (93, ⟨.other, 1, 8, [.nilFunc]⟩),
  (94, ⟨.other, 1, 8, [.nilFunc]⟩),
  (95, ⟨.other, 1, 8, [.nilFunc]⟩),
  (97, ⟨.other, 1, 8, [.nilFunc]⟩),
  (98, ⟨.other, 1, 8, [.nilFunc]⟩),
  (99, ⟨.other, 1, 8, [.nilFunc]⟩),
  (100, ⟨.other, 1, 8, [.nilFunc]⟩),
  (102, ⟨.other, 1, 8, [.nilFunc]⟩),
  (103, ⟨.other, 1, 8, [.nilFunc]⟩),
  (104, ⟨.int .i64, 1, 8, [.int .i64 0]⟩),
  (105, ⟨.other, 1, 8, [.nilFunc]⟩),
  (106, ⟨.other, 1, 8, [.nilFunc]⟩),
  (107, ⟨.other, 1, 8, [.nilFunc]⟩),
  (108, ⟨.other, 1, 8, [.nilFunc]⟩),
  (109, ⟨.arr 5 108, 5, 40, [.nilFunc, .nilFunc, .nilFunc, .nilFunc, .nilFunc]⟩),
  (110, ⟨.other, 1, 8, [.nilFunc]⟩),
  (111, ⟨.arr 64 5, 64, 64, [.int .u8 0, .int .u8 0, .int .u8 0, .int .u8 0, .int .u8 0, .int .u8 0, .int .u8 0, .int .u8 0, .int .u8 0, .int .u8 0, .int .u8 0, .int .u8 0, .int .u8 0, .int .u8 0, .int .u8 0, .int .u8 0, .int .u8 0, .int .u8 0, .int .u8 0, .int .u8 0, .int .u8 0, .int .u8 0, .int .u8 0, .int .u8 0, .int .u8 0, .int .u8 0, .int .u8 0, .int .u8 0, .int .u8 0, .int .u8 0, .int .u8 0, .int .u8 0, .int .u8 0, .int .u8 0, .int .u8 0, .int .u8 0, .int .u8 0, .int .u8 0, .int .u8 0, .int .u8 0, .int .u8 0, .int .u8 0, .int .u8 0, .int .u8 0, .int .u8 0, .int .u8 0, .int .u8 0, .int .u8 0, .int .u8 0, .int .u8 0, .int .u8 0, .int .u8 0, .int .u8 0, .int .u8 0, .int .u8 0, .int .u8 0, .int .u8 0, .int .u8 0, .int .u8 0, .int .u8 0, .int .u8 0, .int .u8 0, .int .u8 0, .int .u8 0]⟩),
  (112, ⟨.other, 1, 8, [.nilFunc]⟩),
  (113, ⟨.other, 1, 8, [.nilFunc]⟩),
  (117, ⟨.other, 1, 8, [.nilFunc]⟩),
  (118, ⟨.other, 1, 8, [.pointer none]⟩),
  (119, ⟨.other, 1, 8, [.nilFunc]⟩),
  (120, ⟨.struct [(0, 17), (1, 17), (2, 17), (3, 9)], 4, 40, [.pointer none, .pointer none, .pointer none, .string ByteArray.empty]⟩),
  (121, ⟨.struct [(0, 17), (1, 17), (2, 17), (3, 9)], 4, 40, [.pointer none, .pointer none, .pointer none, .string ByteArray.empty]⟩),
  (122, ⟨.arr 0 16, 0, 0, []⟩),
  (123, ⟨.struct [(0, 122)], 0, 0, []⟩),
  (124, ⟨.struct [(0, 122)], 0, 0, []⟩),
  (125, ⟨.int .u32, 1, 4, [.int .u32 0]⟩),
  (126, ⟨.int .u8, 1, 1, [.int .u8 0]⟩),
  (127, ⟨.int .u8, 1, 1, [.int .u8 0]⟩),
  (128, ⟨.other, 1, 8, [.nilFunc]⟩),
  (129, ⟨.other, 1, 8, [.pointer none]⟩),
  (130, ⟨.int .i32, 1, 4, [.int .i32 0]⟩),
  (131, ⟨.int .i32, 1, 4, [.int .i32 0]⟩),
  (132, ⟨.struct [(0, 12), (1, 12), (2, 125), (3, 126), (4, 5), (5, 5), (6, 127), (7, 128), (8, 129), (9, 130), (10, 131)], 11, 48, [.int .u64 0, .int .u64 0, .int .u32 0, .int .u8 0, .int .u8 0, .int .u8 0, .int .u8 0, .nilFunc, .pointer none, .int .i32 0, .int .i32 0]⟩),
  (133, ⟨.struct [(0, 12), (1, 12), (2, 125), (3, 126), (4, 5), (5, 5), (6, 127), (7, 128), (8, 129), (9, 130), (10, 131)], 11, 48, [.int .u64 0, .int .u64 0, .int .u32 0, .int .u8 0, .int .u8 0, .int .u8 0, .int .u8 0, .nilFunc, .pointer none, .int .i32 0, .int .i32 0]⟩),
  (134, ⟨.struct [(0, 9)], 1, 16, [.string ByteArray.empty]⟩),
  (135, ⟨.struct [(0, 9)], 1, 16, [.string ByteArray.empty]⟩)]
def debru : List Value := [.int .u8 0, .int .u8 1, .int .u8 56, .int .u8 2, .int .u8 57, .int .u8 49, .int .u8 28, .int .u8 3, .int .u8 61, .int .u8 58, .int .u8 42, .int .u8 50, .int .u8 38, .int .u8 29, .int .u8 17, .int .u8 4, .int .u8 62, .int .u8 47, .int .u8 59, .int .u8 36, .int .u8 45, .int .u8 43, .int .u8 51, .int .u8 22, .int .u8 53, .int .u8 39, .int .u8 33, .int .u8 30, .int .u8 24, .int .u8 18, .int .u8 12, .int .u8 5, .int .u8 63, .int .u8 55, .int .u8 48, .int .u8 27, .int .u8 60, .int .u8 41, .int .u8 37, .int .u8 16, .int .u8 46, .int .u8 35, .int .u8 44, .int .u8 21, .int .u8 52, .int .u8 32, .int .u8 23, .int .u8 11, .int .u8 54, .int .u8 26, .int .u8 40, .int .u8 15, .int .u8 34, .int .u8 20, .int .u8 31, .int .u8 10, .int .u8 25, .int .u8 14, .int .u8 19, .int .u8 9, .int .u8 13, .int .u8 8, .int .u8 7, .int .u8 6]
def mores : List Value := [.func (.func 102) #[] #[], .func (.func 103) #[] #[], .func (.func 104) #[] #[], .func (.func 105) #[] #[], .func (.func 106) #[] #[]]
def gTab : List (Nat × List Value) := [(1, debru), (0, mores)]
noncomputable def Cz : Ctx := { P := Tryd.prog, G := GlOk gTab, T := fun t => look t tyTab, X := fun f => look f [(54, .add64), (59, .sub64)], gl := gTab }
theorem tyTab_ok : tyOk Tryd.prog tyTab := by unfold tyOk; kernel_rfl
theorem Cz_ok : Cz.Okx where
  T := fun t i h => tiOf_s (tyOk_get tyTab_ok h)
  G := fun w w' h hb g vs hg => by
    obtain ⟨h1, h2⟩ := h g vs hg
    exact ⟨Nat.lt_of_lt_of_le h1 hb.size, fun j hj => ⟨cell_keep (hb.block g h1) (h2 j hj).1, (h2 j hj).2⟩⟩
  gl := fun w h => h
  X := fun f x h w a b c ha hb hc => by
    simp only [Cz, look] at h
    split at h
    · rename_i e
      injection h with h
      subst h e
      exact add64_run Tryd.func54 (by kernel_rfl) (by kernel_rfl) (by kernel_rfl) (by kernel_rfl) w a b c ha hb hc
    · split at h
      · rename_i e
        injection h with h
        subst h e
        exact sub64_run Tryd.func59 (by kernel_rfl) (by kernel_rfl) (by kernel_rfl) (by kernel_rfl) w a b c ha hb hc
      · cases h
theorem Cz_mixed : Cz.P.follows .mixedOrders = true := by kernel_rfl
end Go.Rk

namespace Go.Rk
open Go.RowKit
open Go.Proofs
noncomputable def fTab : List (Nat × Fn) := [  (3, ⟨Tryd.f3, []⟩),
  (4, ⟨Tryd.f4, []⟩),
  (5, ⟨Tryd.f5, []⟩),
  (6, ⟨Tryd.f6, []⟩),
  (7, ⟨Tryd.f7, []⟩),
  (8, ⟨Tryd.f8, [(4, ⟨some 4, [9, 34, 35]⟩)]⟩),
  (9, ⟨Tryd.f9, [(4, ⟨some 4, [9, 31, 32]⟩)]⟩),
  (10, ⟨Tryd.f10, []⟩),
  (11, ⟨Tryd.f11, []⟩),
  (12, ⟨Tryd.f12, [(6, ⟨none, [3, 42, 44]⟩)]⟩),
  (13, ⟨Tryd.f13, []⟩),
  (14, ⟨Tryd.f14, []⟩),
  (15, ⟨Tryd.f15, []⟩),
  (16, ⟨Tryd.f16, []⟩),
  (17, ⟨Tryd.f17, []⟩),
  (18, ⟨Tryd.f18, []⟩),
  (19, ⟨Tryd.f19, []⟩),
  (20, ⟨Tryd.f20, []⟩),
  (21, ⟨Tryd.f21, []⟩),
  (22, ⟨Tryd.f22, []⟩),
  (23, ⟨Tryd.f23, []⟩),
  (24, ⟨Tryd.f24, []⟩),
  (25, ⟨Tryd.f25, []⟩),
  (26, ⟨Tryd.f26, []⟩),
  (27, ⟨Tryd.f27, []⟩),
  (28, ⟨Tryd.f28, []⟩),
  (29, ⟨Tryd.f29, []⟩),
  (30, ⟨Tryd.f30, []⟩),
  (31, ⟨Tryd.f31, []⟩),
  (32, ⟨Tryd.f32, []⟩),
  (33, ⟨Tryd.f33, []⟩),
  (34, ⟨Tryd.f34, []⟩),
  (35, ⟨Tryd.f35, []⟩),
  (36, ⟨Tryd.f36, []⟩),
  (37, ⟨Tryd.f37, []⟩),
  (38, ⟨Tryd.f38, []⟩),
  (39, ⟨Tryd.f39, []⟩),
  (40, ⟨Tryd.f40, []⟩),
  (41, ⟨Tryd.f41, []⟩),
  (42, ⟨Tryd.f42, [(4, ⟨some 2, [1, 17]⟩), (6, ⟨some 2, [1, 28]⟩), (8, ⟨some 2, [1, 45]⟩)]⟩),
  (43, ⟨Tryd.f43, []⟩),
  (44, ⟨Tryd.f44, []⟩),
  (45, ⟨Tryd.f45, []⟩),
  (46, ⟨Tryd.f46, []⟩),
  (47, ⟨Tryd.f47, []⟩),
  (48, ⟨Tryd.f48, []⟩),
  (49, ⟨Tryd.f49, []⟩),
  (50, ⟨Tryd.f50, []⟩),
  (51, ⟨Tryd.f51, []⟩),
  (52, ⟨Tryd.f52, []⟩),
  (53, ⟨Tryd.f53, []⟩),
  (55, ⟨Tryd.f55, []⟩),
  (56, ⟨Tryd.f56, []⟩),
  (57, ⟨Tryd.f57, []⟩),
  (58, ⟨Tryd.f58, []⟩),
  (60, ⟨Tryd.f60, []⟩),
  (61, ⟨Tryd.f61, []⟩),
  (62, ⟨Tryd.f62, []⟩),
  (63, ⟨Tryd.f63, []⟩),
  (64, ⟨Tryd.f64, []⟩),
  (65, ⟨Tryd.f65, []⟩),
  (66, ⟨Tryd.f66, []⟩),
  (67, ⟨Tryd.f67, []⟩),
  (68, ⟨Tryd.f68, []⟩),
  (69, ⟨Tryd.f69, []⟩),
  (70, ⟨Tryd.f70, []⟩),
  (71, ⟨Tryd.f71, []⟩),
  (72, ⟨Tryd.f72, []⟩),
  (73, ⟨Tryd.f73, []⟩),
  (74, ⟨Tryd.f74, []⟩),
  (75, ⟨Tryd.f75, []⟩),
  (76, ⟨Tryd.f76, []⟩),
  (77, ⟨Tryd.f77, []⟩),
  (78, ⟨Tryd.f78, []⟩),
  (79, ⟨Tryd.f79, []⟩),
  (80, ⟨Tryd.f80, []⟩),
  (81, ⟨Tryd.f81, []⟩),
  (82, ⟨Tryd.f82, []⟩),
  (83, ⟨Tryd.f83, []⟩),
  (102, ⟨Tryd.f102, []⟩),
  (103, ⟨Tryd.f103, []⟩),
  (104, ⟨Tryd.f104, []⟩),
  (105, ⟨Tryd.f105, []⟩),
  (106, ⟨Tryd.f106, []⟩)]
theorem fit3 : fnFit ⟨Tryd.f3, []⟩ = true := by kernel_rfl
theorem fit4 : fnFit ⟨Tryd.f4, []⟩ = true := by kernel_rfl
theorem fit5 : fnFit ⟨Tryd.f5, []⟩ = true := by kernel_rfl
theorem fit6 : fnFit ⟨Tryd.f6, []⟩ = true := by kernel_rfl
theorem fit7 : fnFit ⟨Tryd.f7, []⟩ = true := by kernel_rfl
theorem fit8 : fnFit ⟨Tryd.f8, [(4, ⟨some 4, [9, 34, 35]⟩)]⟩ = true := by kernel_rfl
theorem fit9 : fnFit ⟨Tryd.f9, [(4, ⟨some 4, [9, 31, 32]⟩)]⟩ = true := by kernel_rfl
theorem fit10 : fnFit ⟨Tryd.f10, []⟩ = true := by kernel_rfl
theorem fit11 : fnFit ⟨Tryd.f11, []⟩ = true := by kernel_rfl
theorem fit12 : fnFit ⟨Tryd.f12, [(6, ⟨none, [3, 42, 44]⟩)]⟩ = true := by kernel_rfl
theorem fit13 : fnFit ⟨Tryd.f13, []⟩ = true := by kernel_rfl
theorem fit14 : fnFit ⟨Tryd.f14, []⟩ = true := by kernel_rfl
theorem fit15 : fnFit ⟨Tryd.f15, []⟩ = true := by kernel_rfl
theorem fit16 : fnFit ⟨Tryd.f16, []⟩ = true := by kernel_rfl
theorem fit17 : fnFit ⟨Tryd.f17, []⟩ = true := by kernel_rfl
theorem fit18 : fnFit ⟨Tryd.f18, []⟩ = true := by kernel_rfl
theorem fit19 : fnFit ⟨Tryd.f19, []⟩ = true := by kernel_rfl
theorem fit20 : fnFit ⟨Tryd.f20, []⟩ = true := by kernel_rfl
theorem fit21 : fnFit ⟨Tryd.f21, []⟩ = true := by kernel_rfl
theorem fit22 : fnFit ⟨Tryd.f22, []⟩ = true := by kernel_rfl
theorem fit23 : fnFit ⟨Tryd.f23, []⟩ = true := by kernel_rfl
theorem fit24 : fnFit ⟨Tryd.f24, []⟩ = true := by kernel_rfl
theorem fit25 : fnFit ⟨Tryd.f25, []⟩ = true := by kernel_rfl
theorem fit26 : fnFit ⟨Tryd.f26, []⟩ = true := by kernel_rfl
theorem fit27 : fnFit ⟨Tryd.f27, []⟩ = true := by kernel_rfl
theorem fit28 : fnFit ⟨Tryd.f28, []⟩ = true := by kernel_rfl
theorem fit29 : fnFit ⟨Tryd.f29, []⟩ = true := by kernel_rfl
theorem fit30 : fnFit ⟨Tryd.f30, []⟩ = true := by kernel_rfl
theorem fit31 : fnFit ⟨Tryd.f31, []⟩ = true := by kernel_rfl
theorem fit32 : fnFit ⟨Tryd.f32, []⟩ = true := by kernel_rfl
theorem fit33 : fnFit ⟨Tryd.f33, []⟩ = true := by kernel_rfl
theorem fit34 : fnFit ⟨Tryd.f34, []⟩ = true := by kernel_rfl
theorem fit35 : fnFit ⟨Tryd.f35, []⟩ = true := by kernel_rfl
theorem fit36 : fnFit ⟨Tryd.f36, []⟩ = true := by kernel_rfl
theorem fit37 : fnFit ⟨Tryd.f37, []⟩ = true := by kernel_rfl
theorem fit38 : fnFit ⟨Tryd.f38, []⟩ = true := by kernel_rfl
theorem fit39 : fnFit ⟨Tryd.f39, []⟩ = true := by kernel_rfl
theorem fit40 : fnFit ⟨Tryd.f40, []⟩ = true := by kernel_rfl
theorem fit41 : fnFit ⟨Tryd.f41, []⟩ = true := by kernel_rfl
theorem fit42 : fnFit ⟨Tryd.f42, [(4, ⟨some 2, [1, 17]⟩), (6, ⟨some 2, [1, 28]⟩), (8, ⟨some 2, [1, 45]⟩)]⟩ = true := by kernel_rfl
theorem fit43 : fnFit ⟨Tryd.f43, []⟩ = true := by kernel_rfl
theorem fit44 : fnFit ⟨Tryd.f44, []⟩ = true := by kernel_rfl
theorem fit45 : fnFit ⟨Tryd.f45, []⟩ = true := by kernel_rfl
theorem fit46 : fnFit ⟨Tryd.f46, []⟩ = true := by kernel_rfl
theorem fit47 : fnFit ⟨Tryd.f47, []⟩ = true := by kernel_rfl
theorem fit48 : fnFit ⟨Tryd.f48, []⟩ = true := by kernel_rfl
theorem fit49 : fnFit ⟨Tryd.f49, []⟩ = true := by kernel_rfl
theorem fit50 : fnFit ⟨Tryd.f50, []⟩ = true := by kernel_rfl
theorem fit51 : fnFit ⟨Tryd.f51, []⟩ = true := by kernel_rfl
theorem fit52 : fnFit ⟨Tryd.f52, []⟩ = true := by kernel_rfl
theorem fit53 : fnFit ⟨Tryd.f53, []⟩ = true := by kernel_rfl
theorem fit55 : fnFit ⟨Tryd.f55, []⟩ = true := by kernel_rfl
theorem fit56 : fnFit ⟨Tryd.f56, []⟩ = true := by kernel_rfl
theorem fit57 : fnFit ⟨Tryd.f57, []⟩ = true := by kernel_rfl
theorem fit58 : fnFit ⟨Tryd.f58, []⟩ = true := by kernel_rfl
theorem fit60 : fnFit ⟨Tryd.f60, []⟩ = true := by kernel_rfl
theorem fit61 : fnFit ⟨Tryd.f61, []⟩ = true := by kernel_rfl
theorem fit62 : fnFit ⟨Tryd.f62, []⟩ = true := by kernel_rfl
theorem fit63 : fnFit ⟨Tryd.f63, []⟩ = true := by kernel_rfl
theorem fit64 : fnFit ⟨Tryd.f64, []⟩ = true := by kernel_rfl
theorem fit65 : fnFit ⟨Tryd.f65, []⟩ = true := by kernel_rfl
theorem fit66 : fnFit ⟨Tryd.f66, []⟩ = true := by kernel_rfl
theorem fit67 : fnFit ⟨Tryd.f67, []⟩ = true := by kernel_rfl
theorem fit68 : fnFit ⟨Tryd.f68, []⟩ = true := by kernel_rfl
theorem fit69 : fnFit ⟨Tryd.f69, []⟩ = true := by kernel_rfl
theorem fit70 : fnFit ⟨Tryd.f70, []⟩ = true := by kernel_rfl
theorem fit71 : fnFit ⟨Tryd.f71, []⟩ = true := by kernel_rfl
theorem fit72 : fnFit ⟨Tryd.f72, []⟩ = true := by kernel_rfl
theorem fit73 : fnFit ⟨Tryd.f73, []⟩ = true := by kernel_rfl
theorem fit74 : fnFit ⟨Tryd.f74, []⟩ = true := by kernel_rfl
theorem fit75 : fnFit ⟨Tryd.f75, []⟩ = true := by kernel_rfl
theorem fit76 : fnFit ⟨Tryd.f76, []⟩ = true := by kernel_rfl
theorem fit77 : fnFit ⟨Tryd.f77, []⟩ = true := by kernel_rfl
theorem fit78 : fnFit ⟨Tryd.f78, []⟩ = true := by kernel_rfl
theorem fit79 : fnFit ⟨Tryd.f79, []⟩ = true := by kernel_rfl
theorem fit80 : fnFit ⟨Tryd.f80, []⟩ = true := by kernel_rfl
theorem fit81 : fnFit ⟨Tryd.f81, []⟩ = true := by kernel_rfl
theorem fit82 : fnFit ⟨Tryd.f82, []⟩ = true := by kernel_rfl
theorem fit83 : fnFit ⟨Tryd.f83, []⟩ = true := by kernel_rfl
theorem fit102 : fnFit ⟨Tryd.f102, []⟩ = true := by kernel_rfl
theorem fit103 : fnFit ⟨Tryd.f103, []⟩ = true := by kernel_rfl
theorem fit104 : fnFit ⟨Tryd.f104, []⟩ = true := by kernel_rfl
theorem fit105 : fnFit ⟨Tryd.f105, []⟩ = true := by kernel_rfl
theorem fit106 : fnFit ⟨Tryd.f106, []⟩ = true := by kernel_rfl
theorem fTab_ok : FOk Cz fTab := (.cons Tryd.func3 fit3 (.cons Tryd.func4 fit4 (.cons Tryd.func5 fit5 (.cons Tryd.func6 fit6 (.cons Tryd.func7 fit7 (.cons Tryd.func8 fit8 (.cons Tryd.func9 fit9 (.cons Tryd.func10 fit10 (.cons Tryd.func11 fit11 (.cons Tryd.func12 fit12 (.cons Tryd.func13 fit13 (.cons Tryd.func14 fit14 (.cons Tryd.func15 fit15 (.cons Tryd.func16 fit16 (.cons Tryd.func17 fit17 (.cons Tryd.func18 fit18 (.cons Tryd.func19 fit19 (.cons Tryd.func20 fit20 (.cons Tryd.func21 fit21 (.cons Tryd.func22 fit22 (.cons Tryd.func23 fit23 (.cons Tryd.func24 fit24 (.cons Tryd.func25 fit25 (.cons Tryd.func26 fit26 (.cons Tryd.func27 fit27 (.cons Tryd.func28 fit28 (.cons Tryd.func29 fit29 (.cons Tryd.func30 fit30 (.cons Tryd.func31 fit31 (.cons Tryd.func32 fit32 (.cons Tryd.func33 fit33 (.cons Tryd.func34 fit34 (.cons Tryd.func35 fit35 (.cons Tryd.func36 fit36 (.cons Tryd.func37 fit37 (.cons Tryd.func38 fit38 (.cons Tryd.func39 fit39 (.cons Tryd.func40 fit40 (.cons Tryd.func41 fit41 (.cons Tryd.func42 fit42 (.cons Tryd.func43 fit43 (.cons Tryd.func44 fit44 (.cons Tryd.func45 fit45 (.cons Tryd.func46 fit46 (.cons Tryd.func47 fit47 (.cons Tryd.func48 fit48 (.cons Tryd.func49 fit49 (.cons Tryd.func50 fit50 (.cons Tryd.func51 fit51 (.cons Tryd.func52 fit52 (.cons Tryd.func53 fit53 (.cons Tryd.func55 fit55 (.cons Tryd.func56 fit56 (.cons Tryd.func57 fit57 (.cons Tryd.func58 fit58 (.cons Tryd.func60 fit60 (.cons Tryd.func61 fit61 (.cons Tryd.func62 fit62 (.cons Tryd.func63 fit63 (.cons Tryd.func64 fit64 (.cons Tryd.func65 fit65 (.cons Tryd.func66 fit66 (.cons Tryd.func67 fit67 (.cons Tryd.func68 fit68 (.cons Tryd.func69 fit69 (.cons Tryd.func70 fit70 (.cons Tryd.func71 fit71 (.cons Tryd.func72 fit72 (.cons Tryd.func73 fit73 (.cons Tryd.func74 fit74 (.cons Tryd.func75 fit75 (.cons Tryd.func76 fit76 (.cons Tryd.func77 fit77 (.cons Tryd.func78 fit78 (.cons Tryd.func79 fit79 (.cons Tryd.func80 fit80 (.cons Tryd.func81 fit81 (.cons Tryd.func82 fit82 (.cons Tryd.func83 fit83 (.cons Tryd.func102 fit102 (.cons Tryd.func103 fit103 (.cons Tryd.func104 fit104 (.cons Tryd.func105 fit105 (.cons Tryd.func106 fit106 .nil))))))))))))))))))))))))))))))))))))))))))))))))))))))))))))))))))))))))))))))))))))
end Go.Rk

namespace Go.Rk
open Go.RowKit
theorem e_awake : fnE Cz fTab 2000 5 [] = some (.val (.bool true)) := by kernel_rfl
end Go.Rk
