/- DecdivLarge, the tied card: for every context and all Decs x and y the law answers true and leaves its arguments as they were, for a Dec with too many words gives ErrSize from each of the seven functions. Conditions: none beyond the given statement (part 5 of 8) -/
import Derived.Test.YtilkfpaelkekfaaDoorK03
import Derived.Deep.LoopGhost
set_option linter.unusedVariables false
set_option linter.unusedSimpArgs false
namespace Go.Rk
open Go.RowKit
def dynQs (Pd : Nat → Prop) (σ : St) : List Nat → Prop
  | [] => True
  | q :: l => (match look q σ.slots with
    | none => True
    | some (.ptr d _) => Pd d
    | some (.addr _ _) => False
    | _ => True) ∧ dynQs Pd σ l
def noRow : List (Nat × Option ORow) → Bool
  | [] => true
  | (_, none) :: l => noRow l
  | _ => false
/-- What must hold where such a region begins. -/
def DynW : Option Rx → St → Prop
  | none, _ => True
  | some ⟨none, qs⟩, σ => dynQs (fun _ => True) σ qs
  | some ⟨some tp, qs⟩, σ => noRow σ.rows = true ∧ match look tp σ.slots with
    | some (.ptr d _) => dynQs (fun d' => d' ≠ d) σ qs
    | _ => False
section
variable {C : Ctx} {all : Array Oper} {o : Oper} {σ σ' τ : St} {K K' : St → Prop} {rx : Option Rx} {ds : Nat} {w0 w w' : World} {N : Nat} {E : Env} {a : Act}
theorem noRow_sound : ∀ (l : List (Nat × Option ORow)), noRow l = true → ∀ d r, look d l ≠ some (some r)
  | [], _, d, r => by simp [look]
  | (k, none) :: l, h, d, r => by
    simp only [look_cons]
    split
    · simp
    · exact noRow_sound l h d r
  | (k, some _) :: l, h, _, _ => by simp [noRow] at h
theorem dynQs_sound {Pd : Nat → Prop} {σ : St} : ∀ {qs : List Nat}, dynQs Pd σ qs → ∀ q ∈ qs, ∀ pv, look q σ.slots = some pv → GoodD Pd pv
  | [], _, q, hq, _, _ => by cases hq
  | k :: l, h, q, hq, pv, hpv => by
    rcases List.mem_cons.1 hq with rfl | hq
    · have h1 := h.1
      rw [hpv] at h1
      cases pv <;> first | exact h1 | trivial
    · exact dynQs_sound h.2 q hq pv hpv
theorem GoodD.mono {Pd Pe : Nat → Prop} (h : ∀ d, Pd d → Pe d) {av : AV} (hg : GoodD Pd av) : GoodD Pe av := by cases av <;> first | exact h _ hg | exact hg | trivial
theorem wf_of (h : Rel w0 N E σ a w) : Wf σ := ⟨fun d bx hd => h.al d (h.boxes d bx hd).1, fun d r hd => h.al d (h.rows d r hd).1⟩
theorem inv_of (h : Rel w0 N E σ a w) (hd : DynW rx σ) : ∃ ds, InvR rx ds σ := by
  cases hrx : rx with
  | none => exact ⟨0, wf_of h, fun r hr => (by cases hr), fun r tp hr => (by cases hr)⟩
  | some r =>
    subst hrx
    obtain ⟨tp, qs⟩ := r
    cases tp with
    | none =>
      refine ⟨0, wf_of h, fun r hr q hq pv hpv => ?_, fun r tp hr htp => ?_⟩
      · injection hr with hr
        subst hr
        exact (dynQs_sound hd q hq pv hpv).mono fun d _ e => by cases e
      · injection hr with hr
        subst hr
        cases htp
    | some tp =>
      obtain ⟨h1, h2⟩ := hd
      cases hl : look tp σ.slots with
      | none => rw [hl] at h2; exact h2.elim
      | some pv =>
        rw [hl] at h2
        cases pv with
        | ptr d off =>
          refine ⟨d, wf_of h, fun r hr q hq pv hpv => ?_, fun r tp' hr htp => ?_⟩
          · injection hr with hr
            subst hr
            exact (dynQs_sound h2 q hq pv hpv).mono fun d' hne _ => hne
          · injection hr with hr
            subst hr
            injection htp with htp
            subst htp
            exact ⟨⟨off, hl⟩, noRow_sound _ h1⟩
        | _ => exact h2.elim
theorem rel_eqv (e : Eqv σ τ) (h : Rel w0 N E σ a w) : Rel w0 N E τ a w := by
  obtain ⟨e1, e2, e3⟩ := e
  obtain ⟨s, b, r, nb, nr, g⟩ := σ
  obtain ⟨s', b', r', nb', nr', g'⟩ := τ
  simp only [St.mm] at e2
  injection e2 with e4 e5 e6 e7
  simp only at e3
  subst e4 e5 e6 e7 e3
  exact ⟨h.size, h.defers, h.below, h.base, h.al, h.glob, fun t av ht => h.slots t av ((e1 t).trans ht), h.boxes, h.rows, h.bb, h.br, h.rr⟩
theorem op_mono (hk : opW C o σ K) (h : ∀ σ, K σ → K' σ) : opW C o σ K' := by
  obtain ⟨av, M, h1, _, _, h2⟩ := any_ex σ K hk
  exact h2 σ (fun _ _ => rfl) rfl K' (h _ h1)
theorem one_mono' (hk : oneW C all o σ K) (h : ∀ σ, K σ → K' σ) : oneW C all o σ K' := by
  unfold oneW at hk ⊢
  cases hg : o.guard with
  | none => rw [hg] at hk; exact op_mono hk h
  | some p =>
    obtain ⟨g, u⟩ := p
    rw [hg] at hk
    obtain ⟨og, d, t, h1, h2, h3, h4⟩ := guardW_some hk
    exact guardW_of h1 h2 h3 ⟨fun e => op_mono (h4.1 e) h, fun e => h _ (h4.2 e)⟩
theorem opsW_cons (l : List Oper) : opsW C all (o :: l) σ K = oneW C all o σ fun σ' => opsW C all l σ' K := by
  simp only [opsW, oneW]
  cases o.guard <;> rfl
theorem opsW_I : ∀ (k i : Nat), i + k = all.size → ∀ {σ : St}, opsW C all (all.toList.drop i) σ K → (∀ σ, K σ → K' σ) → opsI C all ((List.range all.size).drop i) σ K'
  | 0, i, hik, σ, hk, h => by
    rw [List.drop_of_length_le (by simp; omega)] at hk
    rw [List.drop_of_length_le (by simp; omega)]
    exact h _ hk
  | k + 1, i, hik, σ, hk, h => by
    have hlt : i < all.size := by omega
    have e1 : all.toList.drop i = all[i] :: all.toList.drop (i + 1) := by
      rw [← List.getElem_cons_drop (h := by simpa using hlt)]
      simp
    have e2 : (List.range all.size).drop i = i :: (List.range all.size).drop (i + 1) := by
      rw [← List.getElem_cons_drop (h := by simpa using hlt)]
      simp
    rw [e1, opsW_cons] at hk
    rw [e2]
    simp only [opsI, Array.getElem?_eq_getElem hlt]
    exact one_mono' hk fun σ' h' => opsW_I k (i + 1) (by omega) h' h
theorem one_sound (hC : C.Okx) (hG : C.G w0) (hEg : E.gb = C.gb) {Q : Exit → Act → World → Prop} (h : Rel w0 N E σ a w) {i : Nat} (ho : all[i]? = some o) (hd : ∀ d, o.dst = some d → d < N) (hk : oneW C all o σ K) :
    wpOp C.P all Q i (Nxt w0 N E K) a w := by
  unfold wpOp
  rw [ho]
  unfold oneW at hk
  cases hg : o.guard with
  | none =>
    rw [hg] at hk
    have hw : Region.wanted o (yielded all a.tmps) = true := by simp [Region.wanted, hg]
    simp only [hw, if_true]
    exact .inl (opW_sound hC hG hEg h hd hk)
  | some p =>
    obtain ⟨g, u⟩ := p
    rw [hg] at hk
    obtain ⟨og, d, t, hog, hdd, hl, hk⟩ := guardW_some hk
    have hy := yielded_of h hog hdd hl
    by_cases htu : t = u
    · subst htu
      have hw : Region.wanted o (yielded all a.tmps) = true := by simp [Region.wanted, hg, hy]
      simp only [hw, if_true]
      exact .inl (opW_sound hC hG hEg (h.know hl) hd (hk.1 rfl))
    · have htu' : t = !u := by cases t <;> cases u <;> simp_all
      have hw : Region.wanted o (yielded all a.tmps) = false := by simp [Region.wanted, hg, hy, htu]
      simp only [hw]
      subst htu'
      exact ((h.know hl).put hd (.val _)).nxt (hk.2 rfl)
theorem any_sound (hC : C.Okx) (hG : C.G w0) (hEg : E.gb = C.gb) {ops : Array Oper} (hfit : opsFit N ops = true) (hreg : regOk rx ops = true) (hc : Cl K) {Q : Exit → Act → World → Prop} (hQ : ∀ a w, Nxt w0 N E K a w → Q .normal a w) :
    ∀ (n : Nat) (L : List Nat) (listed : Array Bool) {E1 : Env} {σ : St} {a : Act} {w : World}, L.length = n → listed.size = ops.size → L.Pairwise (· < ·) → (∀ i, i ∈ L ↔ i < ops.size ∧ listed.getD i true = false) →
      (∀ (k : Nat) (ok : Oper), ops[k]? = some ok → listed.getD k false = true → ∀ e ∈ ok.after, Region.binds .any e = true → listed.getD e.on false = true) →
      E1.B = E.B → E1.S = E.S → E1.gb = E.gb → Rel w0 N E1 σ a w → InvR rx ds σ → opsI C ops L σ K → wpAny C.P .any ops Q n listed a w := by
  have hreg' : ∀ j o, ops[j]? = some o → gOk o = true ∧ (∀ e ∈ o.after, Region.binds .any e = true → e.on < j) ∧ rxOk rx o = true ∧ ∀ i, i < j → pairOk rx ops i j = true := by
    intro j o ho
    have hlt : j < ops.size := (Array.getElem?_eq_some_iff.1 ho).1
    have := List.all_eq_true.1 hreg j (List.mem_range.2 hlt)
    simp only [backOk, ho, Bool.and_eq_true, List.all_eq_true, List.mem_range, Bool.or_eq_true, Bool.not_eq_true'] at this
    refine ⟨this.1.1.1, fun e he hb => ?_, this.1.2, this.2⟩
    rcases this.1.1.2 e (by simpa using he) with h | h
    · rw [hb] at h; cases h
    · exact Nat.lt_of_lt_of_le (Nat.lt_succ_self _) (Nat.le_of_ble_eq_true h)
  have hg : ∀ (i : Nat) (o : Oper), ops[i]? = some o → gOk o = true := fun i o ho => (hreg' i o ho).1
  have hx : ∀ (i : Nat) (o : Oper), ops[i]? = some o → rxOk rx o = true := fun i o ho => (hreg' i o ho).2.2.1
  intro n
  induction n with
  | zero =>
    intro L listed E1 σ a w hlen hsz hp hL hdc hB hS hg1 h hv hk
    have : L = [] := List.length_eq_zero_iff.1 hlen
    subst this
    refine ⟨?_, hQ a w ((h.nxt hk).base hB hS hg1)⟩
    refine List.eq_nil_iff_forall_not_mem.2 fun j hj => ?_
    obtain ⟨h1, o, ho, _⟩ := mem_ready.1 hj
    have := (hL j).2 ⟨(Array.getElem?_eq_some_iff.1 ho).1, h1⟩
    cases this
  | succ n ih =>
    intro L listed E1 σ a w hlen hsz hp hL hdc hB hS hg1 h hv hk
    have getD_in : ∀ i, i < ops.size → ∀ b, listed.getD i b = listed.getD i true := by
      intro i hi b
      have : i < listed.size := by omega
      simp [this]
    refine ⟨fun hnil => ?_, fun j hj => ?_⟩
    · exfalso
      cases L with
      | nil => cases hlen
      | cons i L =>
        obtain ⟨h1, h2⟩ := (hL i).1 (by simp)
        have hr : i ∈ Region.ready .any ops listed := by
          refine mem_ready.2 ⟨h2, ops[i], Array.getElem?_eq_getElem h1, fun e he hb => ?_⟩
          have hlt := (hreg' i _ (Array.getElem?_eq_getElem h1)).2.1 e he hb
          by_cases h3 : listed.getD e.on true = false
          · have hmem := (hL e.on).2 ⟨by omega, h3⟩
            rcases List.mem_cons.1 hmem with h4 | h4
            · omega
            · have := (List.pairwise_cons.1 hp).1 _ h4
              omega
          · rw [getD_in e.on (by omega) false]
            simpa using h3
        rw [hnil] at hr
        cases hr
    · obtain ⟨h1, oj, hoj, hall⟩ := mem_ready.1 hj
      have hjlt : j < ops.size := (Array.getElem?_eq_some_iff.1 hoj).1
      have hjL : j ∈ L := (hL j).2 ⟨hjlt, h1⟩
      obtain ⟨l1, l2, rfl⟩ := List.append_of_mem hjL
      have hb := bubble (ds := ds) hg hx hc hoj l2 l1 σ hv (fun i hi oi hoi => by
        have hij : i < j := (List.pairwise_append.1 hp).2.2 i hi j (by simp)
        have hpk := (hreg' j oj hoj).2.2.2 i hij
        simp only [pairOk, hoi, hoj, Bool.or_eq_true, Bool.and_eq_true] at hpk
        rcases hpk with hpk | hpk
        · have h5 := wt_sound hdc 6 j i oj hoj hall hpk
          have h6 := ((hL i).1 (by simp [hi])).2
          have h7 := ((hL i).1 (by simp [hi])).1
          rw [getD_in i h7 false, h6] at h5
          cases h5
        · exact hpk) hk
      have hb2 := one_inv (hg j oj hoj) (hx j oj hoj) hv hb (opsI_cl hg hc _)
      have hd : ∀ d, oj.dst = some d → d < N := by
        intro d hd
        have := Array.all_eq_true.1 hfit j hjlt
        have e : ops[j] = oj := (Array.getElem?_eq_some_iff.1 hoj).2
        rw [e, hd] at this
        simpa using this
      refine wpOp_mono ?_ (one_sound hC hG (hg1.trans hEg) h hoj hd hb2)
      rintro a' w' ⟨E2, σ2, ⟨hk2, hv2⟩, h2, hB2, hS2, hg2⟩
      have hjnot : ∀ i, i ∈ l1 ++ l2 → i ≠ j := by
        intro i hi e
        subst e
        rcases List.mem_append.1 hi with hi | hi
        · have := (List.pairwise_append.1 hp).2.2 i hi i (by simp)
          omega
        · have := (List.pairwise_cons.1 (List.pairwise_append.1 hp).2.1).1 i hi
          omega
      refine ih (l1 ++ l2) (listed.setIfInBounds j true) ?_ (by simpa using hsz) ?_ ?_ ?_ (hB2.trans hB) (hS2.trans hS) (hg2.trans hg1) h2 hv2 hk2
      · simp at hlen ⊢; omega
      · exact hp.sublist (by simp)
      · intro i
        by_cases e : i = j
        · subst e
          refine ⟨fun h => absurd rfl (hjnot i h), fun h => ?_⟩
          exfalso
          have hl : i < listed.size := by omega
          have := h.2
          simp [hl] at this
        · rw [getD_set_ne true (Ne.symm e), ← hL i]
          simp [e]
      · intro k ok hok hkl e he hbd
        by_cases ek : k = j
        · subst ek
          rw [hoj] at hok
          injection hok with hok
          subst hok
          exact getD_set_true (hall e he hbd)
        · rw [getD_set_ne false (Ne.symm ek)] at hkl
          exact getD_set_true (hdc k ok hok hkl e he hbd)
/-- A REGION WHOSE ORDER IS OPEN. -/
theorem drawn_sound (hC : C.Okx) (hG : C.G w0) (hEg : E.gb = C.gb) (hm : C.P.follows .mixedOrders = true) {id : Nat} {ops : Array Oper} (hfit : opsFit N ops = true) (hreg : regOk rx ops = true) (h : Rel w0 N E σ a w) (hdyn : DynW rx σ)
    (hk : opsW C ops ops.toList σ K) {Q : Exit → Act → World → Prop} (hQ : ∀ a w, Nxt w0 N E K a w → Q .normal a w) : (Code.region id ops true).wp C.P Q a w := by
  obtain ⟨ds, hv⟩ := inv_of h hdyn
  have hw : Rel w0 N E σ a { w with drawn := w.drawn + 1 } := h.world (⟨h.below.os, h.below.tape, h.below.output, h.below.size, h.below.block⟩) (Nat.le_refl _) (fun _ _ => rfl)
  refine wp_region_any hm ?_
  refine any_sound (rx := rx) (ds := ds) (K := fun τ => ∃ σ, Eqv σ τ ∧ K σ) hC hG hEg hfit hreg (fun σ τ e h => ?_) ?_ ops.size (List.range ops.size) _ (by simp) (by simp) ?_ ?_ ?_ rfl rfl rfl hw hv ?_
  · obtain ⟨υ, h1, h2⟩ := h
    exact ⟨υ, h1.trans e, h2⟩
  · rintro a w ⟨E', τ, ⟨σ', e, hk'⟩, h', hB, hS, hg⟩
    exact hQ a w ⟨E', σ', hk', rel_eqv e.symm h', hB, hS, hg⟩
  · exact List.pairwise_lt_range
  · intro i
    simp only [List.mem_range]
    refine ⟨fun hi => ⟨hi, by simp [hi]⟩, fun hi => hi.1⟩
  · intro k ok _ hl
    by_cases hlt : k < ops.size <;> simp [hlt] at hl
  · have := opsW_I (all := ops) (K' := fun τ => ∃ σ, Eqv σ τ ∧ K σ) ops.size 0 (by omega) (σ := σ) (by simpa using hk) (fun σ h => ⟨σ, Eqv.refl σ, h⟩)
    simpa using this
end
end Go.Rk

namespace Go.Rk
open Go.RowKit
variable {C : Ctx} {w0 w w' : World} {N : Nat} {E : Env} {σ : St} {a : Act}
/-- What code comes to. A loop asks for a relation and a measure. -/
def codeW (C : Ctx) (R : List (Nat × Rx)) : Code → St → (AEx → St → Prop) → Prop
  | .skip, σ, Q => Q .normal σ
  | .region id ops dr, σ, Q => match dr with
    | false => opsW C ops ops.toList σ (Q .normal)
    | true => DynW (look id R) σ ∧ opsW C ops ops.toList σ (Q .normal)
  | .seq x y, σ, Q => codeW C R x σ fun e σ' => match e with
    | .normal => codeW C R y σ' Q
    | e => Q e σ'
  | .cond c x y, σ, Q => onO (σ.ev c) fun av => match av with
    | .val (.bool t) => (t = true → codeW C R x (σ.know c true) Q) ∧ (t = false → codeW C R y (σ.know c false) Q)
    | _ => False
  | .block id c, σ, Q => codeW C R c σ fun e σ' => match e with
    | .exit j => if j = id then Q .normal σ' else Q (.exit j) σ'
    | e => Q e σ'
  | .loop c, σ, Q => ∃ (α : Type) (I : α → St) (μ : α → Nat) (x0 : α), Incl σ (I x0) ∧ ∀ x, codeW C R c (I x) fun e σ' => match e with
    | .normal => ∃ x', Incl σ' (I x') ∧ μ x' < μ x
    | e => Q e σ'
  | .exit id, σ, Q => Q (.exit id) σ
  | .ret, σ, Q => Q .ret σ
  | _, _, _ => False
def codeFit (R : List (Nat × Rx)) (N : Nat) : Code → Bool
  | .region id ops dr => opsFit N ops && (!dr || regOk (look id R) ops)
  | .seq x y => codeFit R N x && codeFit R N y
  | .cond c x y => (match c with | .tmp t => decide (t < N) | _ => true) && codeFit R N x && codeFit R N y
  | .block _ c => codeFit R N c
  | .loop c => codeFit R N c
  | _ => true
theorem Lft.base {E E' : Env} {Q : AEx → St → Prop} (hB : E'.B = E.B) (hS : E'.S = E.S) (hg : E'.gb = E.gb) : ∀ e a w, Lft w0 N E' Q e a w → Lft w0 N E Q e a w := by
  intro e a w h
  cases e <;> first | exact h.elim | exact Nxt.base hB hS hg h
theorem codeW_sound (hC : C.Okx) (hG : C.G w0) (hm : C.P.follows .mixedOrders = true) {R : List (Nat × Rx)} (c : Code) : codeFit R N c = true → ∀ {E : Env} {σ : St} {a : Act} {w : World} {Q : AEx → St → Prop}, E.gb = C.gb → Rel w0 N E σ a w → codeW C R c σ Q → c.wp C.P (Lft w0 N E Q) a w := by
  induction c with
  | skip => intro _ E σ a w Q hg h hk; exact wp_skip (h.nxt hk)
  | region id ops dr =>
    intro hf E σ a w Q hg h hk
    simp only [codeFit, Bool.and_eq_true, Bool.or_eq_true, Bool.not_eq_true'] at hf
    cases dr with
    | false =>
      refine wp_region ?_
      have := opsW_sound hC hG (E := E) hg hf.1 (K := Q .normal) (Q := Lft w0 N E Q) (fun a w hn => hn) ops.size 0 (by omega) rfl rfl rfl h hk
      simpa using this
    | true =>
      have hr : regOk (look id R) ops = true := by
        rcases hf.2 with e | e
        · cases e
        · exact e
      exact drawn_sound hC hG hg hm hf.1 hr h hk.1 hk.2 (fun a w hn => hn)
  | seq x y ihx ihy =>
    intro hf E σ a w Q hg h hk
    simp only [codeFit, Bool.and_eq_true] at hf
    refine wp_seq (wp_mono (ihx hf.1 hg h hk) ?_)
    intro e a' w' hq
    cases e with
    | normal =>
      obtain ⟨E', σ', hk', h', hB, hS, hg'⟩ := hq
      exact wp_mono (ihy hf.2 (hg'.trans hg) h' hk') (Lft.base hB hS hg')
    | exit id => exact hq
    | ret => exact hq
    | _ => exact hq.elim
  | cond c x y ihx ihy =>
    intro hf E σ a w Q hg h hk
    simp only [codeFit, Bool.and_eq_true] at hf
    obtain ⟨av, hav, hk⟩ := onO_some hk
    cases av with
    | val v =>
      cases v with
      | bool t =>
        have e := (h.ev hav).val_eq
        have kn : Rel w0 N E (σ.know c t) a w := by
          cases c with
          | tmp q => exact h.know hav
          | _ => exact h
        refine wp_cond e ?_
        cases t with
        | true => exact ihx hf.1.2 hg kn (hk.1 rfl)
        | false => exact ihy hf.2 hg kn (hk.2 rfl)
      | _ => exact hk.elim
    | _ => exact hk.elim
  | block id c ih =>
    intro hf E σ a w Q hg h hk
    refine wp_block (wp_mono (ih hf hg h hk) ?_)
    intro e a' w' hq
    cases e with
    | exit j =>
      simp only [Exit.inBlock]
      by_cases e : j = id
      · simp only [e, if_true] at hq ⊢
        obtain ⟨E', σ', hk', h', hB, hS, hg'⟩ := hq
        simp only [if_true] at hk'
        exact ⟨E', σ', hk', h', hB, hS, hg'⟩
      · simp only [e, if_false]
        obtain ⟨E', σ', hk', h', hB, hS, hg'⟩ := hq
        simp only [e, if_false] at hk'
        exact ⟨E', σ', hk', h', hB, hS, hg'⟩
    | normal => exact hq
    | ret => exact hq
    | _ => exact hq.elim
  | loop c ih =>
    intro hf E σ a w Q hg h hk
    obtain ⟨α, I, μ, x0, hI, hr⟩ := hk
    refine wp_loop_ghost (fun n a w => ∃ x E', μ x = n ∧ Rel w0 N E' (I x) a w ∧ E'.B = E.B ∧ E'.S = E.S ∧ E'.gb = E.gb) (μ x0) ?_ ?_
    · obtain ⟨E', h', hB, hS, hg'⟩ := hI w0 N E a w h
      exact ⟨x0, E', rfl, h', hB, hS, hg'⟩
    · rintro n a w ⟨x, E1, rfl, h1, hB, hS, hg1⟩
      refine wp_mono (ih hf (hg1.trans hg) h1 (hr x)) ?_
      intro e a' w' hq
      cases e with
      | normal =>
        obtain ⟨E2, σ2, ⟨x', hI', hlt⟩, h2, hB2, hS2, hg2⟩ := hq
        obtain ⟨E3, h3, hB3, hS3, hg3⟩ := hI' w0 N E2 a' w' h2
        exact ⟨μ x', hlt, x', E3, rfl, h3, (hB3.trans hB2).trans hB, (hS3.trans hS2).trans hS, (hg3.trans hg2).trans hg1⟩
      | exit id => exact Nxt.base hB hS hg1 hq
      | ret => exact Nxt.base hB hS hg1 hq
      | _ => exact hq.elim
  | exit id => intro _ E σ a w Q hg h hk; exact wp_exit (h.nxt hk)
  | ret => intro _ E σ a w Q hg h hk; exact wp_ret (h.nxt hk)
  | _ => intro _ E σ a w Q hg h hk; exact hk.elim
end Go.Rk

namespace Go.Rk
open Go.RowKit
variable {C : Ctx} {w0 w w' : World} {N : Nat} {E : Env} {σ : St} {a : Act} {Wr : Nat → Prop}
def initSlots : Nat → List AV → List (Nat × AV)
  | _, [] => []
  | k, av :: l => (k, av) :: initSlots (k + 1) l
def St.init (C : Ctx) (args : List AV) : St := { slots := initSlots 0 args, boxes := [], rows := [], nb := 0, nr := 0, gl := C.gl }
/-- The results, laid down. -/
def resW (C : Ctx) (σ : St) : List ResultVar → (List AV → St → Prop) → Prop
  | [], K => K [] σ
  | .tmp t :: l, K => onO (look t σ.slots) fun av => frzW σ av fun av' σ' => resW C σ' l fun avs σ'' => K (av' :: avs) σ''
  | .cell p ty :: l, K => onO (look p σ.slots) fun pv => (match pv with | .ptr _ _ => true | _ => false) = true ∧ ldW C σ ty pv fun av => frzW σ av fun av' σ' => resW C σ' l fun avs σ'' => K (av' :: avs) σ''
def oneRes : List AV → AV
  | [av] => av
  | l => .tup l
def AEx.done : AEx → Bool
  | .normal | .ret => true
  | _ => false
def retW (C : Ctx) (res : Array ResultVar) (r : AV) (e : AEx) (σ : St) : Prop :=
  e.done = true ∧ resW C σ res.toList fun avs _ => (oneRes avs).closed = true ∧ ((oneRes avs) = r ∨ (oneRes avs).unt = r)
theorem initSlots_look : ∀ (l : List AV) (k t : Nat) (av : AV), look t (initSlots k l) = some av → k ≤ t ∧ l[t - k]? = some av
  | [], k, t, av, h => by cases h
  | x :: l, k, t, av, h => by
    simp only [initSlots, look_cons] at h
    by_cases e : t = k
    · rw [if_pos e] at h
      injection h with h
      subst h e
      exact ⟨Nat.le_refl _, by simp⟩
    · rw [if_neg e] at h
      obtain ⟨h1, h2⟩ := initSlots_look l (k + 1) t av h
      refine ⟨by omega, ?_⟩
      rw [show t - k = (t - (k + 1)) + 1 by omega, List.getElem?_cons_succ]
      exact h2
/-- A value that goes out. -/
theorem Rep.outp {av : AV} {v : Value} (h : Rep E Wr w av v) : av.closed = true → Rep (Env.out E.gb E.B E.S) (fun _ => False) w av v := by
  have hok : ∀ {fr b}, E.okb Wr w fr b → (Env.out E.gb E.B E.S).okb (fun _ => False) w fr b := fun hb => ⟨hb.fr, hb.s, hb.lt, fun h => h⟩
  induction h with
  | val v => intro _; exact .val v
  | @row fr n cells c A b o f hn hm hA hc h1 hr ih =>
    intro hcl
    simp only [AV.closed, closed_l] at hcl
    exact .row b o f hn hm (fun hne => ⟨(hA hne).1, hok (hA hne).2⟩) hc h1 (fun j hj => ih j hj (all_get hcl j hj))
  | own h => intro hcl; cases hcl
  | sub h hn hm hA => intro hcl; cases hcl
  | ptr h => intro hcl; cases hcl
  | addr g m k h hA => intro hcl; cases hcl
  | @radd fr off cells b o f hA hc h1 hr ih =>
    intro hcl
    simp only [AV.closed, closed_l] at hcl
    exact .radd b o f (hok hA) hc h1 (fun j hj => ih j hj (all_get hcl j hj))
  | @agg cells arr hs h1 hr ih =>
    intro hcl
    simp only [AV.closed, closed_l] at hcl
    exact .agg hs h1 (fun j hj hj' => ih j hj hj' (all_get hcl j hj))
  | @tup cells arr hs hr ih =>
    intro hcl
    simp only [AV.closed, closed_l] at hcl
    exact .tup hs (fun j hj hj' => ih j hj hj' (all_get hcl j hj))
  | @clo f cells arr hs hr ih =>
    intro hcl
    simp only [AV.closed, closed_l] at hcl
    exact .clo hs (fun j hj hj' => ih j hj hj' (all_get hcl j hj))
theorem Rep.weak {gb : Nat → Prop} {n : Nat} {S : Nat → Prop} {av : AV} {v : Value} (h : Rep (Env.out gb n S) (fun _ => False) w av v) : Rep (Env.out gb n S) (fun _ => False) w av.unt v := by
  have hok : ∀ {fr b}, (Env.out gb n S).okb (fun _ => False) w fr b → (Env.out gb n S).okb (fun _ => False) w false b := fun hb => ⟨(fun h => nomatch h), hb.s, hb.lt, fun h => h⟩
  induction h with
  | val v => exact .val v
  | @row fr n cells c A b o f hn hm hA hc h1 hr ih =>
    simp only [AV.unt, unt_l]
    refine .row b o f hn hm (fun hne => ?_) (fun j hj => hc j (by simpa using hj)) (fun j hj => by rw [List.getElem_map, unt_one]; exact h1 _ _) (fun j hj => by rw [List.getElem_map]; exact ih _ _)
    have hne' : cells ≠ [] := fun e => hne (by rw [e]; rfl)
    exact ⟨(hA hne').1, hok (hA hne').2⟩
  | own h => exact h.elim
  | sub h hn hm hA => exact h.elim
  | ptr h => exact h.elim
  | addr g m k h hA => exact h.elim
  | @radd fr off cells b o f hA hc h1 hr ih =>
    simp only [AV.unt, unt_l]
    exact .radd b o f (hok hA) (fun j hj => hc j (by simpa using hj)) (fun j hj => by rw [List.getElem_map, unt_one]; exact h1 _ _) (fun j hj => by rw [List.getElem_map]; exact ih _ _)
  | @agg cells arr hs h1 hr ih =>
    simp only [AV.unt, unt_l]
    exact .agg (by simpa using hs) (fun j hj => by rw [List.getElem_map, unt_one]; exact h1 _ _) (fun j hj hj' => by rw [List.getElem_map]; exact ih _ _ _)
  | @tup cells arr hs hr ih =>
    simp only [AV.unt, unt_l]
    exact .tup (by simpa using hs) (fun j hj hj' => by rw [List.getElem_map]; exact ih _ _ _)
  | @clo f cells arr hs hr ih =>
    simp only [AV.unt, unt_l]
    exact .clo (by simpa using hs) (fun j hj hj' => by rw [List.getElem_map]; exact ih _ _ _)
def resOf (tmps : Array Value) : ResultVar → Sem Value
  | .tmp t => pure (tmps.getD t undef)
  | .cell p t => do loadVar t (← asAddr (tmps.getD p undef))
theorem results_eq (fn : Func) (tmps : Array Value) : results fn tmps = (do let vs ← fn.results.mapM (resOf tmps); pure (if h : vs.size = 1 then vs[0] else .tuple vs)) := by
  unfold results
  congr 2
theorem Rel.resW (hC : C.Ok) : ∀ (l : List ResultVar) (σ : St), Rel w0 N E σ a w → ∀ {K : List AV → St → Prop}, Go.Rk.resW C σ l K →
    ∃ avs σ' vs, K avs σ' ∧ Rel w0 N E σ' a w ∧ (∀ b, σ'.wr E b → σ.wr E b) ∧ avs.length = vs.length ∧ (∀ j (hj : j < avs.length) (hj' : j < vs.length), Rep E (σ'.wr E) w (avs[j]) (vs[j])) ∧
      (l.mapM (resOf a.tmps)).run C.P w = .ok vs w
  | [], σ, h, K, hk => ⟨[], σ, [], hk, h, fun _ hb => hb, rfl, fun j hj => (Nat.not_lt_zero _ hj).elim, rfl⟩
  | .tmp t :: l, σ, h, K, hk => by
    obtain ⟨av, hav, hk⟩ := onO_some hk
    obtain ⟨v, hv, hr⟩ := h.slots t av hav
    obtain ⟨av', σ1, hk, h1, hr1, hw1⟩ := h.frz hr hk
    obtain ⟨avs, σ2, vs, hk, h2, hw2, hl, hrs, hrun⟩ := Rel.resW hC l σ1 h1 hk
    refine ⟨_, σ2, v :: vs, hk, h2, fun b hb => hw1 b (hw2 b hb), by simp [hl], fun j hj hj' => ?_, ?_⟩
    · cases j with
      | zero => exact hr1.shrink hw2
      | succ j => exact hrs j (by simpa using hj) (by simpa using hj')
    · rw [List.mapM_cons]
      have hg : a.tmps.getD t undef = v := by simp [hv]
      simp only [resOf, hg, Sem.run_bind, Sem.run_pure, Result.andThen_ok, hrun]
  | .cell p ty :: l, σ, h, K, hk => by
    obtain ⟨pv, hpv, hpt, hk⟩ := onO_some hk
    obtain ⟨v, hv, hr⟩ := h.slots p pv hpv
    obtain ⟨av, u, hld, hru, hk⟩ := h.load hC hr hk
    obtain ⟨av', σ1, hk, h1, hr1, hw1⟩ := h.frz hru hk
    obtain ⟨avs, σ2, vs, hk, h2, hw2, hl, hrs, hrun⟩ := Rel.resW hC l σ1 h1 hk
    refine ⟨_, σ2, u :: vs, hk, h2, fun b hb => hw1 b (hw2 b hb), by simp [hl], fun j hj hj' => ?_, ?_⟩
    · cases j with
      | zero => exact hr1.shrink hw2
      | succ j => exact hrs j (by simpa using hj) (by simpa using hj')
    · rw [List.mapM_cons]
      have hg : a.tmps.getD p undef = v := by simp [hv]
      cases pv with
      | ptr d off =>
        cases hr with
        | ptr h1 =>
          simp only [Instr.loadAt, Instr.sureAddr, Sem.run_bind, Sem.run_pure, Result.andThen_ok] at hld
          have ha : (asAddr (Value.pointer (some ⟨E.blk d, off, none⟩))).run C.P w = .ok ⟨E.blk d, off, none⟩ w := rfl
          simp only [resOf, hg, ha, Sem.run_bind, Sem.run_pure, Result.andThen_ok, hrun, hld]
      | _ => cases hpt
/-- A FUNCTION: what it hands back, out of its code. -/
theorem ACalls.of (hC : C.Okx) (hm : C.P.follows .mixedOrders = true) {R : List (Nat × Rx)} {f : FuncId} {fn : Func} {c : Code} {args : List AV} {r : AV} (hf : C.P.funcs[f]? = some fn) (hb : fn.body = some c) (hn : (fn.name == "runtime.NumGoroutine") = false)
    (hfit : codeFit R fn.ntmps c = true) (hl : Nat.ble args.length fn.ntmps = true) (h : codeW C R c (St.init C args) (retW C fn.results r)) : ACalls C f args r := by
  have hl' : args.length ≤ fn.ntmps := Nat.le_of_ble_eq_true hl
  refine ⟨fun w vals => ?_, fun w S vals hG hs hr => ?_⟩
  · have hn' : ¬ fn.name = "runtime.NumGoroutine" := by simpa using hn
    simp [callFunc, hf, hb, hn']
  · refine calls_of_wp hf hb (wp_mono (codeW_sound hC hG hm c hfit (w0 := w) (N := fn.ntmps) (E := Env.out C.gb w.heap.size S) (σ := St.init C args) rfl ?_ h) ?_)
    · refine ⟨by simp; omega, rfl, Below.refl _ _, rfl, fun d hd => hd.elim, ⟨fun b hb => by obtain ⟨vs, hv⟩ := hb; exact (hC.gl w hG b vs hv).1, fun g vs hv => ⟨⟨vs, hv⟩, hC.gl w hG g vs hv⟩⟩, fun t av ht => ?_, fun d bx hd => (by cases hd), fun d r hd => (by cases hd), fun d d' bx bx' hd => (by cases hd), fun d d' bx r hd => (by cases hd), fun d d' r r' b hd => (by cases hd)⟩
      obtain ⟨_, h1⟩ := initSlots_look args 0 t av ht
      rw [Nat.sub_zero] at h1
      obtain ⟨hlt, rfl⟩ := List.getElem?_eq_some_iff.1 h1
      have hlt' : t < vals.size := by omega
      refine ⟨vals[t], by rw [Array.getElem?_append_left hlt', Array.getElem?_eq_getElem hlt'], ?_⟩
      refine (hr t hlt hlt').shrink (fun b hb => ?_)
      rcases hb with ⟨d, bx, hd, _⟩ | ⟨d, r, hd, _⟩ <;> cases hd
    · intro e a' w' hq
      have fin : ∀ e', e'.done = true → Nxt w fn.ntmps (Env.out C.gb w.heap.size S) (retW C fn.results r e') a' w' → a'.defers = [] ∧ ∃ v, (results fn a'.tmps).run C.P w' = .ok v w' ∧ ∃ v', Ending.returned v = .returned v' ∧ Below w.heap.size w w' ∧ Rep (Env.out C.gb w.heap.size S) (fun _ => False) w' r v' := by
        rintro e' _ ⟨E', σ', ⟨_, hres⟩, h', hB, hS, hg⟩
        obtain ⟨avs, σ2, vs, ⟨hcl, hrr⟩, h2, _, hlen, hrs, hrun⟩ := Rel.resW hC.toOk _ _ h' hres
        refine ⟨h'.defers, (if hv : vs.toArray.size = 1 then vs.toArray[0] else .tuple vs.toArray), ?_, _, rfl, by have := h'.below; rw [hB] at this; exact this, ?_⟩
        · rw [results_eq, Array.mapM_eq_mapM_toList]
          simp only [Sem.run_bind, Sem.run_map, hrun, Result.andThen_ok, Sem.run_pure]
        · have hone : Rep E' (σ2.wr E') w' (oneRes avs) (if hv : vs.toArray.size = 1 then vs.toArray[0] else .tuple vs.toArray) := by
            match avs, vs, hlen, hrs with
            | [], [], _, _ => exact .tup rfl (fun j hj => (Nat.not_lt_zero _ hj).elim)
            | [x], [u], _, hrs => exact hrs 0 (by simp) (by simp)
            | x :: y :: l, u :: v :: us, hlen, hrs =>
              have hsz : ¬ (u :: v :: us).toArray.size = 1 := by simp
              rw [dif_neg hsz]
              exact .tup (by simpa using hlen.symm) (fun j hj hj' => by rw [List.getElem_toArray]; exact hrs j hj (by simpa using hj'))
          have ho := hone.outp hcl
          rw [hB, hS, hg] at ho
          rcases hrr with e | e
          · rw [← e]; exact ho
          · rw [← e]; exact ho.weak
      cases e with
      | normal => exact fin .normal rfl hq
      | ret => exact fin .ret rfl hq
      | exit id => obtain ⟨_, _, ⟨hd, _⟩, _⟩ := hq; cases hd
      | _ => exact hq.elim
end Go.Rk

namespace Go.Rk
open Go.RowKit
/-! The same by computation, where all is known. -/
section defs
variable {β : Type}
def onE {α : Type} : Option α → (α → Option β) → Option β
  | some a, K => K a
  | none, _ => none
def ifE (b : Bool) (x : Option β) : Option β := match b with
  | true => x
  | false => none
def frzE (σ : St) (av : AV) (K : AV → St → Option β) : Option β :=
  match av with
  | .own d => match look d σ.rows with
    | some (some r) => K (.row true r.n r.cells) (σ.setRow d none)
    | _ => none
  | .sub _ _ _ => none
  | av => K av σ
def rowE (σ : St) (av : AV) (K : Nat → List AV → Option β) : Option β :=
  match av with
  | .val (.slice none 0 0) => K 0 []
  | .row _ n cells => K n cells
  | .own d => match look d σ.rows with
    | some (some r) => K r.n r.cells
    | _ => none
  | .sub d off n => match look d σ.rows with
    | some (some r) => ifE (Nat.ble (off + n * r.sz) r.cells.length) (K n ((r.cells.drop off).take (n * r.sz)))
    | _ => none
  | _ => none
def loadE (C : Ctx) (t : TypeId) (cells : List AV) (off : Nat) (K : AV → Option β) : Option β :=
  onE (C.T t) fun i => match i.k.isAgg with
    | true => ifE (Nat.ble (off + i.size) cells.length) (K (.agg ((cells.drop off).take i.size)))
    | false => onE (cells[off]?) K
def ldE (C : Ctx) (σ : St) (t : TypeId) (p : AV) (K : AV → Option β) : Option β :=
  match p with
  | .ptr d off => onE (look d σ.boxes) fun bx => loadE C t bx.cells off K
  | .radd _ cells off => loadE C t cells off K
  | .addr d off => match look d σ.rows with
    | some (some r) => loadE C t r.cells off K
    | _ => none
  | _ => none
def stE (C : Ctx) (σ : St) (t : TypeId) (p x : AV) (K : St → Option β) : Option β :=
  frzE σ x fun x' σ' => onE (cellsOf x') fun xs => onE (C.T t) fun i => ifE (Nat.beq xs.length i.size) (
    match p with
    | .ptr d off => onE (look d σ'.boxes) fun bx => ifE (Nat.ble (off + xs.length) bx.cells.length) (K (σ'.setBox d ⟨bx.ty, updC bx.cells off xs⟩))
    | .addr d off => match look d σ'.rows with
      | some (some r) => ifE (Nat.ble (off + xs.length) r.cells.length) (K (σ'.setRow d (some { r with cells := updC r.cells off xs })))
      | _ => none
    | _ => none)
def frzLE (σ : St) : List (Nat × Operand) → (List (Nat × AV) → St → Option β) → Option β
  | [], K => K [] σ
  | p :: l, K => onE (σ.ev p.2) fun av => frzE σ av fun av' σ' => frzLE σ' l fun ps σ'' => K ((p.1, av') :: ps) σ''
def fillE (C : Ctx) (fs : List (Nat × TypeId)) (cells : List AV) : List (Nat × AV) → (List AV → Option β) → Option β
  | [], K => K cells
  | p :: l, K => onE (fs[p.1]?) fun f => onE (C.T f.2) fun i => onE (cellsOf p.2) fun xs => ifE (Nat.beq xs.length i.size) (ifE (Nat.ble (f.1 + xs.length) cells.length) (fillE C fs (updC cells f.1 xs) l K))
def litE (size : Nat) (j : Nat) : List (Nat × AV) → (List AV → Option β) → Option β
  | [], K => K []
  | p :: l, K => ifE (Nat.beq p.1 j) (onE (cellsOf p.2) fun xs => ifE (Nat.beq xs.length size) (litE size (j + 1) l fun cs => K (xs ++ cs)))
def idxE (C : Ctx) (σ : St) (t : TypeId) (x : AV) (i : Int) (K : AV → Option β) : Option β :=
  onE (C.T t) fun ti => match ti.k with
    | .slice e => onE (C.T e) fun ei => match x with
      | .row fr n cells => ifE (decide (0 ≤ i)) (ifE (decide (i < n)) (ifE (Nat.blt (i.toNat * ei.size) cells.length) (K (.radd fr cells (i.toNat * ei.size)))))
      | .own d => match look d σ.rows with
        | some (some r) => ifE (decide (0 ≤ i)) (ifE (decide (i < r.n)) (ifE (Nat.beq r.sz ei.size) (K (.addr d (i.toNat * ei.size)))))
        | _ => none
      | .sub d off n => match look d σ.rows with
        | some (some r) => ifE (decide (0 ≤ i)) (ifE (decide (i < n)) (ifE (Nat.beq r.sz ei.size) (K (.addr d (off + i.toNat * ei.size)))))
        | _ => none
      | _ => none
    | .arr n e => onE (C.T e) fun ei => match x with
      | .ptr d off => ifE (decide (0 ≤ i)) (ifE (decide (i < n)) (K (.ptr d (off + i.toNat * ei.size))))
      | .radd fr cells off => ifE (decide (0 ≤ i)) (ifE (decide (i < n)) (K (.radd fr cells (off + i.toNat * ei.size))))
      | _ => none
    | _ => none
def onIE (av : AV) (K : IntKind → Int → Option β) : Option β :=
  match av with
  | .val (.int k n) => K k n
  | _ => none
def bndE (σ : St) (x : Option Operand) (d : Nat) (K : Nat → Option β) : Option β :=
  match x with
  | none => K d
  | some o => onE (σ.ev o) fun av => onIE av fun _ n => ifE (decide (0 ≤ n)) (K n.toNat)
def cutE (C : Ctx) (σ : St) (t : TypeId) (x : AV) (lo hi mx : Option Operand) (K : AV → Option β) : Option β :=
  onE (C.T t) fun ti => match ti.k with
    | .slice e => onE (C.T e) fun ei =>
      match x with
      | .row fr n cells => bndE σ hi n fun h => bndE σ mx n fun m => bndE σ lo 0 fun l => ifE (!mx.isSome || hi.isSome) (ifE (Nat.ble l h) (ifE (Nat.ble h m) (ifE (Nat.ble m n) (K (.row fr (h - l) ((cells.drop (l * ei.size)).take ((h - l) * ei.size)))))))
      | .own d => match look d σ.rows with
        | some (some r) => bndE σ hi r.n fun h => bndE σ lo 0 fun l => ifE mx.isNone (ifE (Nat.ble l h) (ifE (Nat.ble h r.n) (ifE (Nat.beq r.sz ei.size) (K (.sub d (l * ei.size) (h - l))))))
        | _ => none
      | .sub d off n => match look d σ.rows with
        | some (some r) => bndE σ hi n fun h => bndE σ lo 0 fun l => ifE mx.isNone (ifE (Nat.ble l h) (ifE (Nat.ble h n) (ifE (Nat.beq r.sz ei.size) (K (.sub d (off + l * ei.size) (h - l))))))
        | _ => none
      | .val (.slice none 0 0) => bndE σ hi 0 fun h => bndE σ mx 0 fun m => bndE σ lo 0 fun l => ifE (!mx.isSome || hi.isSome) (ifE (Nat.ble l h) (ifE (Nat.ble h m) (ifE (Nat.ble m 0) (K (.val (.slice none 0 0))))))
      | _ => none
    | _ => none
def fldE (C : Ctx) (t : TypeId) (j : Nat) (K : Nat → TI → Option β) : Option β :=
  onE (C.T t) fun ti => match ti.k with
    | .struct fs => onE (fs[j]?) fun f => onE (C.T f.2) fun fi => K f.1 fi
    | _ => none
def fadE (C : Ctx) (t : TypeId) (x : AV) (j : Nat) (K : AV → Option β) : Option β :=
  fldE C t j fun off fi => ifE (Nat.blt 0 fi.size) (match x with
    | .ptr d o => K (.ptr d (o + off))
    | .addr d o => K (.addr d (o + off))
    | .radd fr cells o => K (.radd fr cells (o + off))
    | _ => none)
def partE (C : Ctx) (t : TypeId) (x : AV) (j : Nat) (K : AV → Option β) : Option β :=
  fldE C t j fun off fi => match x with
    | .agg cells => match fi.k.isAgg with
      | true => ifE (Nat.ble (off + fi.size) cells.length) (K (.agg ((cells.drop off).take fi.size)))
      | false => onE (cells[off]?) K
    | _ => none
def cvtE (σ : St) (av : AV) (K : AV → Bool → Option β) : Option β :=
  match av with
  | .own d => match look d σ.rows with
    | some (some r) => ifE (AV.closed.closed.l r.cells) (K (.row false r.n (AV.unt.unt.l r.cells)) true)
    | _ => none
  | .sub d off n => match look d σ.rows with
    | some (some r) => ifE (Nat.ble (off + n * r.sz) r.cells.length) (ifE (AV.closed.closed.l r.cells) (K (.row false n (((AV.unt.unt.l r.cells).drop off).take (n * r.sz))) true))
    | _ => none
  | .ptr d off => onE (look d σ.boxes) fun bx => ifE (AV.closed.closed.l bx.cells) (K (.radd false (AV.unt.unt.l bx.cells) off) true)
  | av => ifE av.closed (K av.unt false)
def argsE (σ : St) : List Operand → (List AV → Bool → Option β) → Option β
  | [], K => K [] false
  | x :: l, K => onE (σ.ev x) fun av => cvtE σ av fun av' o => argsE σ l fun avs o' => K (av' :: avs) (o || o')
def capsE (σ : St) : List AV → (List AV → Bool → Option β) → Option β
  | [], K => K [] false
  | av :: l, K => cvtE σ av fun av' o => capsE σ l fun avs o' => K (av' :: avs) (o || o')
def xE (x : XK) (args : List AV) (K : AV → Option β) : Option β :=
  match args with
  | [.val (.int .u64 a), .val (.int .u64 b), .val (.int .u64 c)] => ifE (decide (0 ≤ a) && decide (a < 18446744073709551616)) (ifE (decide (0 ≤ b) && decide (b < 18446744073709551616)) (ifE (decide (0 ≤ c) && decide (c ≤ 1)) (K (.tup [w64 (x.fst a b c), w64 (x.snd a b c)]))))
  | _ => none
def callE (C : Ctx) (h : Nat → List AV → Option AV) (f : FuncId) (args : List AV) (owned : Bool) (K : AV → Option β) : Option β :=
  match C.X f with
  | some x => xE x args K
  | none => onE (h f args) fun r => ifE (!owned || r.fresh) (K r)
def foldE (f : Int → Int → Int) (k : IntKind) (acc : Int) : List AV → (Int → Option β) → Option β
  | [], K => K acc
  | av :: l, K => onIE av fun k' n => ifE (decide (k' = k)) (foldE f k (f acc n) l K)
def evLE (σ : St) : List Operand → (List AV → Option β) → Option β
  | [], K => K []
  | x :: l, K => onE (σ.ev x) fun av => evLE σ l fun avs => K (av :: avs)
def appE (C : Ctx) (σ : St) (dst : Option Nat) (t : TypeId) (s x : AV) (K : St → Option β) : Option β :=
  onE (C.T t) fun ti => match ti.k with
    | .slice e => onE (C.T e) fun ei => rowE σ x fun m news => ifE (Nat.blt 0 ei.size) (ifE (Nat.beq news.length (m * ei.size)) (
      match s with
      | .val (.slice none 0 0) => ifE (Nat.ble (m * ei.bytes) 140737488355328) (ifE (Nat.ble m 9223372036854775807) (K ((σ.newRow ⟨e, ei.size, m, news⟩).put dst (.own (2 * σ.nr + 1)))))
      | .own d => match look d σ.rows with
        | some (some r) => ifE (Nat.beq r.e e) (ifE (Nat.beq r.sz ei.size) (ifE (Nat.ble ((r.n + m) * ei.bytes) 140737488355328) (ifE (Nat.ble (r.n + m) 9223372036854775807) (K (((σ.setRow d none).newRow ⟨e, ei.size, r.n + m, r.cells ++ news⟩).put dst (.own (2 * σ.nr + 1)))))))
        | _ => none
      | _ => none))
    | _ => none
def isSl (C : Ctx) (t : TypeId) : Bool := match C.T t with
  | some i => match i.k with
    | .slice _ => true
    | _ => false
  | none => false
def bltE (C : Ctx) (σ : St) (dst : Option Nat) (b : Builtin) (ts : Array TypeId) (args : List AV) (K : St → Option β) : Option β :=
  match b, args with
  | .len, [x] => rowE σ x fun n _ => onE (ts[0]?) fun t => ifE (isSl C t) (K (σ.put dst (.val (.int .i64 n))))
  | .max, x :: l => onIE x fun k n => foldE mx2 k n l fun r => K (σ.put dst (.val (.int k r)))
  | .min, x :: l => onIE x fun k n => foldE mn2 k n l fun r => K (σ.put dst (.val (.int k r)))
  | .append, [s, x] => onE (ts[0]?) fun t => ifE (match ts.toList with | [t1, t2] => Nat.beq t1 t && Nat.beq t2 t | _ => false) (appE C σ dst t s x K)
  | _, _ => none
def intE (op : BinOp) (k : IntKind) (a b : Int) (K : Value → Option β) : Option β :=
  match op with
  | .add => K (.int k (k.wrap (a + b)))
  | .sub => K (.int k (k.wrap (a - b)))
  | .mul => K (.int k (k.wrap (a * b)))
  | .quo => ifE (!(b == 0)) (K (.int k (k.wrap (a.tdiv b))))
  | .rem => ifE (!(b == 0)) (K (.int k (a.tmod b)))
  | .and => K (.int k (bits .and k a b))
  | .or => K (.int k (bits .or k a b))
  | .xor => K (.int k (bits .xor k a b))
  | .andNot => K (.int k (bits .andNot k a b))
  | .eql => K (.bool (a == b))
  | .neq => K (.bool (a != b))
  | .lss => K (.bool (decide (a < b)))
  | .leq => K (.bool (decide (a ≤ b)))
  | .gtr => K (.bool (decide (a > b)))
  | .geq => K (.bool (decide (a ≥ b)))
  | _ => none
def binE (op : BinOp) (x y : Value) (K : Value → Option β) : Option β :=
  match op, x, y with
  | .shl, .int k a, .int _ b => ifE (decide (0 ≤ b)) (K (.int k (k.wrap (a * 2 ^ min b.toNat k.bits))))
  | .shr, .int k a, .int _ b => ifE (decide (0 ≤ b)) (K (.int k (a / 2 ^ min b.toNat k.bits)))
  | op, .int k a, .int k' b => ifE (decide (k = k')) (intE op k a b K)
  | .eql, .bool a, .bool b => K (.bool (a == b))
  | .neq, .bool a, .bool b => K (.bool (a != b))
  | _, _, _ => none
def isBo (C : Ctx) (t : TypeId) : Bool := match C.T t with
  | some i => match i.k with
    | .bool => true
    | _ => false
  | none => false
def opE (C : Ctx) (h : Nat → List AV → Option AV) (o : Oper) (σ : St) (K : St → Option β) : Option β :=
  match o.op with
  | .move x | .assign x => onE (σ.ev x) fun av => K (σ.put o.dst av)
  | .pick c a b => onE (σ.ev c) fun cv => match cv with
    | .val (.bool true) => onE (σ.ev a) fun av => K (σ.put o.dst av)
    | .val (.bool false) => onE (σ.ev b) fun av => K (σ.put o.dst av)
    | _ => none
  | .alloc e => onE (C.T e) fun i => K ((σ.newBox ⟨e, i.zero.map .val⟩).put o.dst (.ptr (2 * σ.nb) 0))
  | .box e x => onE (σ.ev x) fun av => frzE σ av fun av' σ' => onE (cellsOf av') fun cs => K ((σ'.newBox ⟨e, cs⟩).put o.dst (.ptr (2 * σ'.nb) 0))
  | .build t parts => onE (C.T t) fun i => match i.k with
    | .struct fs => frzLE σ parts.toList fun ps σ' => fillE C fs (i.zero.map .val) ps fun cells => K (σ'.put o.dst (.agg cells))
    | _ => none
  | .buildSlice t len parts => onE (C.T t) fun i => match i.k with
    | .slice e => onE (C.T e) fun ei => frzLE σ parts.toList fun ps σ' => ifE (Nat.beq ps.length len) (ifE (Nat.ble (len * ei.size) 16777216) (ifE (Nat.blt 0 ei.size) (litE ei.size 0 ps fun cells => K ((σ'.newRow ⟨e, ei.size, len, cells⟩).put o.dst (.own (2 * σ'.nr + 1))))))
    | _ => none
  | .load t p => onE (σ.ev p) fun pv => ldE C σ t pv fun av => K (σ.put o.dst av)
  | .store t p x => onE (σ.ev p) fun pv => onE (σ.ev x) fun xv => stE C σ t pv xv fun σ' => K (σ'.put o.dst (.val undef))
  | .nilCheck x => onE (σ.ev x) fun av => match av with
    | .ptr _ _ | .addr _ _ | .radd _ _ _ | .clo _ _ | .val (.func (.func _) _ _) => K (σ.put o.dst av)
    | _ => none
  | .binOp op t x y _ => onE (σ.ev x) fun xv => onE (σ.ev y) fun yv => match xv, yv with
    | .val a, .val b => ifE ((match a with | .bool _ => false | _ => true) || isBo C t) (binE op a b fun v => K (σ.put o.dst (.val v)))
    | _, _ => none
  | .unOp op _ x => onE (σ.ev x) fun xv => match op, xv with
    | .neg, .val (.int k n) => K (σ.put o.dst (.val (.int k (k.wrap (0 - n)))))
    | .not, .val (.bool b) => K (σ.put o.dst (.val (.bool !b)))
    | .xor, .val (.int k n) => K (σ.put o.dst (.val (.int k (bits .xor k (if k.signed then -1 else k.max) n))))
    | _, _ => none
  | .convert st dt x => onE (C.T st) fun _ => onE (σ.ev x) fun xv => onIE xv fun _ n => onE (C.T dt) fun i => match i.k with
    | .int k => K (σ.put o.dst (.val (.int k (k.wrap n))))
    | _ => none
  | .makeFunc (.func f) first caps => ifE first.isEmpty (evLE σ caps.toList fun cs => K (σ.put o.dst (.clo f cs)))
  | .makeSlice t l c => onE (σ.ev l) fun lv => onIE lv fun k n => onE (σ.ev c) fun cv => onIE cv fun k' n' => ifE (decide (k = .i64)) (ifE (decide (k' = .i64)) (ifE (decide (n' = n)) (onE (C.T t) fun i => match i.k with
    | .slice e => onE (C.T e) fun ei => match ei.zero with
      | [z] => ifE (decide (0 ≤ n)) (ifE (decide (n ≤ 9223372036854775807)) (ifE (Nat.ble (n.toNat * ei.bytes) 140737488355328) (K ((σ.newRow ⟨e, 1, n.toNat, List.replicate n.toNat (.val z)⟩).put o.dst (.own (2 * σ.nr + 1))))))
      | _ => none
    | _ => none)))
  | .slice t x lo hi mx => onE (σ.ev x) fun xv => cutE C σ t xv lo hi mx fun av => K (σ.put o.dst av)
  | .fieldAddr t x j => onE (σ.ev x) fun xv => fadE C t xv j fun av => K (σ.put o.dst av)
  | .field t x j => onE (σ.ev x) fun xv => partE C t xv j fun av => K (σ.put o.dst av)
  | .indexAddr t x i => onE (σ.ev x) fun xv => onE (σ.ev i) fun iv => onIE iv fun _ n => idxE C σ t xv n fun av => K (σ.put o.dst av)
  | .index t x i => onE (C.T t) fun ti => onE (σ.ev x) fun xv => onE (σ.ev i) fun iv => onIE iv fun _ n => match ti.k, xv with
    | .str, .val (.string s) => ifE (decide (0 ≤ n)) (onE (s[n.toNat]?) fun b => K (σ.put o.dst (.val (.int .u8 b.toNat))))
    | _, _ => none
  | .extract x j => onE (σ.ev x) fun xv => match xv with
    | .tup vs => onE (vs[j]?) fun av => K (σ.put o.dst av)
    | _ => none
  | .call c => match c.callee with
    | .value f => onE (σ.ev f) fun fv => argsE σ c.args.toList fun args ow => match fv with
      | .val (.func (.func g) fi ca) => ifE (fi.isEmpty && ca.isEmpty) (callE C h g args ow fun r => K (σ.put o.dst r))
      | .clo g caps => capsE σ caps fun cs ow' => callE C h g (args ++ cs) (ow || ow') fun r => K (σ.put o.dst r)
      | _ => none
    | .builtin b => evLE σ c.args.toList fun args => bltE C σ o.dst b c.argTypes args K
    | _ => none
  | _ => none
end defs
end Go.Rk
