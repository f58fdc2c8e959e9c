/- DecdivLarge, the tied card: for every context and all Decs x and y the law answers true and leaves its arguments as they were, for a Dec with too many words gives ErrSize from each of the seven functions. Conditions: none beyond the given statement (part 7 of 8) -/
import Derived.Test.YtilkfpaelkekfaaDoorK05
import Derived.Test.YtilkfpaelkekfaaDoorTie
import Derived.ProofKit
import Derived.LaidMore
import Derived.Stop.Joined
import Derived.Lib.SmallJoins
import Derived.OpenShut
set_option linter.unusedVariables false
namespace Go.Rk
open Go.RowKit
section
variable {C : Ctx} {R : List (Nat × Rx)} {σ τ : St}
/-- A loop, round by round. -/
def loopN (C : Ctx) (R : List (Nat × Rx)) (c : Code) (Q : AEx → St → Prop) : Nat → St → Prop
  | 0, _ => False
  | n + 1, σ => codeW C R c σ fun e σ' => match e with
    | .normal => loopN C R c Q n σ'
    | e => Q e σ'
theorem codeW_loopN {c : Code} {Q : AEx → St → Prop} (n : Nat) (h : loopN C R c Q n σ) : codeW C R (.loop c) σ Q := by
  refine ⟨Σ k : Nat, { τ : St // loopN C R c Q k τ }, fun x => x.2.1, fun x => x.1, ⟨n, σ, h⟩, Incl.refl σ, fun x => ?_⟩
  obtain ⟨k, τ, hτ⟩ := x
  cases k with
  | zero => exact hτ.elim
  | succ k =>
    refine codeW_mono c hτ fun e σ' h' => ?_
    cases e with
    | normal => exact ⟨⟨k, σ', h'⟩, Incl.refl σ', Nat.lt_succ_self _⟩
    | exit j => exact h'
    | ret => exact h'
/-- A state that says less. -/
structure Sub (σ τ : St) : Prop where
  s : ∀ p ∈ τ.slots, look p.1 σ.slots = some p.2
  b : ∀ p ∈ τ.boxes, look p.1 σ.boxes = some p.2
  r : ∀ p ∈ τ.rows, look p.1 σ.rows = some p.2
  g : τ.gl = σ.gl
  nb : σ.nb ≤ τ.nb
  nr : σ.nr ≤ τ.nr
theorem sub_look {α : Type} {l m : List (Nat × α)} (h : ∀ p ∈ l, look p.1 m = some p.2) {d : Nat} {a : α} (e : look d l = some a) : look d m = some a := by
  induction l with
  | nil => cases e
  | cons p l ih =>
    obtain ⟨k, v⟩ := p
    rw [look_cons] at e
    split at e
    · rename_i e'; subst e'; injection e with e; subst e; exact h (d, v) (by simp)
    · exact ih (fun p hp => h p (by simp [hp])) e
theorem Incl.sub (h : Sub σ τ) : Incl σ τ := fun w0 N E a w hr => by
  have hb := fun d bx => sub_look (d := d) (a := bx) h.b
  have hrr := fun d r => sub_look (d := d) (a := some r) h.r
  have hwr : ∀ b, τ.wr E b → σ.wr E b := fun b hb' => by
    rcases hb' with ⟨d, bx, h1, h2⟩ | ⟨d, r, h1, h2⟩
    · exact .inl ⟨d, bx, hb d bx h1, h2⟩
    · exact .inr ⟨d, r, hrr d r h1, h2⟩
  refine ⟨E, ⟨hr.size, hr.defers, hr.below, hr.base, fun d hd => ?_, by rw [h.g]; exact hr.glob, fun t av ht => ?_, fun d bx hd => ?_, fun d r hd => ?_, fun d d' bx bx' h1 h2 => hr.bb d d' bx bx' (hb d bx h1) (hb d' bx' h2),
    fun d d' bx r h1 h2 => hr.br d d' bx r (hb d bx h1) (hrr d' r h2), fun d d' r r' b h1 h2 => hr.rr d d' r r' b (hrr d r h1) (hrr d' r' h2)⟩, rfl, rfl, rfl⟩
  · have := hr.al d hd
    have := h.nb
    have := h.nr
    omega
  · obtain ⟨v, h1, h2⟩ := hr.slots t av (sub_look h.s ht)
    exact ⟨v, h1, h2.shrink hwr⟩
  · obtain ⟨h1, h2, arr, h3, h4⟩ := hr.boxes d bx (hb d bx hd)
    exact ⟨h1, h2, arr, h3, h4.mono fun av v hv => hv.shrink hwr⟩
  · obtain ⟨h1, xs, h3, h4⟩ := hr.rows d r (hrr d r hd)
    exact ⟨h1, xs, h3, h4.mono fun av v hv => hv.shrink hwr⟩
/-- A function of the table. -/
theorem ACalls.fn (hC : C.Okx) (hm : C.P.follows .mixedOrders = true) {f : FuncId} {fn : Func} {R : List (Nat × Rx)} (hf : C.P.funcs[f]? = some fn) (hfit : fnFit ⟨fn, R⟩ = true) {c : Code} {args : List AV} {r : AV} (hb : fn.body = some c)
    (hl : Nat.ble args.length fn.ntmps = true) (h : codeW C R c (St.init C args) (retW C fn.results r)) : ACalls C f args r := by
  simp only [fnFit, hb, Bool.and_eq_true, Bool.not_eq_true'] at hfit
  exact ACalls.of hC hm hf hb hfit.1 hfit.2 hl h
end
end Go.Rk

namespace Go.Rk
open Go.RowKit
/-! The steps of a walk over lists and numbers. -/
section
variable {C : Ctx} {R : List (Nat × Rx)} {σ τ : St} {Q : AEx → St → Prop} {K : St → Prop} {x y c : Code} {all : Array Oper} {o : Oper} {l : List Oper}
def seqQ (C : Ctx) (R : List (Nat × Rx)) (y : Code) (Q : AEx → St → Prop) (e : AEx) (σ' : St) : Prop := match e with
  | .normal => codeW C R y σ' Q
  | e => Q e σ'
def blkQ (id : Nat) (Q : AEx → St → Prop) (e : AEx) (σ' : St) : Prop := match e with
  | .exit j => if j = id then Q .normal σ' else Q (.exit j) σ'
  | e => Q e σ'
def lpQ (C : Ctx) (R : List (Nat × Rx)) (c : Code) (Q : AEx → St → Prop) (n : Nat) (e : AEx) (σ' : St) : Prop := match e with
  | .normal => loopN C R c Q n σ'
  | e => Q e σ'
def opsK (C : Ctx) (all : Array Oper) (l : List Oper) (K : St → Prop) (σ : St) : Prop := opsW C all l σ K
theorem q_skip (h : Q .normal σ) : codeW C R .skip σ Q := h
theorem q_ret (h : Q .ret σ) : codeW C R .ret σ Q := h
theorem q_exit {j : Nat} (h : Q (.exit j) σ) : codeW C R (.exit j) σ Q := h
theorem q_reg {id : Nat} {ops : Array Oper} (h : opsW C ops ops.toList σ (Q .normal)) : codeW C R (.region id ops false) σ Q := h
theorem q_dr {id : Nat} {ops : Array Oper} (h1 : dynE (look id R) σ = true) (h : opsW C ops ops.toList σ (Q .normal)) : codeW C R (.region id ops true) σ Q := ⟨dynE_s h1, h⟩
theorem q_seq (h : codeW C R x σ (seqQ C R y Q)) : codeW C R (.seq x y) σ Q := codeW_mono x h fun e σ' h' => by cases e <;> exact h'
theorem q_block {id : Nat} (h : codeW C R c σ (blkQ id Q)) : codeW C R (.block id c) σ Q := codeW_mono c h fun e σ' h' => by cases e <;> exact h'
theorem q_loop (n : Nat) (h : loopN C R c Q n σ) : codeW C R (.loop c) σ Q := codeW_loopN n h
theorem q_round {n : Nat} (h : codeW C R c σ (lpQ C R c Q n)) : loopN C R c Q (n + 1) σ := codeW_mono c h fun e σ' h' => by cases e <;> exact h'
theorem q_condT {v : Operand} (e : σ.ev v = some (.val (.bool true))) (h : codeW C R x (σ.know v true) Q) : codeW C R (.cond v x y) σ Q := onO_of e ⟨fun _ => h, fun e => by cases e⟩
theorem q_condF {v : Operand} (e : σ.ev v = some (.val (.bool false))) (h : codeW C R y (σ.know v false) Q) : codeW C R (.cond v x y) σ Q := onO_of e ⟨fun e => (by cases e), fun _ => h⟩
theorem q_condS {v : Operand} {t : Bool} (e : σ.ev v = some (.val (.bool t))) (h1 : t = true → codeW C R x (σ.know v true) Q) (h2 : t = false → codeW C R y (σ.know v false) Q) : codeW C R (.cond v x y) σ Q := onO_of e ⟨h1, h2⟩
theorem q_condTo {v : Operand} {t : Bool} (e : σ.ev v = some (.val (.bool t))) (ht : t = true) (h1 : codeW C R x (σ.know v true) Q) : codeW C R (.cond v x y) σ Q := onO_of e ⟨fun _ => h1, fun h => by rw [ht] at h; cases h⟩
theorem q_condFo {v : Operand} {t : Bool} (e : σ.ev v = some (.val (.bool t))) (ht : t = false) (h1 : codeW C R y (σ.know v false) Q) : codeW C R (.cond v x y) σ Q := onO_of e ⟨fun h => (by rw [ht] at h; cases h), fun _ => h1⟩
theorem s_n (h : codeW C R y σ Q) : seqQ C R y Q .normal σ := h
theorem s_r (h : Q .ret σ) : seqQ C R y Q .ret σ := h
theorem s_e {j : Nat} (h : Q (.exit j) σ) : seqQ C R y Q (.exit j) σ := h
theorem b_n {id : Nat} (h : Q .normal σ) : blkQ id Q .normal σ := h
theorem b_r {id : Nat} (h : Q .ret σ) : blkQ id Q .ret σ := h
theorem b_e {id : Nat} (h : Q .normal σ) : blkQ id Q (.exit id) σ := by unfold blkQ; simp only [if_true]; exact h
theorem b_o {id j : Nat} (hn : Nat.beq j id = false) (h : Q (.exit j) σ) : blkQ id Q (.exit j) σ := by unfold blkQ; simp only; rw [if_neg (fun e => by subst e; simp at hn)]; exact h
theorem l_n {n : Nat} (h : loopN C R c Q n σ) : lpQ C R c Q n .normal σ := h
theorem l_r {n : Nat} (h : Q .ret σ) : lpQ C R c Q n .ret σ := h
theorem l_e {n j : Nat} (h : Q (.exit j) σ) : lpQ C R c Q n (.exit j) σ := h
theorem w_nil (h : K σ) : opsW C all [] σ K := h
theorem k_go (h : opsW C all l σ K) : opsK C all l K σ := h
theorem w_op (hg : o.guard = none) (h : opW C o σ (opsK C all l K)) : opsW C all (o :: l) σ K := by
  rw [opsW_cons]; unfold oneW; rw [hg]; exact h
def noCall (f : Nat) (args : List AV) : Option AV := none
theorem u_op (e : opE C noCall o σ some = some τ) (h : K τ) : opW C o σ K :=
  opE_s (h := noCall) (fun f a r h => by cases h) (KE := some) (fun y hy => by injection hy with hy; subst hy; exact h) e
/-- A guard. -/
def gslot (all : Array Oper) (o : Oper) : Option (Nat × Bool) := match o.guard with
  | some (g, u) => match (all[g]?).bind (·.dst) with
    | some d => some (d, u)
    | none => none
  | none => none
theorem gslot_s {d : Nat} {u : Bool} (h : gslot all o = some (d, u)) : ∃ g og, o.guard = some (g, u) ∧ all[g]? = some og ∧ og.dst = some d := by
  unfold gslot at h
  cases hg : o.guard with
  | none => rw [hg] at h; cases h
  | some p =>
    obtain ⟨g, u'⟩ := p
    rw [hg] at h
    simp only at h
    cases ho : all[g]? with
    | none => rw [ho] at h; cases h
    | some og =>
      rw [ho] at h
      cases hd : og.dst with
      | none => simp [hd] at h
      | some d' =>
        simp [hd] at h
        obtain ⟨rfl, rfl⟩ := h
        exact ⟨g, og, rfl, ho, hd⟩
theorem w_gS {d : Nat} {u t : Bool} (hg : gslot all o = some (d, u)) (hl : look d σ.slots = some (.val (.bool t))) (h1 : t = u → opW C o (σ.put (some d) (.val (.bool u))) (opsK C all l K))
    (h2 : t = !u → opsK C all l K ((σ.put (some d) (.val (.bool (!u)))).put o.dst (.val undef))) : opsW C all (o :: l) σ K := by
  obtain ⟨g, og, e1, e2, e3⟩ := gslot_s hg
  rw [opsW_cons]; unfold oneW; rw [e1]
  exact guardW_of e2 e3 hl ⟨h1, h2⟩
theorem w_gY {d : Nat} {u : Bool} (hg : gslot all o = some (d, u)) (hl : look d σ.slots = some (.val (.bool u))) (h1 : opW C o (σ.put (some d) (.val (.bool u))) (opsK C all l K)) : opsW C all (o :: l) σ K :=
  w_gS hg hl (fun _ => h1) (fun e => by cases u <;> cases e)
theorem w_gN {d : Nat} {u : Bool} (hg : gslot all o = some (d, u)) (hl : look d σ.slots = some (.val (.bool (!u)))) (h1 : opsK C all l K ((σ.put (some d) (.val (.bool (!u)))).put o.dst (.val undef))) : opsW C all (o :: l) σ K :=
  w_gS hg hl (fun e => by cases u <;> cases e) (fun _ => h1)
/-- A call: what the callee is, its arguments as it sees them, what it hands back. -/
def callA (C : Ctx) (o : Oper) (σ : St) : Option (Nat × List AV × Bool) := match o.op with
  | .call c => match c.callee with
    | .value f => onE (σ.ev f) fun fv => argsE σ c.args.toList fun args ow => match fv with
      | .val (.func (.func g) fi ca) => ifE (fi.isEmpty && ca.isEmpty && (C.X g).isNone) (some (g, args, ow))
      | .clo g caps => capsE σ caps fun cs ow' => ifE (C.X g).isNone (some (g, args ++ cs, ow || ow'))
      | _ => none
    | _ => none
  | _ => none
theorem callA_s {f : Nat} {args : List AV} {ow : Bool} {r : AV} (h : callA C o σ = some (f, args, ow)) (hr : ACalls C f args r) (hf : (!ow || r.fresh) = true) (hk : K (σ.put o.dst r)) : opW C o σ K := by
  unfold callA at h
  cases ho : o.op <;> rw [ho] at h <;> (try (cases h; done))
  rename_i c
  simp only at h
  unfold opW
  rw [ho]
  simp only
  cases hc : c.callee with
  | value g =>
    rw [hc] at h
    simp only at h ⊢
    refine onE_s (fun fv h => argsE_s (fun ar ow1 h => ?_) h) h
    have fin : ∀ (g : Nat) (ar : List AV) (b : Bool), (C.X g).isNone = true → (g, ar, b) = (f, args, ow) → callW C g ar b fun r => K (σ.put o.dst r) := by
      intro g ar b hx e
      injection e with e1 e2
      injection e2 with e2 e3
      subst e1 e2 e3
      unfold callW
      rw [Option.isNone_iff_eq_none.1 hx]
      exact ⟨r, hr, mxhi hf, hk⟩
    split at h
    · obtain ⟨h1, h⟩ := ifE_s h
      simp only [Bool.and_eq_true, Array.isEmpty_iff] at h1
      injection h with h
      exact ⟨h1.1.1, h1.1.2, fin _ _ _ h1.2 h⟩
    · refine capsE_s (fun cs ow'' h => ?_) h
      obtain ⟨h1, h⟩ := ifE_s h
      injection h with h
      exact fin _ _ _ h1 h
    · cases h
  | builtin b => rw [hc] at h; cases h
  | invoke r m => rw [hc] at h; cases h
/-- What a function's code must come to. -/
theorem r_out {fn : Func} {e : AEx} {r r' : AV} (hd : e.done = true) (hr : resE C σ fn.results.toList (fun avs _ => ifE (oneRes avs).closed (some (oneRes avs))) = some r') (h : r' = r ∨ r'.unt = r) : retW C fn.results r e σ :=
  ⟨hd, resE_s (r := r') (fun avs τ e => by
    obtain ⟨h5, e⟩ := ifE_s e
    injection e with e
    subst e
    exact ⟨h5, h⟩) hr⟩
end
end Go.Rk

namespace Go.Rk
open Go.RowKit
section
variable {β : Type} {C : Ctx} {σ : St} {K : St → Prop} {o : Oper}
/-- An argument, and what must be closed for it. -/
def cvtB (σ : St) (av : AV) (K : AV → Bool → List AV → Option β) : Option β :=
  match av with
  | .own d => match look d σ.rows with
    | some (some r) => K (.row false r.n (AV.unt.unt.l r.cells)) true [.row false r.n r.cells]
    | _ => none
  | .sub d off n => match look d σ.rows with
    | some (some r) => ifE (Nat.ble (off + n * r.sz) r.cells.length) (K (.row false n (((AV.unt.unt.l r.cells).drop off).take (n * r.sz))) true [.row false r.n r.cells])
    | _ => none
  | .ptr d off => onE (look d σ.boxes) fun bx => K (.radd false (AV.unt.unt.l bx.cells) off) true [.agg bx.cells]
  | av => K av.unt false [av]
def argsB (σ : St) : List Operand → (List AV → Bool → List AV → Option β) → Option β
  | [], K => K [] false []
  | x :: l, K => onE (σ.ev x) fun av => cvtB σ av fun av' o c => argsB σ l fun avs o' c' => K (av' :: avs) (o || o') (c ++ c')
def capsB (σ : St) : List AV → (List AV → Bool → List AV → Option β) → Option β
  | [], K => K [] false []
  | av :: l, K => cvtB σ av fun av' o c => capsB σ l fun avs o' c' => K (av' :: avs) (o || o') (c ++ c')
def callB (C : Ctx) (o : Oper) (σ : St) : Option (Nat × List AV × Bool × List AV) := match o.op with
  | .call c => match c.callee with
    | .value f => onE (σ.ev f) fun fv => argsB σ c.args.toList fun args ow cl => match fv with
      | .val (.func (.func g) fi ca) => ifE (fi.isEmpty && ca.isEmpty && (C.X g).isNone) (some (g, args, ow, cl))
      | .clo g caps => capsB σ caps fun cs ow' cl' => ifE (C.X g).isNone (some (g, args ++ cs, ow || ow', cl ++ cl'))
      | _ => none
    | _ => none
  | _ => none
def clo (l : List AV) : Prop := ∀ a ∈ l, a.closed = true
theorem clo_app {l m : List AV} (h : clo (l ++ m)) : clo l ∧ clo m := ⟨fun a ha => h a (by simp [ha]), fun a ha => h a (by simp [ha])⟩
theorem onE_ex {α : Type} {r : β} {x : Option α} {KE : α → Option β} (e : onE x KE = some r) : ∃ y, KE y = some r := by
  cases x with
  | none => cases e
  | some a => exact ⟨a, e⟩
theorem cvtB_ex {r : β} {av : AV} {KB : AV → Bool → List AV → Option β} (e : cvtB σ av KB = some r) : ∃ x b c, KB x b c = some r := by
  cases av with
  | own d =>
    simp only [cvtB] at e
    split at e
    · exact ⟨_, _, _, e⟩
    · cases e
  | sub d off n =>
    simp only [cvtB] at e
    split at e
    · exact ⟨_, _, _, (ifE_s e).2⟩
    · cases e
  | ptr d off =>
    obtain ⟨bx, e⟩ := onE_ex e
    exact ⟨_, _, _, e⟩
  | _ => exact ⟨_, _, _, e⟩
theorem argsB_ex {r : β} : ∀ {l : List Operand} {KB : List AV → Bool → List AV → Option β}, argsB σ l KB = some r → ∃ x b c, KB x b c = some r
  | [], KB, e => ⟨_, _, _, e⟩
  | x :: l, KB, e => by
    obtain ⟨av, e⟩ := onE_ex e
    obtain ⟨x, b, c, e⟩ := cvtB_ex e
    obtain ⟨xs, b', c', e⟩ := argsB_ex e
    exact ⟨_, _, _, e⟩
theorem capsB_ex {r : β} : ∀ {l : List AV} {KB : List AV → Bool → List AV → Option β}, capsB σ l KB = some r → ∃ x b c, KB x b c = some r
  | [], KB, e => ⟨_, _, _, e⟩
  | x :: l, KB, e => by
    obtain ⟨x, b, c, e⟩ := cvtB_ex e
    obtain ⟨xs, b', c', e⟩ := capsB_ex e
    exact ⟨_, _, _, e⟩
theorem cvtB_s {r : β} {av : AV} {KB : AV → Bool → List AV → Option β} {KW : AV → Bool → Prop} (hK : ∀ x b c, KB x b c = some r → clo c ∧ KW x b) (e : cvtB σ av KB = some r) : cvtW σ av KW := by
  cases av with
  | own d =>
    simp only [cvtB, cvtW] at e ⊢
    split at e
    · rename_i r' hr
      simp only [hr]
      obtain ⟨h1, h2⟩ := hK _ _ _ e
      exact ⟨h1 (.row false r'.n r'.cells) (by simp), h2⟩
    · cases e
  | sub d off n =>
    simp only [cvtB, cvtW] at e ⊢
    split at e
    · rename_i r' hr
      simp only [hr]
      obtain ⟨h0, e⟩ := ifE_s e
      obtain ⟨h1, h2⟩ := hK _ _ _ e
      exact ⟨Nat.le_of_ble_eq_true h0, h1 (.row false r'.n r'.cells) (by simp), h2⟩
    · cases e
  | ptr d off => exact onE_s (fun bx e => ⟨(hK _ _ _ e).1 (.agg bx.cells) (by simp), (hK _ _ _ e).2⟩) e
  | val v => exact ⟨(hK _ _ _ e).1 (.val v) (by simp), (hK _ _ _ e).2⟩
  | addr d off => exact ⟨(hK _ _ _ e).1 (.addr d off) (by simp), (hK _ _ _ e).2⟩
  | row fr n cs => exact ⟨(hK _ _ _ e).1 (.row fr n cs) (by simp), (hK _ _ _ e).2⟩
  | radd fr cs off => exact ⟨(hK _ _ _ e).1 (.radd fr cs off) (by simp), (hK _ _ _ e).2⟩
  | agg cs => exact ⟨(hK _ _ _ e).1 (.agg cs) (by simp), (hK _ _ _ e).2⟩
  | tup cs => exact ⟨(hK _ _ _ e).1 (.tup cs) (by simp), (hK _ _ _ e).2⟩
  | clo f cs => exact ⟨(hK _ _ _ e).1 (.clo f cs) (by simp), (hK _ _ _ e).2⟩
theorem argsB_s {r : β} : ∀ {l : List Operand} {KB : List AV → Bool → List AV → Option β} {KW : List AV → Bool → Prop}, (∀ x b c, KB x b c = some r → clo c ∧ KW x b) → argsB σ l KB = some r → argsW σ l KW
  | [], KB, KW, hK, e => (hK _ _ _ e).2
  | x :: l, KB, KW, hK, e => onE_s (fun av e => cvtB_s (fun av' o c e => by
      refine ⟨?_, argsB_s (fun avs o' c' e => ⟨(clo_app (hK _ _ _ e).1).2, (hK _ _ _ e).2⟩) e⟩
      obtain ⟨xs, b', c', e⟩ := argsB_ex e
      exact (clo_app (hK _ _ _ e).1).1) e) e
theorem capsB_s {r : β} : ∀ {l : List AV} {KB : List AV → Bool → List AV → Option β} {KW : List AV → Bool → Prop}, (∀ x b c, KB x b c = some r → clo c ∧ KW x b) → capsB σ l KB = some r → capsW σ l KW
  | [], KB, KW, hK, e => (hK _ _ _ e).2
  | x :: l, KB, KW, hK, e => cvtB_s (fun av' o c e => by
      refine ⟨?_, capsB_s (fun avs o' c' e => ⟨(clo_app (hK _ _ _ e).1).2, (hK _ _ _ e).2⟩) e⟩
      obtain ⟨xs, b', c', e⟩ := capsB_ex e
      exact (clo_app (hK _ _ _ e).1).1) e
theorem callB_s {f : Nat} {args args' cl : List AV} {ow : Bool} {r : AV} (h : callB C o σ = some (f, args, ow, cl)) (hcl : clo cl) (ha : args = args') (hr : ACalls C f args' r) (hf : (!ow || r.fresh) = true) (hk : K (σ.put o.dst r)) : opW C o σ K := by
  subst ha
  unfold callB at h
  cases ho : o.op <;> rw [ho] at h <;> (try (cases h; done))
  rename_i c
  simp only at h
  unfold opW
  rw [ho]
  simp only
  cases hc : c.callee with
  | value g =>
    rw [hc] at h
    simp only at h ⊢
    have fin : ∀ (g : Nat) (ar : List AV) (b : Bool) (c : List AV), (C.X g).isNone = true → (g, ar, b, c) = (f, args, ow, cl) → clo c ∧ callW C g ar b fun r => K (σ.put o.dst r) := by
      intro g ar b c hx e
      injection e with e1 e2
      injection e2 with e2 e3
      injection e3 with e3 e4
      subst e1 e2 e3 e4
      refine ⟨hcl, ?_⟩
      unfold callW
      rw [Option.isNone_iff_eq_none.1 hx]
      exact ⟨r, hr, mxhi hf, hk⟩
    refine onE_s (fun fv h => argsB_s (fun ar ow1 c1 h => ?_) h) h
    split at h
    · obtain ⟨h1, h⟩ := ifE_s h
      simp only [Bool.and_eq_true, Array.isEmpty_iff] at h1
      injection h with h
      have := fin _ _ _ _ h1.2 h
      exact ⟨this.1, h1.1.1, h1.1.2, this.2⟩
    · refine ⟨?_, capsB_s (fun cs ow'' c2 h => ?_) h⟩
      · obtain ⟨xs, b', c', h⟩ := capsB_ex h
        obtain ⟨h1, h⟩ := ifE_s h
        injection h with h
        exact (clo_app (fin _ _ _ _ h1 h).1).1
      · obtain ⟨h1, h⟩ := ifE_s h
        injection h with h
        have := fin _ _ _ _ h1 h
        exact ⟨(clo_app this.1).2, this.2⟩
    · cases h
  | builtin b => rw [hc] at h; cases h
  | invoke r m => rw [hc] at h; cases h
theorem clo_nil : clo [] := fun _ h => by cases h
theorem clo_cons {a : AV} {l : List AV} (h : a.closed = true) (hl : clo l) : clo (a :: l) := fun b hb => by
  rcases List.mem_cons.1 hb with rfl | hb
  · exact h
  · exact hl b hb
/-- The same for results: what must be closed comes apart. -/
theorem r_out' {fn : Func} {e : AEx} {r : AV} {avs : List AV} (hd : e.done = true) (hr : resE C σ fn.results.toList (fun avs _ => some avs) = some avs) (hc : (oneRes avs).closed = true) (h : oneRes avs = r ∨ (oneRes avs).unt = r) : retW C fn.results r e σ :=
  ⟨hd, resE_s (r := avs) (fun ys τ e => by
    injection e with e
    subst e
    exact ⟨hc, h⟩) hr⟩
end
end Go.Rk

namespace Go.Rk
open Go.RowKit
/-! Steps whose bounds are shown, not computed. -/
section
variable {C : Ctx} {σ : St} {K : St → Prop} {o : Oper}
theorem closed_w (l : List Int) : AV.closed.closed.l (l.map w64) = true := by
  induction l with
  | nil => rfl
  | cons a l ih => simp only [List.map_cons, AV.closed.closed.l, ih]; rfl
theorem unt_w (l : List Int) : AV.unt.unt.l (l.map w64) = l.map w64 := by
  induction l with
  | nil => rfl
  | cons a l ih => simp only [List.map_cons, AV.unt.unt.l, ih]; rfl
theorem fresh_w (l : List Int) : AV.fresh.fresh.l (l.map w64) = true := by
  induction l with
  | nil => rfl
  | cons a l ih => simp only [List.map_cons, AV.fresh.fresh.l, ih]; rfl
theorem o_idxR {t e : TypeId} {x i : Operand} {ti ei : TI} {fr : Bool} {n : Nat} {cells : List AV} {k : IntKind} {v : Int} (ho : o.op = .indexAddr t x i) (hT : C.T t = some ti) (hk : ti.k = .slice e) (hE : C.T e = some ei)
    (hx : σ.ev x = some (.row fr n cells)) (hi : σ.ev i = some (.val (.int k v))) (h0 : 0 ≤ v) (h1 : v < n) (h2 : v.toNat * ei.size < cells.length) (h : K (σ.put o.dst (.radd fr cells (v.toNat * ei.size)))) : opW C o σ K := by
  simp only [opW, ho]
  refine onO_of hx (onO_of hi ?_)
  simp only [onI]
  unfold idxW
  refine onO_of hT ?_
  rw [hk]
  exact onO_of hE ⟨h0, h1, h2, h⟩
theorem o_idxO {t e : TypeId} {x i : Operand} {ti ei : TI} {d : Nat} {r : ORow} {k : IntKind} {v : Int} (ho : o.op = .indexAddr t x i) (hT : C.T t = some ti) (hk : ti.k = .slice e) (hE : C.T e = some ei)
    (hx : σ.ev x = some (.own d)) (hr : look d σ.rows = some (some r)) (hi : σ.ev i = some (.val (.int k v))) (h0 : 0 ≤ v) (h1 : v < r.n) (h2 : r.sz = ei.size) (h : K (σ.put o.dst (.addr d (v.toNat * ei.size)))) : opW C o σ K := by
  simp only [opW, ho]
  refine onO_of hx (onO_of hi ?_)
  simp only [onI]
  unfold idxW
  refine onO_of hT ?_
  rw [hk]
  refine onO_of hE ?_
  simp only [hr]
  exact ⟨h0, h1, h2, h⟩
theorem o_ldR {t : TypeId} {p : Operand} {ti : TI} {fr : Bool} {cells : List AV} {off : Nat} {av : AV} (ho : o.op = .load t p) (hT : C.T t = some ti) (hk : ti.k.isAgg = false) (hp : σ.ev p = some (.radd fr cells off)) (hc : cells[off]? = some av) (h : K (σ.put o.dst av)) : opW C o σ K := by
  simp only [opW, ho]
  refine onO_of hp ?_
  simp only [ldW]
  unfold loadW
  refine onO_of hT ?_
  rw [hk]
  exact onO_of hc h
theorem o_ldO {t : TypeId} {p : Operand} {ti : TI} {d off : Nat} {r : ORow} {av : AV} (ho : o.op = .load t p) (hT : C.T t = some ti) (hk : ti.k.isAgg = false) (hp : σ.ev p = some (.addr d off)) (hr : look d σ.rows = some (some r)) (hc : r.cells[off]? = some av) (h : K (σ.put o.dst av)) : opW C o σ K := by
  simp only [opW, ho]
  refine onO_of hp ?_
  simp only [ldW, hr]
  unfold loadW
  refine onO_of hT ?_
  rw [hk]
  exact onO_of hc h
theorem o_stO {t : TypeId} {p x : Operand} {ti : TI} {d off : Nat} {r : ORow} {v : Value} (ho : o.op = .store t p x) (hT : C.T t = some ti) (hk : ti.size = 1) (hp : σ.ev p = some (.addr d off)) (hx : σ.ev x = some (.val v)) (h1 : v.oneCell' = true) (hr : look d σ.rows = some (some r)) (hc : off < r.cells.length)
    (h : K ((σ.setRow d (some { r with cells := r.cells.set off (.val v) })).put o.dst (.val undef))) : opW C o σ K := by
  simp only [opW, ho]
  refine onO_of hp (onO_of hx ?_)
  unfold stW frzW
  simp only
  have hce : cellsOf (.val v) = some [.val v] := by simp [cellsOf, AV.one, h1]
  refine onO_of hce (onO_of hT ⟨by rw [hk]; rfl, ?_⟩)
  simp only [hr]
  exact ⟨hc, h⟩
end
end Go.Rk

namespace Go.Rk
open Go.RowKit
section
variable {C : Ctx} {R : List (Nat × Rx)} {σ τ : St} {Q : AEx → St → Prop} {c : Code}
def subL {α : Type} (m : List (Nat × α)) : List (Nat × α) → Prop
  | [] => True
  | p :: l => look p.1 m = some p.2 ∧ subL m l
theorem subL_s {α : Type} {m : List (Nat × α)} : ∀ {l : List (Nat × α)}, subL m l → ∀ p ∈ l, look p.1 m = some p.2
  | [], _, p, hp => by cases hp
  | q :: l, h, p, hp => by
    rcases List.mem_cons.1 hp with rfl | hp
    · exact h.1
    · exact subL_s h.2 p hp
theorem incl_of (hs : subL σ.slots τ.slots) (hb : subL σ.boxes τ.boxes) (hr : subL σ.rows τ.rows) (hg : τ.gl = σ.gl) (hnb : Nat.ble σ.nb τ.nb = true) (hnr : Nat.ble σ.nr τ.nr = true) : Incl σ τ :=
  Incl.sub ⟨subL_s hs, subL_s hb, subL_s hr, hg, Nat.le_of_ble_eq_true hnb, Nat.le_of_ble_eq_true hnr⟩
def invQ {α : Type} (I : α → St) (μ : α → Nat) (m : Nat) (Q : AEx → St → Prop) (e : AEx) (σ' : St) : Prop := match e with
  | .normal => ∃ x', Incl σ' (I x') ∧ μ x' < m
  | e => Q e σ'
theorem q_inv {α : Type} (I : α → St) (μ : α → Nat) (x0 : α) (h0 : Incl σ (I x0)) (h : ∀ x, codeW C R c (I x) (invQ I μ (μ x) Q)) : codeW C R (.loop c) σ Q :=
  ⟨α, I, μ, x0, h0, fun x => codeW_mono c (h x) fun e σ' h' => by cases e <;> exact h'⟩
theorem w_gYo {all : Array Oper} {o : Oper} {l : List Oper} {K : St → Prop} {d : Nat} {u t : Bool} (hg : gslot all o = some (d, u)) (hl : look d σ.slots = some (.val (.bool t))) (ht : t = u) (h1 : opW C o (σ.put (some d) (.val (.bool u))) (opsK C all l K)) : opsW C all (o :: l) σ K := by
  subst ht; exact w_gY hg hl h1
theorem w_gNo {all : Array Oper} {o : Oper} {l : List Oper} {K : St → Prop} {d : Nat} {u t : Bool} (hg : gslot all o = some (d, u)) (hl : look d σ.slots = some (.val (.bool t))) (ht : t = !u) (h1 : opsK C all l K ((σ.put (some d) (.val (.bool (!u)))).put o.dst (.val undef))) : opsW C all (o :: l) σ K := by
  subst ht; exact w_gN hg hl h1
theorem i_n {α : Type} {I : α → St} {μ : α → Nat} {m : Nat} (x' : α) (h : Incl σ (I x')) (hm : μ x' < m) : invQ I μ m Q .normal σ := ⟨x', h, hm⟩
theorem i_r {α : Type} {I : α → St} {μ : α → Nat} {m : Nat} (h : Q .ret σ) : invQ I μ m Q .ret σ := h
theorem i_e {α : Type} {I : α → St} {μ : α → Nat} {m j : Nat} (h : Q (.exit j) σ) : invQ I μ m Q (.exit j) σ := h
end
end Go.Rk

set_option maxRecDepth 100000
namespace Go.Rk
open Go.RowKit Go.Proofs
def dec (k : Int) (b : Bool) (n : Nat) (cs : List AV) (e : Int) : List AV := [.val (.int .i64 k), .val (.bool b), .row false n cs, .val (.int .i64 e)]
theorem closed_unt : ∀ av : AV, av.unt.closed = av.closed := by
  intro av
  have h : ∀ n : Nat, ∀ av : AV, SizeOf.sizeOf av ≤ n → av.unt.closed = av.closed := by
    intro n
    induction n with
    | zero => intro av hav; cases av <;> simp at hav
    | succ n ih =>
      intro av hav
      have hl : ∀ l : List AV, SizeOf.sizeOf l ≤ n → AV.closed.closed.l (AV.unt.unt.l l) = AV.closed.closed.l l := by
        intro l
        induction l with
        | nil => intro _; rfl
        | cons a l ih' =>
          intro hl
          simp only [List.cons.sizeOf_spec] at hl
          simp only [AV.unt.unt.l, AV.closed.closed.l, ih a (by omega), ih' (by omega)]
      cases av <;> simp only [AV.unt, AV.closed] <;> (try rfl) <;> (refine hl _ ?_) <;> simp at hav <;> omega
  exact h _ av (Nat.le_refl _)
theorem closed_unt_l (l : List AV) : AV.closed.closed.l (AV.unt.unt.l l) = AV.closed.closed.l l := by
  induction l with
  | nil => rfl
  | cons a l ih => simp only [AV.unt.unt.l, AV.closed.closed.l, closed_unt, ih]
attribute [local irreducible] codeW opsW opW oneW loopN seqQ blkQ lpQ opsK retW
theorem c_none (k : Int) (b : Bool) (n : Nat) (cs : List AV) (e : Int) : ACalls Cz 37 [.agg (dec k b n cs e)] (.val (.bool (k == 0 && !b && e == 0 && (n : Int) == 0))) := by
  refine ACalls.fn Cz_ok Cz_mixed Tryd.func37 fit37 rfl rfl ?_
  repeat'
    first
      | refine q_seq ?_
      | refine q_reg ?_
      | refine w_op rfl ?_
      | refine k_go ?_
      | refine w_nil ?_
      | refine s_n ?_
      | (apply u_op; (conv => lhs; whnf))
      | refine q_condT rfl ?_
      | refine q_condF rfl ?_
      | (refine w_gY rfl rfl ?_; apply u_op; (conv => lhs; whnf); exact rfl)
      | refine w_gN rfl rfl ?_
      | refine q_block ?_
      | refine q_skip ?_
      | refine q_ret ?_
      | refine q_exit ?_
      | refine s_r ?_
      | refine s_e ?_
      | refine b_n ?_
      | refine b_r ?_
      | refine b_e ?_
      | refine b_o rfl ?_
      | refine q_round ?_
      | refine l_n ?_
      | refine l_r ?_
      | refine l_e ?_
      | refine q_dr rfl ?_
      | refine r_out rfl rfl (Or.inl ?_)
      | refine q_condS rfl (fun h => ?_) (fun h => ?_)
      | (refine w_gS rfl rfl (fun h => ?_) (fun h => ?_))
  all_goals simp only [oneRes, AV.val.injEq, Value.bool.injEq]
  all_goals (generalize (k == 0) = q1 at *; generalize (e == 0) = q2 at *; generalize ((n : Int) == 0) = q3 at *; cases q1 <;> cases b <;> cases q2 <;> cases q3 <;> first | rfl | contradiction | (exfalso; simp at *))
/-- One Dec with too many words. -/
theorem c_sizes1 (k : Int) (b : Bool) (n : Nat) (cs : List AV) (e : Int) (hn : 4096 < n) : ACalls Cz 40 [.row false 1 (dec k b n cs e)] (.val (.int .i64 2)) := by
  refine ACalls.fn Cz_ok Cz_mixed Tryd.func40 fit40 rfl rfl ?_
  repeat'
    first
      | refine q_seq ?_
      | refine q_reg ?_
      | refine w_op rfl ?_
      | refine k_go ?_
      | refine w_nil ?_
      | refine s_n ?_
      | refine q_loop 1 ?_
      | refine q_condTo rfl (decide_eq_true (by omega)) ?_
      | refine q_condFo rfl (decide_eq_false (by omega)) ?_
      | (apply u_op; (conv => lhs; whnf))
      | refine q_condT rfl ?_
      | refine q_condF rfl ?_
      | (refine w_gY rfl rfl ?_; apply u_op; (conv => lhs; whnf); exact rfl)
      | refine w_gN rfl rfl ?_
      | refine q_block ?_
      | refine q_skip ?_
      | refine q_ret ?_
      | refine q_exit ?_
      | refine s_r ?_
      | refine s_e ?_
      | refine b_n ?_
      | refine b_r ?_
      | refine b_e ?_
      | refine b_o rfl ?_
      | refine q_round ?_
      | refine l_n ?_
      | refine l_r ?_
      | refine l_e ?_
      | refine q_dr rfl ?_
      | refine r_out rfl rfl (Or.inl ?_)
  all_goals rfl
theorem c_sizes2 (k : Int) (b : Bool) (n : Nat) (cs : List AV) (e : Int) (k' : Int) (b' : Bool) (n' : Nat) (cs' : List AV) (e' : Int) (hn : n ≤ 40) (hn' : 4096 < n') : ACalls Cz 40 [.row false 2 (dec k b n cs e ++ dec k' b' n' cs' e')] (.val (.int .i64 2)) := by
  refine ACalls.fn Cz_ok Cz_mixed Tryd.func40 fit40 rfl rfl ?_
  repeat'
    first
      | refine q_seq ?_
      | refine q_reg ?_
      | refine w_op rfl ?_
      | refine k_go ?_
      | refine w_nil ?_
      | refine s_n ?_
      | refine q_loop 2 ?_
      | refine q_condTo rfl (decide_eq_true (by omega)) ?_
      | refine q_condFo rfl (decide_eq_false (by omega)) ?_
      | (apply u_op; (conv => lhs; whnf))
      | refine q_condT rfl ?_
      | refine q_condF rfl ?_
      | (refine w_gY rfl rfl ?_; apply u_op; (conv => lhs; whnf); exact rfl)
      | refine w_gN rfl rfl ?_
      | refine q_block ?_
      | refine q_skip ?_
      | refine q_ret ?_
      | refine q_exit ?_
      | refine s_r ?_
      | refine s_e ?_
      | refine b_n ?_
      | refine b_r ?_
      | refine b_e ?_
      | refine b_o rfl ?_
      | refine q_round ?_
      | refine l_n ?_
      | refine l_r ?_
      | refine l_e ?_
      | refine q_dr rfl ?_
      | refine r_out rfl rfl (Or.inl ?_)
  all_goals rfl
theorem c_sizes3 (k : Int) (b : Bool) (n : Nat) (cs : List AV) (e : Int) (k' : Int) (b' : Bool) (n' : Nat) (cs' : List AV) (e' : Int) (hn : 4096 < n) : ACalls Cz 40 [.row false 2 (dec k b n cs e ++ dec k' b' n' cs' e')] (.val (.int .i64 2)) := by
  refine ACalls.fn Cz_ok Cz_mixed Tryd.func40 fit40 rfl rfl ?_
  repeat'
    first
      | refine q_seq ?_
      | refine q_reg ?_
      | refine w_op rfl ?_
      | refine k_go ?_
      | refine w_nil ?_
      | refine s_n ?_
      | refine q_loop 1 ?_
      | refine q_condTo rfl (decide_eq_true (by omega)) ?_
      | refine q_condFo rfl (decide_eq_false (by omega)) ?_
      | (apply u_op; (conv => lhs; whnf))
      | refine q_condT rfl ?_
      | refine q_condF rfl ?_
      | (refine w_gY rfl rfl ?_; apply u_op; (conv => lhs; whnf); exact rfl)
      | refine w_gN rfl rfl ?_
      | refine q_block ?_
      | refine q_skip ?_
      | refine q_ret ?_
      | refine q_exit ?_
      | refine s_r ?_
      | refine s_e ?_
      | refine b_n ?_
      | refine b_r ?_
      | refine b_e ?_
      | refine b_o rfl ?_
      | refine q_round ?_
      | refine l_n ?_
      | refine l_r ?_
      | refine l_e ?_
      | refine q_dr rfl ?_
      | refine r_out rfl rfl (Or.inl ?_)
  all_goals rfl
theorem c_short2 (k : Int) (b : Bool) (n : Nat) (cs : List AV) (e : Int) (k' : Int) (b' : Bool) (n' : Nat) (cs' : List AV) (e' : Int) : ACalls Cz 4 [.row false 2 (dec k b n cs e ++ dec k' b' n' cs' e')] (.val (.bool (decide (n ≤ 40 ∧ n' ≤ 40)))) := by
  refine ACalls.fn Cz_ok Cz_mixed Tryd.func4 fit4 rfl rfl ?_
  repeat'
    first
      | refine q_seq ?_
      | refine q_reg ?_
      | refine w_op rfl ?_
      | refine k_go ?_
      | refine w_nil ?_
      | refine s_n ?_
      | refine q_loop 3 ?_
      | (apply u_op; (conv => lhs; whnf))
      | refine q_condT rfl ?_
      | refine q_condF rfl ?_
      | (refine w_gY rfl rfl ?_; apply u_op; (conv => lhs; whnf); exact rfl)
      | refine w_gN rfl rfl ?_
      | refine q_block ?_
      | refine q_skip ?_
      | refine q_ret ?_
      | refine q_exit ?_
      | refine s_r ?_
      | refine s_e ?_
      | refine b_n ?_
      | refine b_r ?_
      | refine b_e ?_
      | refine b_o rfl ?_
      | refine q_round ?_
      | refine l_n ?_
      | refine l_r ?_
      | refine l_e ?_
      | refine q_dr rfl ?_
      | refine r_out rfl rfl (Or.inl ?_)
      | refine q_condS rfl (fun h => ?_) (fun h => ?_)
      | (refine w_gS rfl rfl (fun h => ?_) (fun h => ?_))
  all_goals simp only [oneRes, AV.val.injEq, Value.bool.injEq]
  all_goals first
    | exact (decide_eq_true (by simp_all; omega)).symm
    | exact (decide_eq_false (by simp_all; omega)).symm
end Go.Rk

set_option linter.unusedSimpArgs false
namespace Go.Rk
open Go.RowKit Go.Proofs
attribute [local irreducible] codeW opsW opW oneW loopN seqQ blkQ lpQ opsK retW
def cxv (p q r : Int) : AV := .agg [.val (.int .i64 p), .val (.int .i64 q), .val (.int .i64 r)]
def e2 : AV := .tup [.val (.slice none 0 0), .val (.int .i64 2)]
def d0 : AV := .agg [.val (.int .i64 0), .val (.bool false), .val (.slice none 0 0), .val (.int .i64 0)]
def d02 : AV := .tup [d0, .val (.int .i64 0), .val (.int .i64 2)]
theorem c_args (p q r : Int) (out : Bool) (m : Nat) (cells : List AV) (hc : AV.closed.closed.l cells = true) (hs : ACalls Cz 40 [.row false m (AV.unt.unt.l cells)] (.val (.int .i64 2))) :
    ACalls Cz 15 [cxv p q r, .val (.bool out), .row false m cells] e2 := by
  refine ACalls.fn Cz_ok Cz_mixed Tryd.func15 fit15 rfl rfl ?_
  repeat'
    first
      | refine q_seq ?_
      | refine q_reg ?_
      | refine w_op rfl ?_
      | refine k_go ?_
      | refine w_nil ?_
      | refine s_n ?_
      | (refine callB_s rfl (clo_cons hc clo_nil) rfl hs rfl ?_)
      | (apply u_op; (conv => lhs; whnf))
      | refine q_condT rfl ?_
      | refine q_condF rfl ?_
      | (refine w_gY rfl rfl ?_; apply u_op; (conv => lhs; whnf); exact rfl)
      | refine w_gN rfl rfl ?_
      | refine q_block ?_
      | refine q_skip ?_
      | refine q_ret ?_
      | refine q_exit ?_
      | refine s_r ?_
      | refine s_e ?_
      | refine b_n ?_
      | refine b_r ?_
      | refine b_e ?_
      | refine b_o rfl ?_
      | refine q_round ?_
      | refine l_n ?_
      | refine l_r ?_
      | refine l_e ?_
      | refine q_dr rfl ?_
      | refine r_out rfl rfl (Or.inl ?_)
      | refine q_condS rfl (fun h => ?_) (fun h => ?_)
      | (refine w_gS rfl rfl (fun h => ?_) (fun h => ?_))
  all_goals rfl
theorem c_div (p q r : Int) (k : Int) (b : Bool) (n : Nat) (cs : List AV) (e : Int) (k' : Int) (b' : Bool) (n' : Nat) (cs' : List AV) (e' : Int) (hcs : AV.closed.closed.l cs = true) (hcs' : AV.closed.closed.l cs' = true) (hn : n ≤ 40) (hn' : 4096 < n') : ACalls Cz 7 [cxv p q r, .agg (dec k b n cs e), .agg (dec k' b' n' cs' e')] d02 := by
  refine ACalls.fn Cz_ok Cz_mixed Tryd.func7 fit7 rfl rfl ?_
  repeat'
    first
      | refine q_seq ?_
      | refine q_reg ?_
      | refine w_op rfl ?_
      | refine k_go ?_
      | refine w_nil ?_
      | refine s_n ?_
      | (refine callB_s rfl (by simp [clo, AV.closed, AV.closed.closed.l, AV.unt.unt.l, AV.unt, closed_unt_l, dec, cxv, hcs, hcs']) rfl (c_args p q r _ _ _ (by simp [AV.closed, AV.closed.closed.l, AV.unt.unt.l, AV.unt, closed_unt_l, dec, hcs, hcs']) (c_sizes2 _ _ _ _ _ _ _ _ _ _ hn hn')) rfl ?_)
      | (apply u_op; (conv => lhs; whnf))
      | refine q_condT rfl ?_
      | refine q_condF rfl ?_
      | (refine w_gY rfl rfl ?_; apply u_op; (conv => lhs; whnf); exact rfl)
      | refine w_gN rfl rfl ?_
      | refine q_block ?_
      | refine q_skip ?_
      | refine q_ret ?_
      | refine q_exit ?_
      | refine s_r ?_
      | refine s_e ?_
      | refine b_n ?_
      | refine b_r ?_
      | refine b_e ?_
      | refine b_o rfl ?_
      | refine q_round ?_
      | refine l_n ?_
      | refine l_r ?_
      | refine l_e ?_
      | refine q_dr rfl ?_
      | refine r_out rfl rfl (Or.inl ?_)
      | refine q_condS rfl (fun h => ?_) (fun h => ?_)
      | (refine w_gS rfl rfl (fun h => ?_) (fun h => ?_))
  all_goals rfl
theorem c_rem (p q r : Int) (k : Int) (b : Bool) (n : Nat) (cs : List AV) (e : Int) (k' : Int) (b' : Bool) (n' : Nat) (cs' : List AV) (e' : Int) (hcs : AV.closed.closed.l cs = true) (hcs' : AV.closed.closed.l cs' = true) (hn : n ≤ 40) (hn' : 4096 < n') : ACalls Cz 9 [cxv p q r, .agg (dec k b n cs e), .agg (dec k' b' n' cs' e')] d02 := by
  refine ACalls.fn Cz_ok Cz_mixed Tryd.func9 fit9 rfl rfl ?_
  repeat'
    first
      | refine q_seq ?_
      | refine q_reg ?_
      | refine w_op rfl ?_
      | refine k_go ?_
      | refine w_nil ?_
      | refine s_n ?_
      | (refine callB_s rfl (by simp [clo, AV.closed, AV.closed.closed.l, AV.unt.unt.l, AV.unt, closed_unt_l, dec, cxv, hcs, hcs']) rfl (c_args p q r _ _ _ (by simp [AV.closed, AV.closed.closed.l, AV.unt.unt.l, AV.unt, closed_unt_l, dec, hcs, hcs']) (c_sizes2 _ _ _ _ _ _ _ _ _ _ hn hn')) rfl ?_)
      | (apply u_op; (conv => lhs; whnf))
      | refine q_condT rfl ?_
      | refine q_condF rfl ?_
      | (refine w_gY rfl rfl ?_; apply u_op; (conv => lhs; whnf); exact rfl)
      | refine w_gN rfl rfl ?_
      | refine q_block ?_
      | refine q_skip ?_
      | refine q_ret ?_
      | refine q_exit ?_
      | refine s_r ?_
      | refine s_e ?_
      | refine b_n ?_
      | refine b_r ?_
      | refine b_e ?_
      | refine b_o rfl ?_
      | refine q_round ?_
      | refine l_n ?_
      | refine l_r ?_
      | refine l_e ?_
      | refine q_dr rfl ?_
      | refine r_out rfl rfl (Or.inl ?_)
      | refine q_condS rfl (fun h => ?_) (fun h => ?_)
      | (refine w_gS rfl rfl (fun h => ?_) (fun h => ?_))
  all_goals rfl
theorem c_whole (p q r : Int) (k : Int) (b : Bool) (n : Nat) (cs : List AV) (e : Int) (k' : Int) (b' : Bool) (n' : Nat) (cs' : List AV) (e' : Int) (hcs : AV.closed.closed.l cs = true) (hcs' : AV.closed.closed.l cs' = true) (hn : 4096 < n) : ACalls Cz 8 [cxv p q r, .agg (dec k b n cs e), .agg (dec k' b' n' cs' e')] d02 := by
  refine ACalls.fn Cz_ok Cz_mixed Tryd.func8 fit8 rfl rfl ?_
  repeat'
    first
      | refine q_seq ?_
      | refine q_reg ?_
      | refine w_op rfl ?_
      | refine k_go ?_
      | refine w_nil ?_
      | refine s_n ?_
      | (refine callB_s rfl (by simp [clo, AV.closed, AV.closed.closed.l, AV.unt.unt.l, AV.unt, closed_unt_l, dec, cxv, hcs, hcs']) rfl (c_args p q r _ _ _ (by simp [AV.closed, AV.closed.closed.l, AV.unt.unt.l, AV.unt, closed_unt_l, dec, hcs, hcs']) (c_sizes3 _ _ _ _ _ _ _ _ _ _ hn)) rfl ?_)
      | (apply u_op; (conv => lhs; whnf))
      | refine q_condT rfl ?_
      | refine q_condF rfl ?_
      | (refine w_gY rfl rfl ?_; apply u_op; (conv => lhs; whnf); exact rfl)
      | refine w_gN rfl rfl ?_
      | refine q_block ?_
      | refine q_skip ?_
      | refine q_ret ?_
      | refine q_exit ?_
      | refine s_r ?_
      | refine s_e ?_
      | refine b_n ?_
      | refine b_r ?_
      | refine b_e ?_
      | refine b_o rfl ?_
      | refine q_round ?_
      | refine l_n ?_
      | refine l_r ?_
      | refine l_e ?_
      | refine q_dr rfl ?_
      | refine r_out rfl rfl (Or.inl ?_)
      | refine q_condS rfl (fun h => ?_) (fun h => ?_)
      | (refine w_gS rfl rfl (fun h => ?_) (fun h => ?_))
  all_goals rfl
theorem c_sqrt (p q r : Int) (k : Int) (b : Bool) (n : Nat) (cs : List AV) (e : Int) (hcs : AV.closed.closed.l cs = true) (hn : 4096 < n) : ACalls Cz 10 [cxv p q r, .agg (dec k b n cs e)] d02 := by
  refine ACalls.fn Cz_ok Cz_mixed Tryd.func10 fit10 rfl rfl ?_
  repeat'
    first
      | refine q_seq ?_
      | refine q_reg ?_
      | refine w_op rfl ?_
      | refine k_go ?_
      | refine w_nil ?_
      | refine s_n ?_
      | (refine callB_s rfl (by simp [clo, AV.closed, AV.closed.closed.l, AV.unt.unt.l, AV.unt, closed_unt_l, dec, cxv, hcs]) rfl (c_args p q r _ _ _ (by simp [AV.closed, AV.closed.closed.l, AV.unt.unt.l, AV.unt, closed_unt_l, dec, hcs]) (c_sizes1 _ _ _ _ _ hn)) rfl ?_)
      | (apply u_op; (conv => lhs; whnf))
      | refine q_condT rfl ?_
      | refine q_condF rfl ?_
      | (refine w_gY rfl rfl ?_; apply u_op; (conv => lhs; whnf); exact rfl)
      | refine w_gN rfl rfl ?_
      | refine q_block ?_
      | refine q_skip ?_
      | refine q_ret ?_
      | refine q_exit ?_
      | refine s_r ?_
      | refine s_e ?_
      | refine b_n ?_
      | refine b_r ?_
      | refine b_e ?_
      | refine b_o rfl ?_
      | refine q_round ?_
      | refine l_n ?_
      | refine l_r ?_
      | refine l_e ?_
      | refine q_dr rfl ?_
      | refine r_out rfl rfl (Or.inl ?_)
      | refine q_condS rfl (fun h => ?_) (fun h => ?_)
      | (refine w_gS rfl rfl (fun h => ?_) (fun h => ?_))
  all_goals rfl
theorem c_power (p q r : Int) (k : Int) (b : Bool) (n : Nat) (cs : List AV) (e : Int) (hcs : AV.closed.closed.l cs = true) (hn : 4096 < n) : ACalls Cz 11 [cxv p q r, .agg (dec k b n cs e), .val (.int .i64 4611686018427387904)] d02 := by
  refine ACalls.fn Cz_ok Cz_mixed Tryd.func11 fit11 rfl rfl ?_
  repeat'
    first
      | refine q_seq ?_
      | refine q_reg ?_
      | refine w_op rfl ?_
      | refine k_go ?_
      | refine w_nil ?_
      | refine s_n ?_
      | (refine callB_s rfl (by simp [clo, AV.closed, AV.closed.closed.l, AV.unt.unt.l, AV.unt, closed_unt_l, dec, cxv, hcs]) rfl (c_args p q r _ _ _ (by simp [AV.closed, AV.closed.closed.l, AV.unt.unt.l, AV.unt, closed_unt_l, dec, hcs]) (c_sizes1 _ _ _ _ _ hn)) rfl ?_)
      | (apply u_op; (conv => lhs; whnf))
      | refine q_condT rfl ?_
      | refine q_condF rfl ?_
      | (refine w_gY rfl rfl ?_; apply u_op; (conv => lhs; whnf); exact rfl)
      | refine w_gN rfl rfl ?_
      | refine q_block ?_
      | refine q_skip ?_
      | refine q_ret ?_
      | refine q_exit ?_
      | refine s_r ?_
      | refine s_e ?_
      | refine b_n ?_
      | refine b_r ?_
      | refine b_e ?_
      | refine b_o rfl ?_
      | refine q_round ?_
      | refine l_n ?_
      | refine l_r ?_
      | refine l_e ?_
      | refine q_dr rfl ?_
      | refine r_out rfl rfl (Or.inl ?_)
      | refine q_condS rfl (fun h => ?_) (fun h => ?_)
      | (refine w_gS rfl rfl (fun h => ?_) (fun h => ?_))
  all_goals rfl
theorem c_next (p q r : Int) (k : Int) (b : Bool) (n : Nat) (cs : List AV) (e : Int) (hcs : AV.closed.closed.l cs = true) (hn : 4096 < n) : ACalls Cz 12 [cxv p q r, .agg (dec k b n cs e), .val (.bool true)] (.tup [d0, .val (.int .i64 2)]) := by
  refine ACalls.fn Cz_ok Cz_mixed Tryd.func12 fit12 rfl rfl ?_
  repeat'
    first
      | refine q_seq ?_
      | refine q_reg ?_
      | refine w_op rfl ?_
      | refine k_go ?_
      | refine w_nil ?_
      | refine s_n ?_
      | (refine callB_s rfl (by simp [clo, AV.closed, AV.closed.closed.l, AV.unt.unt.l, AV.unt, closed_unt_l, dec, cxv, hcs]) rfl (c_args p q r _ _ _ (by simp [AV.closed, AV.closed.closed.l, AV.unt.unt.l, AV.unt, closed_unt_l, dec, hcs]) (c_sizes1 _ _ _ _ _ hn)) rfl ?_)
      | (apply u_op; (conv => lhs; whnf))
      | refine q_condT rfl ?_
      | refine q_condF rfl ?_
      | (refine w_gY rfl rfl ?_; apply u_op; (conv => lhs; whnf); exact rfl)
      | refine w_gN rfl rfl ?_
      | refine q_block ?_
      | refine q_skip ?_
      | refine q_ret ?_
      | refine q_exit ?_
      | refine s_r ?_
      | refine s_e ?_
      | refine b_n ?_
      | refine b_r ?_
      | refine b_e ?_
      | refine b_o rfl ?_
      | refine q_round ?_
      | refine l_n ?_
      | refine l_r ?_
      | refine l_e ?_
      | refine q_dr rfl ?_
      | refine r_out rfl rfl (Or.inl ?_)
      | refine q_condS rfl (fun h => ?_) (fun h => ?_)
      | (refine w_gS rfl rfl (fun h => ?_) (fun h => ?_))
  all_goals rfl
theorem c_scale (p q r : Int) (k : Int) (b : Bool) (n : Nat) (cs : List AV) (e : Int) (hcs : AV.closed.closed.l cs = true) (hn : 4096 < n) : ACalls Cz 13 [cxv p q r, .agg (dec k b n cs e), .val (.int .i64 4611686018427387904)] d02 := by
  refine ACalls.fn Cz_ok Cz_mixed Tryd.func13 fit13 rfl rfl ?_
  repeat'
    first
      | refine q_seq ?_
      | refine q_reg ?_
      | refine w_op rfl ?_
      | refine k_go ?_
      | refine w_nil ?_
      | refine s_n ?_
      | (refine callB_s rfl (by simp [clo, AV.closed, AV.closed.closed.l, AV.unt.unt.l, AV.unt, closed_unt_l, dec, cxv, hcs]) rfl (c_args p q r _ _ _ (by simp [AV.closed, AV.closed.closed.l, AV.unt.unt.l, AV.unt, closed_unt_l, dec, hcs]) (c_sizes1 _ _ _ _ _ hn)) rfl ?_)
      | (apply u_op; (conv => lhs; whnf))
      | refine q_condT rfl ?_
      | refine q_condF rfl ?_
      | (refine w_gY rfl rfl ?_; apply u_op; (conv => lhs; whnf); exact rfl)
      | refine w_gN rfl rfl ?_
      | refine q_block ?_
      | refine q_skip ?_
      | refine q_ret ?_
      | refine q_exit ?_
      | refine s_r ?_
      | refine s_e ?_
      | refine b_n ?_
      | refine b_r ?_
      | refine b_e ?_
      | refine b_o rfl ?_
      | refine q_round ?_
      | refine l_n ?_
      | refine l_r ?_
      | refine l_e ?_
      | refine q_dr rfl ?_
      | refine r_out rfl rfl (Or.inl ?_)
      | refine q_condS rfl (fun h => ?_) (fun h => ?_)
      | (refine w_gS rfl rfl (fun h => ?_) (fun h => ?_))
  all_goals rfl
end Go.Rk

namespace Go.Rk
open Go.RowKit Go.Proofs
attribute [local irreducible] codeW opsW opW oneW loopN seqQ blkQ lpQ opsK retW invQ
def lw (l : List Int) (i : Nat) : List AV := (l.take i).map w64 ++ List.replicate (4097 - i) (w64 0)
def lst (k : Int) (b : Bool) (l : List Int) (e : Int) (i : Nat) : St :=
  ⟨[(4, .val (.int .i64 i)), (3, .own 1), (1, .ptr 0 0), (2, .ptr 2 0)], [(2, ⟨29, [.val (.int .i64 0), .val (.bool false), .val (.slice none 0 0), .val (.int .i64 0)]⟩), (0, ⟨29, dec k b l.length (l.map w64) e⟩)], [(1, some ⟨46, 1, 4097, lw l i⟩)], 2, 1, gTab⟩
theorem lw_len (l : List Int) (i : Nat) (h : i ≤ l.length) (hl : l.length ≤ 40) : (lw l i).length = 4097 := by
  simp [lw]; omega
theorem lw_set (l : List Int) (i : Nat) (h : i < l.length) (hl : l.length ≤ 40) : (lw l i).set i (w64 l[i]) = lw l (i + 1) := by
  have h1 : ((l.take i).map w64).length = i := by simp; omega
  have h3 : l.take (i + 1) = l.take i ++ [l[i]] := by rw [List.take_add_one, List.getElem?_eq_getElem h]; rfl
  have h2 : 4097 - i = (4097 - (i + 1)) + 1 := by omega
  unfold lw
  rw [List.set_append_right (h := by omega), h1, Nat.sub_self, h2, List.replicate_succ, List.set_cons_zero, h3, List.map_append, List.append_assoc]
  rfl
theorem closed_lw (l : List Int) (i : Nat) : AV.closed.closed.l (lw l i) = true := by
  have h : lw l i = (l.take i ++ List.replicate (4097 - i) 0).map w64 := by simp [lw]
  rw [h, closed_w]
theorem unt_lw (l : List Int) (i : Nat) : AV.unt.unt.l (lw l i) = lw l i := by
  have h : lw l i = (l.take i ++ List.replicate (4097 - i) 0).map w64 := by simp [lw]
  rw [h, unt_w]
theorem c_long (k : Int) (b : Bool) (l : List Int) (e : Int) (hl : l.length ≤ 40) : ACalls Cz 6 [.agg (dec k b l.length (l.map w64) e)] (.agg [.val (.int .i64 k), .val (.bool b), .row true 4097 (lw l l.length), .val (.int .i64 e)]) := by
  refine ACalls.fn Cz_ok Cz_mixed Tryd.func6 fit6 rfl rfl ?_
  repeat'
    first
      | refine q_seq ?_
      | refine q_reg ?_
      | refine w_op rfl ?_
      | refine k_go ?_
      | refine w_nil ?_
      | refine s_n ?_
      | refine w_gY rfl rfl ?_
      | refine w_gN rfl rfl ?_
      | (apply u_op; (conv => lhs; whnf))
      | refine q_condT rfl ?_
      | refine q_condF rfl ?_
      | refine q_block ?_
      | refine q_skip ?_
      | refine q_ret ?_
      | refine q_exit ?_
      | refine s_r ?_
      | refine s_e ?_
      | refine b_n ?_
      | refine b_r ?_
      | refine b_e ?_
      | refine b_o rfl ?_
      | refine q_round ?_
      | refine l_n ?_
      | refine l_r ?_
      | refine l_e ?_
      | refine i_r ?_
      | refine i_e ?_
      | refine q_dr rfl ?_
      | refine r_out rfl rfl (Or.inl ?_)
  refine q_inv (α := { i : Nat // i ≤ l.length }) (fun i => lst k b l e i.1) (fun i => l.length - i.1) ⟨0, Nat.zero_le _⟩ ?_ ?_
  · refine incl_of ⟨rfl, rfl, rfl, rfl, trivial⟩ ⟨rfl, rfl, trivial⟩ ⟨rfl, trivial⟩ rfl rfl rfl
  · rintro ⟨i, hi⟩
    have hlen := lw_len l i hi hl
    show codeW _ _ _ (lst k b l e i) (invQ _ _ (l.length - i) _)
    by_cases hlt : i < l.length
    · have d1 : decide ((i : Int) < (l.length : Int)) = true := decide_eq_true (by omega)
      have d2 : decide ((i : Int) < 40) = true := decide_eq_true (by omega)
      have e5 : (i : Int) < (l.length : Int) := by omega
      have e6 : (i : Int).toNat * 1 < (l.map w64).length := by simpa using hlt
      have e1 : ((i : Int).toNat * 1) = i := by simp
      have e2 : (l.map w64)[(i : Int).toNat * 1]? = some (w64 l[i]) := by rw [e1]; simp [hlt]
      have e3 : (i : Int) < (((ORow.mk 46 1 4097 (lw l i)).n : Nat) : Int) := by simp only; omega
      have e4 : (i : Int).toNat * 1 < (ORow.mk 46 1 4097 (lw l i)).cells.length := by simp only; omega
      repeat'
        first
          | refine q_seq ?_
          | refine q_reg ?_
          | refine w_op rfl ?_
          | refine k_go ?_
          | refine w_nil ?_
          | refine s_n ?_
          | refine w_gY rfl rfl ?_
          | refine w_gN rfl rfl ?_
          | refine w_gYo rfl rfl d1 ?_
          | refine w_gYo rfl rfl d2 ?_
          | refine q_condTo rfl d2 ?_
          | refine o_idxR rfl rfl rfl rfl rfl rfl (Int.natCast_nonneg i) e5 e6 ?_
          | refine o_ldR rfl rfl rfl rfl e2 ?_
          | refine o_idxO (r := ⟨46, 1, 4097, lw l i⟩) rfl rfl rfl rfl rfl rfl rfl (Int.natCast_nonneg i) e3 rfl ?_
          | refine o_stO (r := ⟨46, 1, 4097, lw l i⟩) rfl rfl rfl rfl rfl rfl rfl e4 ?_
          | (apply u_op; (conv => lhs; whnf))
          | refine q_condT rfl ?_
          | refine q_condF rfl ?_
          | refine q_block ?_
          | refine q_skip ?_
          | refine q_ret ?_
          | refine q_exit ?_
          | refine s_r ?_
          | refine s_e ?_
          | refine b_n ?_
          | refine b_r ?_
          | refine b_e ?_
          | refine b_o rfl ?_
          | refine q_round ?_
          | refine l_n ?_
          | refine l_r ?_
          | refine l_e ?_
          | refine i_r ?_
          | refine i_e ?_
          | refine q_dr rfl ?_
          | refine r_out rfl rfl (Or.inl ?_)
      have hw : IntKind.i64.wrap ((i : Int) + 1) = ((i + 1 : Nat) : Int) := by
        simp only [IntKind.wrap, IntKind.bits, IntKind.signed]
        simp
        omega
      refine i_n ⟨i + 1, hlt⟩ (incl_of ⟨?_, rfl, rfl, rfl, trivial⟩ ⟨rfl, rfl, trivial⟩ ⟨?_, trivial⟩ rfl rfl rfl) (by show l.length - (i + 1) < l.length - i; omega)
      · show some (AV.val (.int .i64 (IntKind.i64.wrap ((i : Int) + 1)))) = some (AV.val (.int .i64 ((i + 1 : Nat) : Int)))
        rw [hw]
      · show some (some (ORow.mk 46 1 4097 ((lw l i).set ((i : Int).toNat * 1) (w64 l[i])))) = some (some (ORow.mk 46 1 4097 (lw l (i + 1))))
        rw [e1, lw_set l i hlt hl]
    · have hie : i = l.length := by omega
      subst hie
      have d1 : decide (((l.length : Nat) : Int) < (l.length : Int)) = false := decide_eq_false (by omega)
      repeat'
        first
          | refine q_seq ?_
          | refine q_reg ?_
          | refine w_op rfl ?_
          | refine k_go ?_
          | refine w_nil ?_
          | refine s_n ?_
          | refine w_gY rfl rfl ?_
          | refine w_gN rfl rfl ?_
          | refine w_gNo rfl rfl d1 ?_
          | refine q_condFo rfl d1 ?_
          | refine r_out' rfl rfl ?_ (Or.inl ?_)
          | (apply u_op; (conv => lhs; whnf))
          | refine q_condT rfl ?_
          | refine q_condF rfl ?_
          | refine q_block ?_
          | refine q_skip ?_
          | refine q_ret ?_
          | refine q_exit ?_
          | refine s_r ?_
          | refine s_e ?_
          | refine b_n ?_
          | refine b_r ?_
          | refine b_e ?_
          | refine b_o rfl ?_
          | refine q_round ?_
          | refine l_n ?_
          | refine l_r ?_
          | refine l_e ?_
          | refine i_r ?_
          | refine i_e ?_
          | refine q_dr rfl ?_
          | refine r_out rfl rfl (Or.inl ?_)
      · show AV.closed (.agg [.val (.int .i64 k), .val (.bool b), .row true 4097 (lw l l.length), .val (.int .i64 e)]) = true
        simp [AV.closed, AV.closed.closed.l, closed_lw]
      · rfl
end Go.Rk

namespace Go.Rk
open Go.RowKit Go.Proofs
theorem c_awake : ACalls Cz 5 [] (.val (.bool true)) := fnE_s Cz_ok Cz_mixed fTab_ok 2000 5 [] _ e_awake
theorem c_fits : ACalls Cz 14 [d0, .val (.int .i64 0), .val (.int .i64 2), d0, .val (.int .i64 0), .val (.int .i64 2)] (.val (.bool true)) := fnE_s Cz_ok Cz_mixed fTab_ok 100 14 _ _ (by kernel_rfl)
attribute [local irreducible] codeW opsW opW oneW loopN seqQ blkQ lpQ opsK retW invQ
set_option maxHeartbeats 4000000 in
theorem c_large (p q r : Int) (k : Int) (b : Bool) (lx : List Int) (e : Int) (k' : Int) (b' : Bool) (ly : List Int) (e' : Int) :
    ACalls Cz 3 [cxv p q r, .agg (dec k b lx.length (lx.map w64) e), .agg (dec k' b' ly.length (ly.map w64) e')] (.val (.bool true)) := by
  refine ACalls.fn Cz_ok Cz_mixed Tryd.func3 fit3 rfl rfl ?_
  by_cases h : lx.length ≤ 40 ∧ ly.length ≤ 40
  · have hc : (!decide (lx.length ≤ 40 ∧ ly.length ≤ 40)) = false := by simp [h]
    repeat'
      first
        | refine q_seq ?_
        | refine q_reg ?_
        | refine w_op rfl ?_
        | refine k_go ?_
        | refine w_nil ?_
        | (refine s_n ?_; (conv => arg 4; dsimp only [St.put, St.know, St.newBox, St.newRow, St.setBox, St.setRow, updC, List.set, List.drop, List.take, List.cons_append, List.nil_append]))
        | refine s_n ?_
        | refine w_gY rfl rfl ?_
        | refine w_gN rfl rfl ?_
        | (refine callB_s rfl (by simp [clo, AV.closed, AV.closed.closed.l, AV.unt.unt.l, AV.unt, closed_unt_l, closed_w, closed_lw, dec, cxv, d0, updC, List.set, List.take, List.drop]) rfl (c_short2 _ _ _ _ _ _ _ _ _ _) rfl ?_)
        | (refine callB_s rfl clo_nil rfl c_awake rfl ?_)
        | (refine callB_s rfl (by simp [clo, AV.closed, AV.closed.closed.l, AV.unt.unt.l, AV.unt, closed_unt_l, closed_w, closed_lw, dec, cxv, d0, updC, List.set, List.take, List.drop]) (by simp [AV.unt, AV.unt.unt.l, dec, unt_w]) (c_long k' b' ly e' h.2) rfl ?_)
        | (refine callB_s rfl (by simp [clo, AV.closed, AV.closed.closed.l, AV.unt.unt.l, AV.unt, closed_unt_l, closed_w, closed_lw, dec, cxv, d0, updC, List.set, List.take, List.drop]) rfl (c_div _ _ _ _ _ _ _ _ _ _ _ _ _ (by simp [closed_unt_l, closed_w, closed_lw]) (by simp [closed_unt_l, closed_w, closed_lw]) h.1 (by decide)) rfl ?_)
        | (refine callB_s rfl (by simp [clo, AV.closed, AV.closed.closed.l, AV.unt.unt.l, AV.unt, closed_unt_l, closed_w, closed_lw, dec, cxv, d0, updC, List.set, List.take, List.drop]) rfl (c_whole _ _ _ _ _ _ _ _ _ _ _ _ _ (by simp [closed_unt_l, closed_w, closed_lw]) (by simp [closed_unt_l, closed_w, closed_lw]) (by decide)) rfl ?_)
        | (refine callB_s rfl (by simp [clo, AV.closed, AV.closed.closed.l, AV.unt.unt.l, AV.unt, closed_unt_l, closed_w, closed_lw, dec, cxv, d0, updC, List.set, List.take, List.drop]) rfl (c_rem _ _ _ _ _ _ _ _ _ _ _ _ _ (by simp [closed_unt_l, closed_w, closed_lw]) (by simp [closed_unt_l, closed_w, closed_lw]) h.1 (by decide)) rfl ?_)
        | (refine callB_s rfl (by simp [clo, AV.closed, AV.closed.closed.l, AV.unt.unt.l, AV.unt, closed_unt_l, closed_w, closed_lw, dec, cxv, d0, updC, List.set, List.take, List.drop]) rfl (c_sqrt _ _ _ _ _ _ _ _ (by simp [closed_unt_l, closed_w, closed_lw]) (by decide)) rfl ?_)
        | (refine callB_s rfl (by simp [clo, AV.closed, AV.closed.closed.l, AV.unt.unt.l, AV.unt, closed_unt_l, closed_w, closed_lw, dec, cxv, d0, updC, List.set, List.take, List.drop]) rfl (c_power _ _ _ _ _ _ _ _ (by simp [closed_unt_l, closed_w, closed_lw]) (by decide)) rfl ?_)
        | (refine callB_s rfl (by simp [clo, AV.closed, AV.closed.closed.l, AV.unt.unt.l, AV.unt, closed_unt_l, closed_w, closed_lw, dec, cxv, d0, updC, List.set, List.take, List.drop]) rfl (c_next _ _ _ _ _ _ _ _ (by simp [closed_unt_l, closed_w, closed_lw]) (by decide)) rfl ?_)
        | (refine callB_s rfl (by simp [clo, AV.closed, AV.closed.closed.l, AV.unt.unt.l, AV.unt, closed_unt_l, closed_w, closed_lw, dec, cxv, d0, updC, List.set, List.take, List.drop]) rfl (c_scale _ _ _ _ _ _ _ _ (by simp [closed_unt_l, closed_w, closed_lw]) (by decide)) rfl ?_)
        | (refine callB_s rfl (clo_cons rfl (clo_cons rfl (clo_cons rfl (clo_cons rfl (clo_cons rfl (clo_cons rfl clo_nil)))))) rfl c_fits rfl ?_)
        | refine q_condTo rfl hc ?_
        | refine q_condFo rfl hc ?_
        | (apply u_op; (conv => lhs; whnf))
        | refine q_condT rfl ?_
        | refine q_condF rfl ?_
        | refine q_block ?_
        | refine q_skip ?_
        | refine q_ret ?_
        | refine q_exit ?_
        | refine s_r ?_
        | refine s_e ?_
        | refine b_n ?_
        | refine b_r ?_
        | refine b_e ?_
        | refine b_o rfl ?_
        | refine q_round ?_
        | refine l_n ?_
        | refine l_r ?_
        | refine l_e ?_
        | refine i_r ?_
        | refine i_e ?_
        | refine q_dr rfl ?_
        | refine r_out rfl rfl (Or.inl ?_)
    all_goals rfl
  · have hc : (!decide (lx.length ≤ 40 ∧ ly.length ≤ 40)) = true := by simp [h]
    repeat'
      first
        | refine q_seq ?_
        | refine q_reg ?_
        | refine w_op rfl ?_
        | refine k_go ?_
        | refine w_nil ?_
        | (refine s_n ?_; (conv => arg 4; dsimp only [St.put, St.know, St.newBox, St.newRow, St.setBox, St.setRow, updC, List.set, List.drop, List.take, List.cons_append, List.nil_append]))
        | refine s_n ?_
        | refine w_gY rfl rfl ?_
        | refine w_gN rfl rfl ?_
        | (refine callB_s rfl (by simp [clo, AV.closed, AV.closed.closed.l, AV.unt.unt.l, AV.unt, closed_unt_l, closed_w, closed_lw, dec, cxv, d0, updC, List.set, List.take, List.drop]) rfl (c_short2 _ _ _ _ _ _ _ _ _ _) rfl ?_)
        | (refine callB_s rfl clo_nil rfl c_awake rfl ?_)
        | refine q_condTo rfl hc ?_
        | refine q_condFo rfl hc ?_
        | (apply u_op; (conv => lhs; whnf))
        | refine q_condT rfl ?_
        | refine q_condF rfl ?_
        | refine q_block ?_
        | refine q_skip ?_
        | refine q_ret ?_
        | refine q_exit ?_
        | refine s_r ?_
        | refine s_e ?_
        | refine b_n ?_
        | refine b_r ?_
        | refine b_e ?_
        | refine b_o rfl ?_
        | refine q_round ?_
        | refine l_n ?_
        | refine l_r ?_
        | refine l_e ?_
        | refine i_r ?_
        | refine i_e ?_
        | refine q_dr rfl ?_
        | refine r_out rfl rfl (Or.inl ?_)
    all_goals rfl
end Go.Rk

namespace Go.Rk
open Go.RowKit Go.Proofs Go.Proofs.YtilkfpaelkekfaaDoor
/-- An array of numbers that reads as these numbers. -/
theorem ints_of_trod {H : Type} {enc : TypeId × Value → H} {P : Program} {w : World} {base : Nat} {spare : Nat → Bool} {held : Bool} {fuel : Nat} {t e : TypeId} {cs : List Value} {p : List MemPlace} {k : IntKind} (zs : List Int)
    (ht : P.underlying t = some (.array zs.length e)) (he : P.underlying e = some (.int k)) (hc : P.cellsOf e = 1) (hct : P.cellsOf t = zs.length)
    (h : DataW.trod enc P w base spare held fuel t cs = some (.agg (zs.map fun z => .lit (.int k z)), p)) : cs = zs.map (Value.int k) := by
  obtain ⟨xs, m, _, hx, hl, hxl, hel⟩ := DataW.trod_array ht h
  injection hx with hx1 _
  injection hx1 with hx1
  refine List.ext_getElem (by simp [hl, hct]) fun i h1 h2 => ?_
  have hi : i < zs.length := by simpa using h2
  have h3 := hel i hi
  rw [hc, Nat.mul_one] at h3
  have h4 : (cs.drop i).take 1 = [cs[i]] := by
    rw [List.drop_eq_getElem_cons h1]; rfl
  rw [h4] at h3
  have h5 : xs[i]? = some xs[i] := List.getElem?_eq_getElem (by omega)
  rw [h5] at h3
  obtain ⟨s, hs, hq, _⟩ := DataW.trod_int he h3
  have h6 : (xs[i]).1 = .lit (.int k zs[i]) := by
    have := congrArg (fun l => l[i]?) hx1
    simp only [List.getElem?_map, List.getElem?_eq_getElem hi, h5, Option.map_some, Option.some.injEq] at this
    exact this.symm
  rw [hq] at h6
  injection h6 with h6
  injection h6 with _ h6
  injection hs with hs
  rw [hs, List.getElem_map, h6]
def debs : List Int := [0,1,56,2,57,49,28,3,61,58,42,50,38,29,17,4,62,47,59,36,45,43,51,22,53,39,33,30,24,18,12,5,63,55,48,27,60,41,37,16,46,35,44,21,52,32,23,11,54,26,40,15,34,20,31,10,25,14,19,9,13,8,7,6]
theorem gDeb : Tryd.prog.globalNamed "math/bits.deBruijn64tab" = some 1 := by kernel_rfl
theorem gMore : Tryd.prog.globalNamed "reckoner/fin.more" = some 0 := by kernel_rfl
theorem tDeb : (Tryd.prog.globals[1]?).map (·.type) = some 111 := by kernel_rfl
theorem tMore : (Tryd.prog.globals[0]?).map (·.type) = some 109 := by kernel_rfl
theorem cells5 : Tryd.prog.cellsOf 5 = 1 := by kernel_rfl
theorem cells111 : Tryd.prog.cellsOf 111 = 64 := by kernel_rfl
theorem cells109 : Tryd.prog.cellsOf 109 = 5 := by kernel_rfl
theorem cells108 : Tryd.prog.cellsOf 108 = 1 := by kernel_rfl
theorem deb_of_laid {W : World} (h : laidMetH Tryd.prog Rows.decdivLargeRow.laid W) : ∀ j (hj : j < debru.length), W.cell? ⟨1, j, none⟩ = some debru[j] := by
  obtain ⟨h1, _⟩ : laidMet Tryd.prog [("math/bits.deBruijn64tab", Rows.laid_math_bits_deBruijn64tab)] W ∧ handlesMet Tryd.prog [("reckoner/fin.more", Rows.laid_reckoner_fin_more)] W := h
  obtain ⟨ps, ⟨g, t, cs, fuel, p, q, hg, ht, hvar, hd, _, _⟩, _⟩ := h1
  obtain rfl := Option.some.inj (gDeb.symm.trans hg)
  obtain rfl := Option.some.inj (tDeb.symm.trans ht)
  have hcs := ints_of_trod (k := .u8) debs Tryd.underlying111 Tryd.underlying5 cells5 cells111 hd
  intro j hj
  have hc := World.var?_cell hg hvar j
  have e : debru = cs.toList := by rw [hcs]; rfl
  have hj' : j < cs.size := by rw [← Array.length_toList, ← e]; exact hj
  have e2 : debru[j] = cs[j] := by simp only [e, Array.getElem_toList]
  rw [e2, ← Array.getElem?_eq_getElem hj']
  exact hc
theorem more_of_laid {W : World} (h : laidMetH Tryd.prog Rows.decdivLargeRow.laid W) : ∀ j (hj : j < mores.length), W.cell? ⟨0, j, none⟩ = some mores[j] := by
  obtain ⟨g, t, cs, fuel, p, hg, ht, hvar, hd⟩ := h.funcs (n := "reckoner/fin.more") (List.mem_cons_of_mem _ (List.mem_singleton.2 rfl))
  obtain rfl := Option.some.inj (gMore.symm.trans hg)
  obtain rfl := Option.some.inj (tMore.symm.trans ht)
  obtain ⟨xs, m, _, hx, hl, hxl, hel⟩ := DataW.trod_array Tryd.underlying109 hd
  injection hx with hx1 _
  have hx2 : xs.map (·.1) = [.held [114, 101, 99, 107, 111, 110, 101, 114, 47, 102, 105, 110, 46, 109, 111, 114, 101, 36, 49], .held [114, 101, 99, 107, 111, 110, 101, 114, 47, 102, 105, 110, 46, 109, 111, 114, 101, 36, 50], .held [114, 101, 99, 107, 111, 110, 101, 114, 47, 102, 105, 110, 46, 109, 111, 114, 101, 36, 51], .held [114, 101, 99, 107, 111, 110, 101, 114, 47, 102, 105, 110, 46, 109, 111, 114, 101, 36, 52], .held [114, 101, 99, 107, 111, 110, 101, 114, 47, 102, 105, 110, 46, 109, 111, 114, 101, 36, 53]] := by
    injection hx1 with hx1
    exact hx1.symm
  rw [cells109] at hl
  rw [cells108] at hel
  have hone : ∀ i (hi : i < 5), ∃ y, DataW.trod (funcToken Tryd.prog) Tryd.prog W 0 (fun _ => true) true m 108 [cs.toList[i]] = some y ∧ xs[i]? = some y := fun i hi => by
    have h3 := hel i hi
    rw [Nat.mul_one] at h3
    have h4 : (cs.toList.drop i).take 1 = [cs.toList[i]] := by rw [List.drop_eq_getElem_cons (by omega)]; rfl
    rw [h4, List.getElem?_eq_getElem (by omega)] at h3
    exact ⟨_, h3, List.getElem?_eq_getElem (by omega)⟩
  match xs, hxl, hx2, hone with
  | [y0, y1, y2, y3, y4], _, hx2, hone =>
    obtain ⟨d0, p0⟩ := y0; obtain ⟨d1, p1⟩ := y1; obtain ⟨d2, p2⟩ := y2; obtain ⟨d3, p3⟩ := y3; obtain ⟨d4, p4⟩ := y4
    simp only [List.map_cons, List.map_nil, List.cons.injEq, and_true] at hx2
    obtain ⟨rfl, rfl, rfl, rfl, rfl⟩ := hx2
    obtain ⟨z0, a0, b0⟩ := hone 0 (by omega); obtain ⟨z1, a1, b1⟩ := hone 1 (by omega); obtain ⟨z2, a2, b2⟩ := hone 2 (by omega); obtain ⟨z3, a3, b3⟩ := hone 3 (by omega); obtain ⟨z4, a4, b4⟩ := hone 4 (by omega)
    simp only [List.getElem?_cons_zero, List.getElem?_cons_succ, Option.some.injEq] at b0 b1 b2 b3 b4
    subst b0 b1 b2 b3 b4
    have f0 := func_of_trod (f0 := 102) Tryd.underlying108 (by kernel_rfl) a0
    have f1 := func_of_trod (f0 := 103) Tryd.underlying108 (by kernel_rfl) a1
    have f2 := func_of_trod (f0 := 104) Tryd.underlying108 (by kernel_rfl) a2
    have f3 := func_of_trod (f0 := 105) Tryd.underlying108 (by kernel_rfl) a3
    have f4 := func_of_trod (f0 := 106) Tryd.underlying108 (by kernel_rfl) a4
    have e : mores = cs.toList := by
      refine List.ext_getElem (by rw [hl]; rfl) fun i h1 h2 => ?_
      have hi : i < 5 := h1
      match i, hi with
      | 0, _ => exact f0.symm
      | 1, _ => exact f1.symm
      | 2, _ => exact f2.symm
      | 3, _ => exact f3.symm
      | 4, _ => exact f4.symm
    intro j hj
    have hc := World.var?_cell hg hvar j
    have hj' : j < cs.size := by rw [← Array.length_toList, ← e]; exact hj
    have e2 : mores[j] = cs[j] := by simp only [e, Array.getElem_toList]
    rw [e2, ← Array.getElem?_eq_getElem hj']
    exact hc
theorem gl_of_laid {W : World} (h : laidMetH Tryd.prog Rows.decdivLargeRow.laid W) : GlOk gTab W := by
  intro g vs hg
  have one : ∀ l : List Value, l.all Value.oneCell' = true → ∀ j (hj : j < l.length), (l[j]).oneCell' = true := fun l hl j hj => List.all_eq_true.1 hl _ (List.getElem_mem hj)
  simp only [gTab, look_cons] at hg
  split at hg
  · rename_i e
    injection hg with hg
    subst hg e
    first
      | exact ⟨cell_lt (more_of_laid h 0 (by decide)), fun j hj => ⟨more_of_laid h j hj, one _ (by decide) j hj⟩⟩
      | exact ⟨cell_lt (deb_of_laid h 0 (by decide)), fun j hj => ⟨deb_of_laid h j hj, one _ (by decide) j hj⟩⟩
  · split at hg
    · rename_i e
      injection hg with hg
      subst hg e
      first
        | exact ⟨cell_lt (more_of_laid h 0 (by decide)), fun j hj => ⟨more_of_laid h j hj, one _ (by decide) j hj⟩⟩
        | exact ⟨cell_lt (deb_of_laid h 0 (by decide)), fun j hj => ⟨deb_of_laid h j hj, one _ (by decide) j hj⟩⟩
    · cases hg
end Go.Rk
