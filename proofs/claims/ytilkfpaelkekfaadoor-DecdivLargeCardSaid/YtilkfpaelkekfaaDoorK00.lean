/- DecdivLarge, the tied card: for every context and all Decs x and y the law answers true and leaves its arguments as they were, for a Dec with too many words gives ErrSize from each of the seven functions. Conditions: none beyond the given statement (part 1 of 8) -/
import Derived.OwnWalk
import Derived.Below
import Derived.Laws.OwnMore
import Derived.Laws.MakeOwn
import Derived.Laws.Slices
import Derived.Laws.Tables
import Derived.Laws.Rows
import Derived.Laws.Small
/-! A pure layer over the walk: abstract values, what they stand for in a world. -/
namespace Go.Rk
open Go.RowKit
/-- Abstract values. A row is a slice that is only read (fr: in memory that the call has made); own: the slice of a row of the call's own; sub: a part of it;
ptr, addr, radd: addresses of a variable's cell, of an own row's, of a read row's. -/
inductive AV where
  | val (v : Value)
  | row (fr : Bool) (n : Nat) (cells : List AV)
  | own (d : Nat)
  | sub (d off n : Nat)
  | ptr (d off : Nat)
  | addr (d off : Nat)
  | radd (fr : Bool) (cells : List AV) (off : Nat)
  | agg (cells : List AV)
  | tup (parts : List AV)
  | clo (f : Nat) (caps : List AV)
  deriving Inhabited
def AV.one : AV → Bool
  | .agg _ | .tup _ => false
  | .val v => v.oneCell'
  | _ => true
/-- All rows in it lie in memory that was made by the call that gave it. -/
def AV.fresh : AV → Bool
  | .val _ => true
  | .row fr _ cells => (fr || cells.isEmpty) && fresh.l cells
  | .agg cells => fresh.l cells
  | .tup cells => fresh.l cells
  | _ => false
  where fresh.l : List AV → Bool
  | [] => true
  | a :: l => a.fresh && fresh.l l
/-- The same, with all rows said to be only read. -/
def AV.unt : AV → AV
  | .row _ n cells => .row false n (unt.l cells)
  | .radd _ cells off => .radd false (unt.l cells) off
  | .agg cells => .agg (unt.l cells)
  | .tup cells => .tup (unt.l cells)
  | .clo f cells => .clo f (unt.l cells)
  | a => a
  where unt.l : List AV → List AV
  | [] => []
  | a :: l => a.unt :: unt.l l
structure Env where
  B : Nat
  S : Nat → Prop
  gb : Nat → Prop
  al : Nat → Prop
  blk : Nat → Nat
  hv : Nat → Value
/-- What a block must be that a read row lies in. -/
structure Env.okb (E : Env) (Wr : Nat → Prop) (w : World) (fr : Bool) (b : Nat) : Prop where
  fr : fr = true → E.B ≤ b
  s : E.S b ∨ E.B ≤ b ∨ E.gb b
  lt : b < w.heap.size
  nw : ¬ Wr b
inductive Rep (E : Env) (Wr : Nat → Prop) (w : World) : AV → Value → Prop
  | val (v : Value) : Rep E Wr w (.val v) v
  | row {fr : Bool} {n : Nat} {cells : List AV} {c : Nat} {A : Option Addr} (b o : Nat) (f : Nat → Value) (hn : n ≤ c) (hm : c ≤ maxLen) (hA : cells ≠ [] → A = some ⟨b, o, none⟩ ∧ E.okb Wr w fr b)
      (hc : ∀ j, j < cells.length → w.cell? ⟨b, o + j, none⟩ = some (f j)) (h1 : ∀ j (h : j < cells.length), (cells[j]).one = true)
      (hr : ∀ j (h : j < cells.length), Rep E Wr w (cells[j]) (f j)) : Rep E Wr w (.row fr n cells) (.slice A n c)
  | own {d : Nat} (h : E.al d) (h1 : (E.hv d).oneCell' = true) : Rep E Wr w (.own d) (E.hv d)
  | sub {d off n c : Nat} {A : Option Addr} (h : E.al d) (hn : n ≤ c) (hm : c ≤ maxLen) (hA : 0 < n → ∃ g m k, E.hv d = .slice (some ⟨g, 0, none⟩) m k ∧ A = some ⟨g, off, none⟩) : Rep E Wr w (.sub d off n) (.slice A n c)
  | ptr {d off : Nat} (h : E.al d) : Rep E Wr w (.ptr d off) (.pointer (some ⟨E.blk d, off, none⟩))
  | addr {d off : Nat} (g m k : Nat) (h : E.al d) (hA : E.hv d = .slice (some ⟨g, 0, none⟩) m k) : Rep E Wr w (.addr d off) (.pointer (some ⟨g, off, none⟩))
  | radd {fr : Bool} {off : Nat} {cells : List AV} (b o : Nat) (f : Nat → Value) (hA : E.okb Wr w fr b)
      (hc : ∀ j, j < cells.length → w.cell? ⟨b, o + j, none⟩ = some (f j)) (h1 : ∀ j (h : j < cells.length), (cells[j]).one = true)
      (hr : ∀ j (h : j < cells.length), Rep E Wr w (cells[j]) (f j)) : Rep E Wr w (.radd fr cells off) (.pointer (some ⟨b, o + off, none⟩))
  | agg {cells : List AV} {arr : Array Value} (hs : arr.size = cells.length) (h1 : ∀ j (h : j < cells.length), (cells[j]).one = true)
      (hr : ∀ j (h : j < cells.length) (h' : j < arr.size), Rep E Wr w (cells[j]) (arr[j])) : Rep E Wr w (.agg cells) (.agg arr)
  | tup {cells : List AV} {arr : Array Value} (hs : arr.size = cells.length)
      (hr : ∀ j (h : j < cells.length) (h' : j < arr.size), Rep E Wr w (cells[j]) (arr[j])) : Rep E Wr w (.tup cells) (.tuple arr)
  | clo {f : Nat} {cells : List AV} {arr : Array Value} (hs : arr.size = cells.length)
      (hr : ∀ j (h : j < cells.length) (h' : j < arr.size), Rep E Wr w (cells[j]) (arr[j])) : Rep E Wr w (.clo f cells) (.func (.func f) #[] arr)
section
variable {E E' : Env} {Wr Wr' : Nat → Prop} {w w' : World} {av : AV} {v : Value}
theorem cell_keep {b i : Nat} {u : Value} (hblk : w'.heap[b]? = w.heap[b]?) (h : w.cell? ⟨b, i, none⟩ = some u) : w'.cell? ⟨b, i, none⟩ = some u :=
  (World.cell?_of_block (a := ⟨b, i, none⟩) hblk).trans h
theorem cell_lt {b i : Nat} {u : Value} (h : w.cell? ⟨b, i, none⟩ = some u) : b < w.heap.size := World.block_lt_of_cell? w ⟨b, i, none⟩ h
theorem Rep.mono (hB : E'.B = E.B) (hS : E'.S = E.S) (hgb : E'.gb = E.gb) (hal : ∀ d, E.al d → E'.al d ∧ E'.blk d = E.blk d ∧ E'.hv d = E.hv d) (hsz : w.heap.size ≤ w'.heap.size)
    (hblk : ∀ b, b < w.heap.size → ¬ Wr b → w'.heap[b]? = w.heap[b]?) (hWr : ∀ b, b < w.heap.size → ¬ Wr b → ¬ Wr' b) (h : Rep E Wr w av v) : Rep E' Wr' w' av v := by
  have hok : ∀ {fr b}, E.okb Wr w fr b → E'.okb Wr' w' fr b := fun hb => ⟨fun h => by rw [hB]; exact hb.fr h, by rw [hB, hS, hgb]; exact hb.s, Nat.lt_of_lt_of_le hb.lt hsz, hWr _ hb.lt hb.nw⟩
  induction h with
  | val v => exact .val v
  | row b o f hn hm hA hc h1 hr ih =>
    refine .row b o f hn hm (fun hne => ⟨(hA hne).1, hok (hA hne).2⟩) (fun j hj => ?_) h1 ih
    have hq := hA (List.ne_nil_of_length_pos (Nat.lt_of_le_of_lt (Nat.zero_le _) hj))
    exact cell_keep (hblk b hq.2.lt hq.2.nw) (hc j hj)
  | own h h1 => rw [← (hal _ h).2.2]; exact .own (hal _ h).1 (by rw [(hal _ h).2.2]; exact h1)
  | sub h hn hm hA => exact .sub (hal _ h).1 hn hm (fun hp => by rw [(hal _ h).2.2]; exact hA hp)
  | ptr h => rw [← (hal _ h).2.1]; exact .ptr (hal _ h).1
  | addr g m k h hA => exact .addr g m k (hal _ h).1 (by rw [(hal _ h).2.2]; exact hA)
  | radd b o f hA hc h1 hr ih => exact .radd b o f (hok hA) (fun j hj => cell_keep (hblk b hA.lt hA.nw) (hc j hj)) h1 ih
  | agg hs h1 hr ih => exact .agg hs h1 ih
  | tup hs hr ih => exact .tup hs ih
  | clo hs hr ih => exact .clo hs ih
theorem Rep.oneCell (h : Rep E Wr w av v) (h1 : av.one = true) : v.oneCell' = true := by
  cases h <;> simp_all [AV.one, Value.oneCell']
end
end Go.Rk

namespace Go.Rk
open Go.RowKit
structure Box where
  ty : TypeId
  cells : List AV
structure ORow where
  e : TypeId
  sz : Nat
  n : Nat
  cells : List AV
structure St where
  slots : List (Nat × AV)
  boxes : List (Nat × Box)
  rows : List (Nat × Option ORow)
  nb : Nat
  nr : Nat
  gl : List (Nat × List Value)
def look {α : Type} (d : Nat) : List (Nat × α) → Option α
  | [] => none
  | p :: l => if d = p.1 then some p.2 else look d l
def St.put (σ : St) : Option Nat → AV → St
  | some d, av => { σ with slots := (d, av) :: σ.slots }
  | none, _ => σ
def St.wr (σ : St) (E : Env) (b : Nat) : Prop :=
  (∃ d bx, look d σ.boxes = some bx ∧ E.blk d = b) ∨ (∃ d r, look d σ.rows = some (some r) ∧ (E.hv d).ownBlock = some b)
structure RepL (E : Env) (Wr : Nat → Prop) (w : World) (cells : List AV) (xs : List Value) : Prop where
  len : xs.length = cells.length
  one : ∀ j (h : j < cells.length), (cells[j]).one = true
  rep : ∀ j (h : j < cells.length) (h' : j < xs.length), Rep E Wr w (cells[j]) (xs[j])
/-- The state σ tells the frame and the world. -/
structure Rel (w0 : World) (N : Nat) (E : Env) (σ : St) (a : Act) (w : World) : Prop where
  size : a.tmps.size = N
  defers : a.defers = []
  below : Below E.B w0 w
  base : E.B = w0.heap.size
  al : ∀ d, E.al d → (d % 2 = 0 → d < 2 * σ.nb) ∧ (d % 2 = 1 → d < 2 * σ.nr + 1)
  glob : (∀ b, E.gb b → b < E.B) ∧ (∀ g vs, look g σ.gl = some vs → E.gb g ∧ g < E.B ∧ ∀ j (h : j < vs.length), w.cell? ⟨g, j, none⟩ = some vs[j] ∧ (vs[j]).oneCell' = true)
  slots : ∀ t av, look t σ.slots = some av → ∃ v, a.tmps[t]? = some v ∧ Rep E (σ.wr E) w av v
  boxes : ∀ d bx, look d σ.boxes = some bx → E.al d ∧ E.B ≤ E.blk d ∧ ∃ arr : Array Value, w.heap[E.blk d]? = some (.cells arr bx.ty (0, 0)) ∧ RepL E (σ.wr E) w bx.cells arr.toList
  rows : ∀ d r, look d σ.rows = some (some r) → E.al d ∧ ∃ xs, w.ownsRow E.B r.e r.sz (E.hv d) r.n xs ∧ RepL E (σ.wr E) w r.cells xs
  bb : ∀ d d' bx bx', look d σ.boxes = some bx → look d' σ.boxes = some bx' → E.blk d = E.blk d' → d = d'
  br : ∀ d d' bx r, look d σ.boxes = some bx → look d' σ.rows = some (some r) → (E.hv d').ownBlock ≠ some (E.blk d)
  rr : ∀ d d' r r' b, look d σ.rows = some (some r) → look d' σ.rows = some (some r') → (E.hv d).ownBlock = some b → (E.hv d').ownBlock = some b → d = d'
theorem look_cons {α : Type} (d k : Nat) (a : α) (l : List (Nat × α)) : look d ((k, a) :: l) = if d = k then some a else look d l := rfl
section
variable {N : Nat} {w0 w w' : World} {E E' : Env} {σ σ' : St} {a : Act} {Wr Wr' : Nat → Prop}
theorem RepL.mono {cells : List AV} {xs : List Value} (hr : ∀ av v, Rep E Wr w av v → Rep E' Wr' w' av v) (h : RepL E Wr w cells xs) : RepL E' Wr' w' cells xs :=
  ⟨h.len, h.one, fun j h1 h2 => hr _ _ (h.rep j h1 h2)⟩
theorem RepL.oneCell {cells : List AV} {xs : List Value} (h : RepL E Wr w cells xs) : ∀ u ∈ xs, u.oneCell' = true := by
  intro u hu
  obtain ⟨j, hj, rfl⟩ := List.mem_iff_getElem.1 hu
  exact (h.rep j (by rw [← h.len]; exact hj) hj).oneCell (h.one j (by rw [← h.len]; exact hj))
theorem Rel.wr_lt (h : Rel w0 N E σ a w) {b : Nat} (hb : σ.wr E b) : E.B ≤ b ∧ b < w.heap.size := by
  rcases hb with ⟨d, bx, hd, rfl⟩ | ⟨d, r, hd, he⟩
  · obtain ⟨_, h2, arr, h3, _⟩ := h.boxes d bx hd
    exact ⟨h2, (Array.getElem?_eq_some_iff.1 h3).1⟩
  · obtain ⟨_, xs, h2, _⟩ := h.rows d r hd
    exact h2.lt b he
theorem glob_keep {gl : List (Nat × List Value)} (h : (∀ b, E.gb b → b < E.B) ∧ (∀ g vs, look g gl = some vs → E.gb g ∧ g < E.B ∧ ∀ j (h : j < vs.length), w.cell? ⟨g, j, none⟩ = some vs[j] ∧ (vs[j]).oneCell' = true)) (hk : ∀ b, b < E.B → w'.heap[b]? = w.heap[b]?) :
    (∀ b, E.gb b → b < E.B) ∧ (∀ g vs, look g gl = some vs → E.gb g ∧ g < E.B ∧ ∀ j (h : j < vs.length), w'.cell? ⟨g, j, none⟩ = some vs[j] ∧ (vs[j]).oneCell' = true) := ⟨h.1, fun g vs hg => by
  obtain ⟨h1, h2, h3⟩ := h.2 g vs hg
  exact ⟨h1, h2, fun j hj => ⟨cell_keep (hk g h2) (h3 j hj).1, (h3 j hj).2⟩⟩⟩
/-- A value goes into a slot. -/
theorem Rel.put (h : Rel w0 N E σ a w) {dst : Option Nat} {av : AV} {v : Value} (hd : ∀ d, dst = some d → d < N) (hr : Rep E (σ.wr E) w av v) : Rel w0 N E (σ.put dst av) (a.put dst v) w := by
  cases dst with
  | none => exact h
  | some d =>
    have hd' := hd d rfl
    refine ⟨by simpa [Act.put, St.put] using h.size, h.defers, h.below, h.base, h.al, h.glob, fun t av' ht => ?_, h.boxes, h.rows, h.bb, h.br, h.rr⟩
    simp only [St.put, look_cons] at ht
    simp only [Act.put]
    by_cases htd : t = d
    · subst htd
      rw [if_pos rfl] at ht
      injection ht with ht
      subst ht
      exact ⟨v, by rw [Array.getElem?_setIfInBounds_self_of_lt (by rw [h.size]; exact hd')], hr⟩
    · rw [if_neg htd] at ht
      obtain ⟨u, hu, hr'⟩ := h.slots t av' ht
      exact ⟨u, by rw [Array.getElem?_setIfInBounds_ne (Ne.symm htd)]; exact hu, hr'⟩
/-- The world goes on: what is the call's own and what is read stays. -/
theorem Rel.world (h : Rel w0 N E σ a w) (hb : Below E.B w0 w') (hs : w.heap.size ≤ w'.heap.size) (hk : ∀ b, b < w.heap.size → w'.heap[b]? = w.heap[b]?) : Rel w0 N E σ a w' := by
  have hm : ∀ av v, Rep E (σ.wr E) w av v → Rep E (σ.wr E) w' av v := fun av v hr => hr.mono rfl rfl rfl (fun d hd => ⟨hd, rfl, rfl⟩) hs (fun b hb _ => hk b hb) (fun _ _ hn => hn)
  refine ⟨h.size, h.defers, hb, h.base, h.al, glob_keep h.glob (fun b hlt => hk b (Nat.lt_of_lt_of_le hlt (Nat.le_trans (Nat.le_of_eq h.base) h.below.size))), fun t av ht => ?_, fun d bx hd => ?_, fun d r hd => ?_, h.bb, h.br, h.rr⟩
  · obtain ⟨v, hv, hr⟩ := h.slots t av ht
    exact ⟨v, hv, hm _ _ hr⟩
  · obtain ⟨h1, h2, arr, h3, h4⟩ := h.boxes d bx hd
    exact ⟨h1, h2, arr, by rw [hk _ (Array.getElem?_eq_some_iff.1 h3).1]; exact h3, h4.mono hm⟩
  · obtain ⟨h1, xs, h2, h3⟩ := h.rows d r hd
    refine ⟨h1, xs, ⟨h2.1, ?_⟩, h3.mono hm⟩
    rcases h2.2 with hn | ⟨g, cap, cur, e1, e2, e3, rest⟩
    · exact .inl hn
    · exact .inr ⟨g, cap, cur, e1, e2, by rw [hk _ (Array.getElem?_eq_some_iff.1 e3).1]; exact e3, rest⟩
theorem Rel.call (h : Rel w0 N E σ a w) (hb : Below w.heap.size w w') : Rel w0 N E σ a w' :=
  h.world (h.below.trans (hb.mono (Nat.le_trans (Nat.le_of_eq h.base) h.below.size))) hb.size (fun b hlt => hb.block b hlt)
/-- A new variable of the call's own. -/
def Env.addB (E : Env) (n b : Nat) : Env := { E with al := fun d => E.al d ∨ d = n, blk := fun d => if d = n then b else E.blk d }
def Env.addH (E : Env) (n : Nat) (v : Value) : Env := { E with al := fun d => E.al d ∨ d = n, hv := fun d => if d = n then v else E.hv d }
def St.newBox (σ : St) (bx : Box) : St := { σ with boxes := ((2 * σ.nb), bx) :: σ.boxes, nb := σ.nb + 1 }
def St.newRow (σ : St) (r : ORow) : St := { σ with rows := ((2 * σ.nr + 1), some r) :: σ.rows, nr := σ.nr + 1 }
theorem Rel.newBox (h : Rel w0 N E σ a w) {ty : TypeId} {cells : List AV} {arr : Array Value} (hc : RepL E (σ.wr E) w cells arr.toList) :
    Rel w0 N (E.addB (2 * σ.nb) w.heap.size) (σ.newBox ⟨ty, cells⟩) a (w.alloc (.cells arr ty)) := by
  have hB : E.B ≤ w.heap.size := Nat.le_trans (Nat.le_of_eq h.base) h.below.size
  have hal : ∀ d, E.al d → d ≠ (2 * σ.nb) := fun d hd he => by have := h.al d hd; omega
  have hw : ∀ b, b < w.heap.size → ¬ σ.wr E b → ¬ (σ.newBox ⟨ty, cells⟩).wr (E.addB (2 * σ.nb) w.heap.size) b := by
    intro b hb hn hq
    rcases hq with ⟨d, bx, hd, he⟩ | ⟨d, r, hd, he⟩
    · simp only [St.newBox, Env.addB, look_cons] at hd he
      by_cases hdn : d = (2 * σ.nb)
      · rw [if_pos hdn] at he; omega
      · rw [if_neg hdn] at hd he
        exact hn (.inl ⟨d, bx, hd, he⟩)
    · exact hn (.inr ⟨d, r, hd, he⟩)
  have hk : ∀ b, b < w.heap.size → (w.alloc (.cells arr ty)).heap[b]? = w.heap[b]? := fun b hb => Below.heap_alloc w _ b hb
  have hm : ∀ av v, Rep E (σ.wr E) w av v → Rep (E.addB (2 * σ.nb) w.heap.size) ((σ.newBox ⟨ty, cells⟩).wr (E.addB (2 * σ.nb) w.heap.size)) (w.alloc (.cells arr ty)) av v :=
    fun av v hr => Rep.mono (E := E) rfl rfl rfl (fun d hd => ⟨Or.inl hd, if_neg (hal d hd), rfl⟩) (by simp) (fun b hb _ => hk b hb) hw hr
  have hnew : (w.alloc (.cells arr ty)).heap[w.heap.size]? = some (.cells arr ty (0, 0)) := heap_alloc_new w _
  refine ⟨h.size, h.defers, h.below.alloc hB _, h.base, fun d hd => ?_, glob_keep (E := E) h.glob (fun b hlt => hk b (Nat.lt_of_lt_of_le hlt hB)), fun t av ht => ?_, fun d bx hd => ?_, fun d r hd => ?_, ?_, ?_, h.rr⟩
  · rcases hd with hd | rfl
    · have := h.al d hd
      simp only [St.newBox]
      omega
    · simp only [St.newBox]
      omega
  · obtain ⟨v, hv, hr⟩ := h.slots t av ht
    exact ⟨v, hv, hm _ _ hr⟩
  · simp only [St.newBox, look_cons] at hd
    by_cases hdn : d = (2 * σ.nb)
    · rw [if_pos hdn] at hd
      injection hd with hd
      subst hd hdn
      refine ⟨Or.inr rfl, ?_, arr, ?_, hc.mono hm⟩
      · simpa [Env.addB] using hB
      · simpa [Env.addB] using hnew
    · rw [if_neg hdn] at hd
      obtain ⟨h1, h2, arr', h3, h4⟩ := h.boxes d bx hd
      refine ⟨Or.inl h1, by simpa [Env.addB, hdn] using h2, arr', ?_, h4.mono hm⟩
      simp only [Env.addB, hdn, if_false]
      rw [hk _ (Array.getElem?_eq_some_iff.1 h3).1]
      exact h3
  · obtain ⟨h1, xs, h2, h3⟩ := h.rows d r hd
    exact ⟨Or.inl h1, xs, h2.alloc _, h3.mono hm⟩
  · intro d d' bx bx' hd hd' he
    simp only [St.newBox, Env.addB, look_cons] at hd hd' he
    by_cases h1 : d = (2 * σ.nb) <;> by_cases h2 : d' = (2 * σ.nb)
    · rw [h1, h2]
    · rw [if_neg h2] at hd' he
      rw [if_pos h1] at he
      obtain ⟨_, _, arr', h3, _⟩ := h.boxes d' bx' hd'
      have := (Array.getElem?_eq_some_iff.1 h3).1
      omega
    · rw [if_neg h1] at hd he
      rw [if_pos h2] at he
      obtain ⟨_, _, arr', h3, _⟩ := h.boxes d bx hd
      have := (Array.getElem?_eq_some_iff.1 h3).1
      omega
    · rw [if_neg h1] at hd he
      rw [if_neg h2] at hd' he
      exact h.bb d d' bx bx' hd hd' he
  · intro d d' bx r hd hd' he
    simp only [St.newBox, Env.addB, look_cons] at hd he
    by_cases h1 : d = (2 * σ.nb)
    · rw [if_pos h1] at he
      obtain ⟨_, xs, h2, _⟩ := h.rows d' r hd'
      have := (h2.lt _ he).2
      omega
    · rw [if_neg h1] at hd he
      exact h.br d d' bx r hd hd' he
/-- A new row of the call's own: in a block that is new. -/
theorem Rel.newRow (h : Rel w0 N E σ a w) {r : ORow} {v : Value} {xs : List Value} (hb : Below E.B w0 w') (hs : w.heap.size ≤ w'.heap.size) (hk : ∀ b, b < w.heap.size → w'.heap[b]? = w.heap[b]?)
    (ho : w'.ownsRow E.B r.e r.sz v r.n xs) (hn : ∀ g, v.ownBlock = some g → w.heap.size ≤ g) (hc : RepL E (σ.wr E) w r.cells xs) : Rel w0 N (E.addH (2 * σ.nr + 1) v) (σ.newRow r) a w' := by
  have hal : ∀ d, E.al d → d ≠ (2 * σ.nr + 1) := fun d hd he => by have := h.al d hd; omega
  have hro : ∀ d r', look d σ.rows = some (some r') → d ≠ (2 * σ.nr + 1) := fun d r' hd => hal d (h.rows d r' hd).1
  have hw : ∀ b, b < w.heap.size → ¬ σ.wr E b → ¬ (σ.newRow r).wr (E.addH (2 * σ.nr + 1) v) b := by
    intro b hlt hnw hq
    rcases hq with ⟨d, bx, hd, he⟩ | ⟨d, r', hd, he⟩
    · exact hnw (.inl ⟨d, bx, hd, he⟩)
    · simp only [St.newRow, Env.addH, look_cons] at hd he
      by_cases hdn : d = (2 * σ.nr + 1)
      · rw [if_pos hdn] at he
        have := hn b he
        omega
      · rw [if_neg hdn] at hd he
        exact hnw (.inr ⟨d, r', hd, he⟩)
  have hm : ∀ av u, Rep E (σ.wr E) w av u → Rep (E.addH (2 * σ.nr + 1) v) ((σ.newRow r).wr (E.addH (2 * σ.nr + 1) v)) w' av u :=
    fun av u hr => Rep.mono (E := E) rfl rfl rfl (fun d hd => ⟨Or.inl hd, rfl, if_neg (hal d hd)⟩) hs (fun b hlt _ => hk b hlt) hw hr
  have h' := h.world hb hs hk
  refine ⟨h.size, h.defers, hb, h.base, fun d hd => ?_, h'.glob, fun t av ht => ?_, fun d bx hd => ?_, fun d r' hd => ?_, h.bb, ?_, ?_⟩
  · rcases hd with hd | rfl
    · have := h.al d hd
      simp only [St.newRow]
      omega
    · simp only [St.newRow]
      omega
  · obtain ⟨u, hu, hr⟩ := h.slots t av ht
    exact ⟨u, hu, hm _ _ hr⟩
  · obtain ⟨h1, h2, arr, h3, h4⟩ := h.boxes d bx hd
    exact ⟨Or.inl h1, h2, arr, by rw [show (E.addH (2 * σ.nr + 1) v).blk d = E.blk d from rfl, hk _ (Array.getElem?_eq_some_iff.1 h3).1]; exact h3, h4.mono hm⟩
  · simp only [St.newRow, look_cons] at hd
    by_cases hdn : d = (2 * σ.nr + 1)
    · rw [if_pos hdn] at hd
      injection hd with hd
      injection hd with hd
      subst hd hdn
      refine ⟨Or.inr rfl, xs, ?_, hc.mono hm⟩
      simpa [Env.addH] using ho
    · rw [if_neg hdn] at hd
      obtain ⟨h1, xs', h2, _⟩ := h'.rows d r' hd
      obtain ⟨_, xs2, h4, h5⟩ := h.rows d r' hd
      have : xs2 = xs' := by
        rcases h4.2 with ⟨e1, e2⟩ | ⟨g, cap, cur, e1, _, e3, _, _, _, e4⟩
        · rcases h2.2 with ⟨_, e4⟩ | ⟨g', cap', cur', e1', _⟩
          · have l1 := h4.1; have l2 := h2.1
            rw [e2] at l1 l2
            have q1 : xs2 = [] := List.eq_nil_of_length_eq_zero (by simpa using l1)
            have q2 : xs' = [] := List.eq_nil_of_length_eq_zero (by simpa using l2)
            rw [q1, q2]
          · rw [e1] at e1'; cases e1'
        · rcases h2.2 with ⟨e1', _⟩ | ⟨g', cap', cur', e1', _, e3', _, _, _, e4'⟩
          · rw [e1] at e1'; cases e1'
          · rw [e1] at e1'
            injection e1' with q1 q2 q3
            injection q1 with q1
            injection q1 with q1
            subst q1
            rw [hk _ (Array.getElem?_eq_some_iff.1 e3).1, e3] at e3'
            injection e3' with e3'
            injection e3' with e3'
            subst e3'
            rw [← e4, ← e4']
      subst this
      refine ⟨Or.inl h1, xs2, ?_, h5.mono hm⟩
      simpa [Env.addH, hdn] using h2
  · intro d d' bx r' hd hd' he
    simp only [St.newRow, Env.addH, look_cons] at hd' he
    by_cases h1 : d' = (2 * σ.nr + 1)
    · rw [if_pos h1] at he
      obtain ⟨_, _, arr', h3, _⟩ := h.boxes d bx hd
      have := (Array.getElem?_eq_some_iff.1 h3).1
      have := hn _ he
      omega
    · rw [if_neg h1] at hd' he
      exact h.br d d' bx r' hd hd' he
  · intro d d' r1 r2 b hd hd' he he'
    simp only [St.newRow, Env.addH, look_cons] at hd hd' he he'
    have lt : ∀ d r', look d σ.rows = some (some r') → (E.hv d).ownBlock = some b → b < w.heap.size := fun d r' hd he => by
      obtain ⟨_, xs, h2, _⟩ := h.rows d r' hd
      exact (h2.lt b he).2
    by_cases h1 : d = (2 * σ.nr + 1) <;> by_cases h2 : d' = (2 * σ.nr + 1)
    · rw [h1, h2]
    · rw [if_neg h2] at hd' he'
      rw [if_pos h1] at he
      have := hn _ he
      have := lt _ _ hd' he'
      omega
    · rw [if_neg h1] at hd he
      rw [if_pos h2] at he'
      have := hn _ he'
      have := lt _ _ hd he
      omega
    · rw [if_neg h1] at hd he
      rw [if_neg h2] at hd' he'
      exact h.rr d d' r1 r2 b hd hd' he he'
end
end Go.Rk

namespace Go.Rk
open Go.RowKit
section
variable {N : Nat} {w0 w w' : World} {E : Env} {σ : St} {a : Act}
def St.setBox (σ : St) (d : Nat) (bx : Box) : St := { σ with boxes := (d, bx) :: σ.boxes }
def St.setRow (σ : St) (d : Nat) (r : Option ORow) : St := { σ with rows := (d, r) :: σ.rows }
theorem ownsRow_keep {B e size : Nat} {v : Value} {n : Nat} {xs : List Value} (h : w.ownsRow B e size v n xs) (hk : ∀ b, v.ownBlock = some b → w'.heap[b]? = w.heap[b]?) : w'.ownsRow B e size v n xs := by
  refine ⟨h.1, ?_⟩
  rcases h.2 with hn | ⟨g, cap, cur, rfl, e2, e3, rest⟩
  · exact .inl hn
  · exact .inr ⟨g, cap, cur, rfl, e2, by rw [hk g rfl]; exact e3, rest⟩
/-- The cells of a variable are written. -/
theorem Rel.setBox (h : Rel w0 N E σ a w) {d : Nat} {bx : Box} {cells : List AV} {arr : Array Value} (hd : look d σ.boxes = some bx) (hb : Below E.B w0 w')
    (hs : w.heap.size = w'.heap.size) (hk : ∀ b, b ≠ E.blk d → w'.heap[b]? = w.heap[b]?) (hn : w'.heap[E.blk d]? = some (.cells arr bx.ty (0, 0))) (hc : RepL E (σ.wr E) w cells arr.toList) :
    Rel w0 N E (σ.setBox d ⟨bx.ty, cells⟩) a w' := by
  have hwr : ∀ b, (σ.setBox d ⟨bx.ty, cells⟩).wr E b → σ.wr E b := by
    intro b hq
    rcases hq with ⟨d', bx', hd', he⟩ | ⟨d', r, hd', he⟩
    · simp only [St.setBox, look_cons] at hd'
      by_cases hdd : d' = d
      · exact .inl ⟨d, bx, hd, by rw [← hdd]; exact he⟩
      · rw [if_neg hdd] at hd'
        exact .inl ⟨d', bx', hd', he⟩
    · exact .inr ⟨d', r, hd', he⟩
  have hdw : σ.wr E (E.blk d) := .inl ⟨d, bx, hd, rfl⟩
  have hm : ∀ av v, Rep E (σ.wr E) w av v → Rep E ((σ.setBox d ⟨bx.ty, cells⟩).wr E) w' av v := fun av v hr =>
    Rep.mono (E := E) rfl rfl rfl (fun d hd => ⟨hd, rfl, rfl⟩) (Nat.le_of_eq hs) (fun b _ hb => hk b (fun e => hb (e ▸ hdw))) (fun b _ hb hq => hb (hwr b hq)) hr
  refine ⟨h.size, h.defers, hb, h.base, h.al, glob_keep h.glob (fun b hlt => hk b (fun e => by have := (h.boxes d bx hd).2.1; omega)), fun t av ht => ?_, fun d' bx' hd' => ?_, fun d' r hd' => ?_, fun d1 d2 b1 b2 h1 h2 he => ?_, fun d1 d2 b1 r h1 h2 he => ?_, h.rr⟩
  · obtain ⟨v, hv, hr⟩ := h.slots t av ht
    exact ⟨v, hv, hm _ _ hr⟩
  · simp only [St.setBox, look_cons] at hd'
    by_cases hdd : d' = d
    · rw [if_pos hdd] at hd'
      injection hd' with hd'
      subst hd' hdd
      obtain ⟨h1, h2, _⟩ := h.boxes d' bx hd
      exact ⟨h1, h2, arr, hn, hc.mono hm⟩
    · rw [if_neg hdd] at hd'
      obtain ⟨h1, h2, arr', h3, h4⟩ := h.boxes d' bx' hd'
      exact ⟨h1, h2, arr', by rw [hk _ (fun e => hdd (h.bb d' d bx' bx hd' hd e))]; exact h3, h4.mono hm⟩
  · obtain ⟨h1, xs, h2, h3⟩ := h.rows d' r hd'
    exact ⟨h1, xs, ownsRow_keep h2 (fun b hb => hk b (fun e => h.br d d' bx r hd hd' (e ▸ hb))), h3.mono hm⟩
  · simp only [St.setBox, look_cons] at h1 h2
    by_cases e1 : d1 = d <;> by_cases e2 : d2 = d
    · rw [e1, e2]
    · rw [if_neg e2] at h2
      subst e1
      exact h.bb _ _ _ _ hd h2 he
    · rw [if_neg e1] at h1
      subst e2
      exact h.bb _ _ _ _ h1 hd he
    · rw [if_neg e1] at h1
      rw [if_neg e2] at h2
      exact h.bb _ _ _ _ h1 h2 he
  · simp only [St.setBox, look_cons] at h1
    by_cases e1 : d1 = d
    · subst e1
      exact h.br _ _ _ _ hd h2 he
    · rw [if_neg e1] at h1
      exact h.br _ _ _ _ h1 h2 he
/-- The cells of an own row are written; its slice stays. -/
theorem Rel.setRow (h : Rel w0 N E σ a w) {d : Nat} {r : ORow} {cells : List AV} {xs : List Value} (hd : look d σ.rows = some (some r)) (hb : Below E.B w0 w')
    (hs : w.heap.size = w'.heap.size) (hk : ∀ b, some b ≠ (E.hv d).ownBlock → w'.heap[b]? = w.heap[b]?) (hn : w'.ownsRow E.B r.e r.sz (E.hv d) r.n xs) (hc : RepL E (σ.wr E) w cells xs) :
    Rel w0 N E (σ.setRow d (some { r with cells := cells })) a w' := by
  have hwr : ∀ b, (σ.setRow d (some { r with cells := cells })).wr E b → σ.wr E b := by
    intro b hq
    rcases hq with ⟨d', bx', hd', he⟩ | ⟨d', r', hd', he⟩
    · exact .inl ⟨d', bx', hd', he⟩
    · simp only [St.setRow, look_cons] at hd'
      by_cases hdd : d' = d
      · exact .inr ⟨d, r, hd, by rw [← hdd]; exact he⟩
      · rw [if_neg hdd] at hd'
        exact .inr ⟨d', r', hd', he⟩
  have hdw : ∀ b, (E.hv d).ownBlock = some b → σ.wr E b := fun b hb => .inr ⟨d, r, hd, hb⟩
  have hm : ∀ av v, Rep E (σ.wr E) w av v → Rep E ((σ.setRow d (some { r with cells := cells })).wr E) w' av v := fun av v hr =>
    Rep.mono (E := E) rfl rfl rfl (fun d hd => ⟨hd, rfl, rfl⟩) (Nat.le_of_eq hs) (fun b _ hb => hk b (fun e => hb (hdw b e.symm))) (fun b _ hb hq => hb (hwr b hq)) hr
  refine ⟨h.size, h.defers, hb, h.base, h.al, glob_keep h.glob (fun b hlt => hk b (fun e => by obtain ⟨_, xs', h2, _⟩ := h.rows d r hd; have := (h2.lt b e.symm).1; omega)), fun t av ht => ?_, fun d' bx' hd' => ?_, fun d' r' hd' => ?_, h.bb, fun d1 d2 b1 r1 h1 h2 he => ?_, fun d1 d2 r1 r2 b h1 h2 he1 he2 => ?_⟩
  · obtain ⟨v, hv, hr⟩ := h.slots t av ht
    exact ⟨v, hv, hm _ _ hr⟩
  · obtain ⟨h1, h2, arr', h3, h4⟩ := h.boxes d' bx' hd'
    exact ⟨h1, h2, arr', by rw [hk _ (fun e => h.br d' d bx' r hd' hd e.symm)]; exact h3, h4.mono hm⟩
  · simp only [St.setRow, look_cons] at hd'
    by_cases hdd : d' = d
    · rw [if_pos hdd] at hd'
      injection hd' with hd'
      injection hd' with hd'
      subst hd' hdd
      exact ⟨(h.rows d' r hd).1, xs, hn, hc.mono hm⟩
    · rw [if_neg hdd] at hd'
      obtain ⟨h1, xs', h2, h3⟩ := h.rows d' r' hd'
      exact ⟨h1, xs', ownsRow_keep h2 (fun b hb => hk b (fun e => hdd (h.rr d' d r' r b hd' hd hb e.symm))), h3.mono hm⟩
  · simp only [St.setRow, look_cons] at h2
    by_cases e1 : d2 = d
    · subst e1
      exact h.br _ _ _ _ h1 hd he
    · rw [if_neg e1] at h2
      exact h.br _ _ _ _ h1 h2 he
  · simp only [St.setRow, look_cons] at h1 h2
    by_cases e1 : d1 = d <;> by_cases e2 : d2 = d
    · rw [e1, e2]
    · rw [if_neg e2] at h2
      subst e1
      exact h.rr _ _ _ _ b hd h2 he1 he2
    · rw [if_neg e1] at h1
      subst e2
      exact h.rr _ _ _ _ b h1 hd he1 he2
    · rw [if_neg e1] at h1
      rw [if_neg e2] at h2
      exact h.rr _ _ _ _ b h1 h2 he1 he2
/-- A row of the call's own is only read from now on. -/
theorem Rel.kill (h : Rel w0 N E σ a w) (d : Nat) : Rel w0 N E (σ.setRow d none) a w := by
  have hl : ∀ d' r, look d' (σ.setRow d none).rows = some (some r) → look d' σ.rows = some (some r) ∧ d' ≠ d := by
    intro d' r hd'
    simp only [St.setRow, look_cons] at hd'
    by_cases e : d' = d
    · rw [if_pos e] at hd'
      injection hd' with hd'
      cases hd'
    · rw [if_neg e] at hd'
      exact ⟨hd', e⟩
  have hwr : ∀ b, (σ.setRow d none).wr E b → σ.wr E b := by
    intro b hq
    rcases hq with ⟨d', bx', hd', he⟩ | ⟨d', r', hd', he⟩
    · exact .inl ⟨d', bx', hd', he⟩
    · exact .inr ⟨d', r', (hl _ _ hd').1, he⟩
  have hm : ∀ av v, Rep E (σ.wr E) w av v → Rep E ((σ.setRow d none).wr E) w av v := fun av v hr =>
    Rep.mono (E := E) rfl rfl rfl (fun d hd => ⟨hd, rfl, rfl⟩) (Nat.le_refl _) (fun b _ hb => rfl) (fun b _ hb hq => hb (hwr b hq)) hr
  refine ⟨h.size, h.defers, h.below, h.base, h.al, h.glob, fun t av ht => ?_, fun d' bx' hd' => ?_, fun d' r' hd' => ?_, h.bb, fun d1 d2 b1 r1 h1 h2 he => ?_, fun d1 d2 r1 r2 b h1 h2 he1 he2 => ?_⟩
  · obtain ⟨v, hv, hr⟩ := h.slots t av ht
    exact ⟨v, hv, hm _ _ hr⟩
  · obtain ⟨h1, h2, arr', h3, h4⟩ := h.boxes d' bx' hd'
    exact ⟨h1, h2, arr', h3, h4.mono hm⟩
  · obtain ⟨h1, xs', h2, h3⟩ := h.rows d' r' (hl _ _ hd').1
    exact ⟨h1, xs', h2, h3.mono hm⟩
  · exact h.br _ _ _ _ h1 (hl _ _ h2).1 he
  · exact h.rr _ _ _ _ b (hl _ _ h1).1 (hl _ _ h2).1 he1 he2
theorem ownsRow_shape {B e size : Nat} {v : Value} {n : Nat} {xs : List Value} (h : w.ownsRow B e size v n xs) : ∃ A c, v = .slice A n c ∧ n ≤ c ∧ c ≤ maxLen := by
  rcases h.2 with ⟨rfl, rfl⟩ | ⟨g, cap, cur, rfl, _, _, h1, h2, _⟩
  · exact ⟨none, 0, rfl, Nat.le_refl _, Nat.zero_le _⟩
  · exact ⟨_, cap, rfl, h1, h2⟩
/-- What an own row reads as, once it is only read. -/
theorem Rel.killed (h : Rel w0 N E σ a w) {d : Nat} {r : ORow} (hd : look d σ.rows = some (some r)) : Rep E ((σ.setRow d none).wr E) w (.row true r.n r.cells) (E.hv d) := by
  have hk := h.kill d
  obtain ⟨h1, xs, h2, h3⟩ := h.rows d r hd
  have hm : ∀ av v, Rep E (σ.wr E) w av v → Rep E ((σ.setRow d none).wr E) w av v := fun av v hr =>
    Rep.mono (E := E) rfl rfl rfl (fun d hd => ⟨hd, rfl, rfl⟩) (Nat.le_refl _) (fun b _ hb => rfl) (fun b _ hb hq => hb (by
      rcases hq with ⟨d', bx', hd', he⟩ | ⟨d', r', hd', he⟩
      · exact .inl ⟨d', bx', hd', he⟩
      · simp only [St.setRow, look_cons] at hd'
        by_cases e : d' = d
        · rw [if_pos e] at hd'
          injection hd' with hd'
          cases hd'
        · rw [if_neg e] at hd'
          exact .inr ⟨d', r', hd', he⟩)) hr
  have h3' := h3.mono hm
  obtain ⟨A, c, hv, hn, hm'⟩ := ownsRow_shape h2
  rw [hv]
  refine .row (match A with | some ad => ad.block | none => 0) 0 (fun j => xs.getD j undef) hn hm' (fun hne => ?_) (fun j hj => ?_) h3.one (fun j hj => ?_)
  · rcases h2.2 with ⟨e1, e2⟩ | ⟨g, cap, cur, e1, e2, e3, _⟩
    · exfalso
      have l := h2.1
      rw [e2] at l
      have l2 := h3.len
      exact hne (List.eq_nil_of_length_eq_zero (by rw [← l2]; simpa using l))
    · rw [hv] at e1
      injection e1 with e1 _ _
      subst e1
      refine ⟨rfl, fun _ => e2, Or.inr (Or.inl e2), (Array.getElem?_eq_some_iff.1 e3).1, fun hq => ?_⟩
      rcases hq with ⟨d', bx', hd', he⟩ | ⟨d', r', hd', he⟩
      · exact h.br d' d bx' r hd' hd (by rw [hv, he]; rfl)
      · simp only [St.setRow, look_cons] at hd'
        by_cases e : d' = d
        · rw [if_pos e] at hd'
          injection hd' with hd'
          cases hd'
        · rw [if_neg e] at hd'
          exact e (h.rr d' d r' r g hd' hd he (by rw [hv]; rfl))
  · have hjx : j < xs.length := by rw [h3.len]; exact hj
    have hne : xs ≠ [] := List.ne_nil_of_length_pos (by omega)
    rcases h2.2 with ⟨e1, e2⟩ | ⟨g, cap, cur, e1, e2, e3, _, _, _, e4⟩
    · exfalso
      have l := h2.1
      rw [e2] at l
      exact hne (List.eq_nil_of_length_eq_zero (by simpa using l))
    · rw [hv] at e1
      injection e1 with e1 _ _
      subst e1
      have hc := h2.cells (g := g) (by rw [hv]; rfl) j xs[j] (List.getElem?_eq_getElem hjx)
      have hadd : (⟨g, 0, none⟩ : Addr).add j = ⟨g, 0 + j, none⟩ := by unfold Addr.add; split <;> simp_all
      rw [hadd] at hc
      rw [List.getD_eq_getElem?_getD, List.getElem?_eq_getElem hjx]
      exact hc
  · have hjx : j < xs.length := by rw [h3.len]; exact hj
    rw [List.getD_eq_getElem?_getD, List.getElem?_eq_getElem hjx]
    exact h3'.rep j hj hjx
end
end Go.Rk

namespace Go.Rk
open Go.RowKit
section
variable {N : Nat} {w0 w w' : World} {E : Env} {σ : St} {a : Act} {P : Program}
/-- Behind an append: the row is another one. -/
theorem Rel.swapRow (h : Rel w0 N E σ a w) {d : Nat} {r r' : ORow} {v' : Value} {xs' : List Value} (hd : look d σ.rows = some (some r)) (hb : Below E.B w0 w')
    (hg : w.grownBy w' (E.hv d).ownBlock) (ho : w'.ownsRow E.B r'.e r'.sz v' r'.n xs') (hat : ∀ g, v'.ownBlock = some g → (E.hv d).ownBlock = some g ∨ w.heap.size ≤ g)
    (hc : RepL E (σ.wr E) w r'.cells xs') : Rel w0 N (E.addH (2 * σ.nr + 1) v') ((σ.setRow d none).newRow r') a w' := by
  have hal : ∀ d, E.al d → d ≠ (2 * σ.nr + 1) := fun d hd he => by have := h.al d hd; omega
  have hdn : d ≠ (2 * σ.nr + 1) := hal d (h.rows d r hd).1
  have hdw : ∀ b, (E.hv d).ownBlock = some b → σ.wr E b := fun b hb => .inr ⟨d, r, hd, hb⟩
  have hl : ∀ d' r1, look d' ((σ.setRow d none).newRow r').rows = some (some r1) → d' ≠ (2 * σ.nr + 1) → look d' σ.rows = some (some r1) ∧ d' ≠ d := by
    intro d' r1 hd' hn
    simp only [St.newRow, St.setRow, look_cons] at hd'
    rw [if_neg hn] at hd'
    by_cases e : d' = d
    · rw [if_pos e] at hd'
      injection hd' with hd'
      cases hd'
    · rw [if_neg e] at hd'
      exact ⟨hd', e⟩
  have hnew : ∀ r1, look (2 * σ.nr + 1) ((σ.setRow d none).newRow r').rows = some (some r1) → r1 = r' := by
    intro r1 hd'
    simp only [St.newRow, St.setRow, look_cons, if_true] at hd'
    injection hd' with hd'
    injection hd' with hd'
    exact hd'.symm
  have hwr : ∀ b, b < w.heap.size → ¬ σ.wr E b → ¬ ((σ.setRow d none).newRow r').wr (E.addH (2 * σ.nr + 1) v') b := by
    intro b hlt hnw hq
    rcases hq with ⟨d', bx', hd', he⟩ | ⟨d', r1, hd', he⟩
    · exact hnw (.inl ⟨d', bx', hd', he⟩)
    · by_cases hn : d' = (2 * σ.nr + 1)
      · simp only [Env.addH, hn, if_true] at he
        rcases hat b he with h1 | h1
        · exact hnw (hdw b h1)
        · omega
      · simp only [Env.addH, hn, if_false] at he
        exact hnw (.inr ⟨d', r1, (hl _ _ hd' hn).1, he⟩)
  have hk : ∀ b, b < w.heap.size → some b ≠ (E.hv d).ownBlock → w'.heap[b]? = w.heap[b]? := hg.block
  have hm : ∀ av u, Rep E (σ.wr E) w av u → Rep (E.addH (2 * σ.nr + 1) v') (((σ.setRow d none).newRow r').wr (E.addH (2 * σ.nr + 1) v')) w' av u := fun av u hr =>
    Rep.mono (E := E) rfl rfl rfl (fun d hd => ⟨Or.inl hd, rfl, if_neg (hal d hd)⟩) hg.size (fun b hlt hnw => hk b hlt (fun e => hnw (hdw b e.symm))) hwr hr
  have hvn : ∀ d', d' ≠ (2 * σ.nr + 1) → (E.addH (2 * σ.nr + 1) v').hv d' = E.hv d' := fun d' hn => if_neg hn
  have hvs : (E.addH (2 * σ.nr + 1) v').hv (2 * σ.nr + 1) = v' := if_pos rfl
  refine ⟨h.size, h.defers, hb, h.base, fun d' hd' => ?_, glob_keep (E := E) h.glob (fun b hlt => hk b (Nat.lt_of_lt_of_le hlt (Nat.le_trans (Nat.le_of_eq h.base) h.below.size)) (fun e => by obtain ⟨_, xs2, h2, _⟩ := h.rows d r hd; have := (h2.lt b e.symm).1; omega)), fun t av ht => ?_, fun d' bx hd' => ?_, fun d' r1 hd' => ?_, h.bb, ?_, ?_⟩
  · rcases hd' with hd' | rfl
    · have := h.al d' hd'
      simp only [St.newRow, St.setRow]
      omega
    · simp only [St.newRow, St.setRow]
      omega
  · obtain ⟨u, hu, hr⟩ := h.slots t av ht
    exact ⟨u, hu, hm _ _ hr⟩
  · obtain ⟨h1, h2, arr, h3, h4⟩ := h.boxes d' bx hd'
    refine ⟨Or.inl h1, h2, arr, ?_, h4.mono hm⟩
    rw [show (E.addH (2 * σ.nr + 1) v').blk d' = E.blk d' from rfl, hk _ (Array.getElem?_eq_some_iff.1 h3).1 (fun e => h.br d' d bx r hd' hd e.symm)]
    exact h3
  · by_cases hn : d' = (2 * σ.nr + 1)
    · subst hn
      obtain rfl := hnew r1 hd'
      exact ⟨Or.inr rfl, xs', by rw [hvs]; exact ho, hc.mono hm⟩
    · obtain ⟨hd2, hne⟩ := hl _ _ hd' hn
      obtain ⟨h1, xs, h2, h3⟩ := h.rows d' r1 hd2
      refine ⟨Or.inl h1, xs, ?_, h3.mono hm⟩
      rw [hvn d' hn]
      exact ownsRow_keep h2 (fun b hb => hk b (h2.lt b hb).2 (fun e => hne (h.rr d' d r1 r b hd2 hd hb e.symm)))
  · intro d1 d2 bx r1 h1 h2 he
    by_cases hn : d2 = (2 * σ.nr + 1)
    · subst hn
      rw [hvs] at he
      obtain ⟨_, _, arr', h3, _⟩ := h.boxes d1 bx h1
      have := (Array.getElem?_eq_some_iff.1 h3).1
      rcases hat _ he with h4 | h4
      · exact h.br d1 d bx r h1 hd h4
      · have h5 : (E.addH (2 * σ.nr + 1) v').blk d1 = E.blk d1 := rfl
        omega
    · rw [hvn d2 hn] at he
      exact h.br d1 d2 bx r1 h1 (hl _ _ h2 hn).1 he
  · intro d1 d2 r1 r2 b h1 h2 he1 he2
    by_cases e1 : d1 = (2 * σ.nr + 1) <;> by_cases e2 : d2 = (2 * σ.nr + 1)
    · rw [e1, e2]
    · subst e1
      obtain ⟨h2', hne⟩ := hl _ _ h2 e2
      rw [hvs] at he1
      rw [hvn d2 e2] at he2
      exfalso
      rcases hat b he1 with h4 | h4
      · exact hne (h.rr d2 d r2 r b h2' hd he2 h4)
      · obtain ⟨_, xs, h5, _⟩ := h.rows d2 r2 h2'
        have := (h5.lt b he2).2
        omega
    · subst e2
      obtain ⟨h1', hne⟩ := hl _ _ h1 e1
      rw [hvs] at he2
      rw [hvn d1 e1] at he1
      exfalso
      rcases hat b he2 with h4 | h4
      · exact hne (h.rr d1 d r1 r b h1' hd he1 h4)
      · obtain ⟨_, xs, h5, _⟩ := h.rows d1 r1 h1'
        have := (h5.lt b he1).2
        omega
    · rw [hvn d1 e1] at he1
      rw [hvn d2 e2] at he2
      exact h.rr d1 d2 r1 r2 b (hl _ _ h1 e1).1 (hl _ _ h2 e2).1 he1 he2
/-- append, with where its row lies. -/
theorem run_append_at (w : World) (base : Nat) (t ty e : TypeId) (i : TypeInfo) (z : Value) (size bytes : Nat) (ht : P.underlying t = some (.slice e)) (hi : P.info? e = some i) (hz : i.zero = some z)
    (hsize : i.size = size) (hby : i.bytes = bytes) (hzs : z.cells.size = size) (hsz : 0 < size)
    (v : Value) (n : Nat) (xs : List Value) (hown : w.ownsRow base e size v n xs)
    (a : Addr) (m c : Nat) (news : List Value) (hl : news.length = m * size) (hnews : ∀ j u, news[j]? = some u → w.cell? (a.add j) = some u) (h1 : ∀ u ∈ news, u.oneCell' = true)
    (h63 : n + m ≤ maxLen) (hbytes : (n + m) * bytes ≤ 140737488355328) (hbase : base ≤ w.heap.size) :
    ∃ v' w', (Builtin.append_ #[t, t] ty #[v, .slice (some a) m c]).run P w = .ok v' w' ∧ w'.ownsRow base e size v' (n + m) (xs ++ news) ∧ w.grownBy w' v.ownBlock ∧
      (∀ g, v'.ownBlock = some g → v.ownBlock = some g ∨ w.heap.size ≤ g) := by
  obtain ⟨v', w', hr, h2, h3, _⟩ := run_append_own (P := P) w base t ty e i z size bytes ht hi hz hsize hby hzs hsz v n xs hown a m c news hl hnews h1 h63 hbytes hbase
  refine ⟨v', w', hr, h2, h3, ?_⟩
  have hsmall : n + m ≤ 9223372036854775807 := by simp only [maxLen] at h63; omega
  rcases hown.2 with ⟨rfl, rfl⟩ | ⟨g, cap, cur, rfl, hbg, hg, hnc, hcm, hcs, htake⟩
  · obtain ⟨v2, w2, hr2, h22, _⟩ := run_append_own (P := P) w w.heap.size t ty e i z size bytes ht hi hz hsize hby hzs hsz _ 0 xs ⟨hown.1, .inl ⟨rfl, rfl⟩⟩ a m c news hl hnews h1 h63 hbytes (Nat.le_refl _)
    rw [hr] at hr2
    injection hr2 with e1 e2
    subst e1
    exact fun g hg => Or.inr (h22.lt g hg).1
  · subst hsize
    by_cases hroom : n + m ≤ cap
    · have hfit : n * i.size + news.length ≤ cur.size := by rw [hl, hcs, ← Nat.add_mul]; exact Nat.mul_le_mul_right _ hroom
      have hr2 := run_append_room (P := P) w t ty e i ht hi g n cap cur hg a m c news hl hnews h1 hroom hfit
      rw [hr] at hr2
      injection hr2 with e1 e2
      subst e1
      exact fun g hg => Or.inl hg
    · have holds : ∀ j u, xs[j]? = some u → w.cell? ((⟨g, 0, none⟩ : Addr).add j) = some u := hown.cells (g := g) rfl
      have hr2 := run_append_grow (P := P) w t ty e i z ht hi hz ⟨g, 0, none⟩ n cap xs hown.1 holds a m c news hl hnews (by omega) (by omega) (growslice_fits (by omega) (by rw [hby]; exact hbytes))
      rw [hr] at hr2
      injection hr2 with e1 e2
      subst e1
      intro g' hg'
      right
      simp only [Value.ownBlock, Option.some.injEq] at hg'
      omega
end
end Go.Rk

namespace Go.Rk
open Go.RowKit
inductive TK where
  | int (k : IntKind) | bool | slice (e : TypeId) | struct (fs : List (Nat × TypeId)) | arr (n : Nat) (e : TypeId) | str | other
structure TI where
  k : TK
  size : Nat
  bytes : Nat
  zero : List Value
def TK.isAgg : TK → Bool
  | .struct _ | .arr _ _ => true
  | _ => false
inductive XK where
  | add64 | sub64
structure Ctx where
  P : Program
  G : World → Prop
  T : TypeId → Option TI
  X : FuncId → Option XK
  gl : List (Nat × List Value)
def TK.fits (P : Program) (t : TypeId) : TK → Prop
  | .int k => P.underlying t = some (.int k)
  | .bool => P.underlying t = some .bool
  | .slice e => P.underlying t = some (.slice e)
  | .struct fs => ∃ fields : Array Field, P.underlying t = some (.struct fields) ∧ fields.toList.map (fun f => (f.offset, f.type)) = fs ∧ fields.toList.all (fun f => (P.info? f.type).isSome) = true
  | .arr n e => P.underlying t = some (.array n e)
  | .str => P.underlying t = some .string
  | .other => ∃ d, P.underlying t = some d ∧ (match d with | .struct _ | .array _ _ => false | _ => true) = true
structure TFit (P : Program) (t : TypeId) (i : TI) : Prop where
  info : ∃ inf z, P.info? t = some inf ∧ inf.size = i.size ∧ inf.bytes = i.bytes ∧ inf.zero = some z ∧ z.cells.toList = i.zero ∧ (i.k.isAgg = true → ∃ cs, z = .agg cs)
  zlen : i.zero.length = i.size
  zone : i.zero.all Value.oneCell' = true
  under : i.k.fits P t
structure Ctx.Ok (C : Ctx) : Prop where
  T : ∀ t i, C.T t = some i → TFit C.P t i
  G : ∀ w w', C.G w → Below w.heap.size w w' → C.G w'
def St.ev (σ : St) : Operand → Option AV
  | .tmp t => look t σ.slots
  | .const v => some (.val v)
  | .func f => some (.val (.func (.func f) #[] #[]))
  | .global g => (look g σ.gl).map fun vs => .radd false (vs.map .val) 0
/-- What a binary operation of plain values gives. -/
def intW (op : BinOp) (k : IntKind) (a b : Int) (K : Value → Prop) : Prop :=
  match op with
  | .add => K (.int k (k.wrap (a + b)))
  | .sub => K (.int k (k.wrap (a - b)))
  | .mul => K (.int k (k.wrap (a * b)))
  | .quo => b ≠ 0 ∧ K (.int k (k.wrap (a.tdiv b)))
  | .rem => b ≠ 0 ∧ K (.int k (a.tmod b))
  | .and => K (.int k (bits .and k a b))
  | .or => K (.int k (bits .or k a b))
  | .xor => K (.int k (bits .xor k a b))
  | .andNot => K (.int k (bits .andNot k a b))
  | .eql => K (.bool (a == b))
  | .neq => K (.bool (a != b))
  | .lss => K (.bool (decide (a < b)))
  | .leq => K (.bool (decide (a ≤ b)))
  | .gtr => K (.bool (decide (a > b)))
  | .geq => K (.bool (decide (a ≥ b)))
  | _ => False
def binW (op : BinOp) (x y : Value) (K : Value → Prop) : Prop :=
  match op, x, y with
  | .shl, .int k a, .int _ b => 0 ≤ b ∧ K (.int k (k.wrap (a * 2 ^ min b.toNat k.bits)))
  | .shr, .int k a, .int _ b => 0 ≤ b ∧ K (.int k (a / 2 ^ min b.toNat k.bits))
  | op, .int k a, .int k' b => k = k' ∧ intW op k a b K
  | .eql, .bool a, .bool b => K (.bool (a == b))
  | .neq, .bool a, .bool b => K (.bool (a != b))
  | _, _, _ => False
end Go.Rk

namespace Go.Rk
open Go.RowKit
variable {P : Program} {w : World}
theorem fdiv_two_pow (a : Int) (n : Nat) : a.fdiv (2 ^ n) = a / 2 ^ n := by
  rw [Int.fdiv_eq_ediv_of_nonneg _ (Int.le_of_lt (Int.pow_pos (by decide)))]
theorem eqGuard_int (op : BinOp) (t : TypeId) (x y : Operand) (k k' : IntKind) (p q : Int) : (eqGuard op t x y (.int k p) (.int k' q)).run P w = .ok () w := by
  cases op <;> simp [eqGuard]
theorem eqGuard_bool (op : BinOp) (t : TypeId) (x y : Operand) (p q : Bool) : (eqGuard op t x y (.bool p) (.bool q)).run P w = .ok () w := by
  cases op <;> simp [eqGuard]
theorem binW_run {op : BinOp} {t : TypeId} {x y : Operand} {a b : Value} {K : Value → Prop} (hb : ∀ p q, a = .bool p → b = .bool q → P.underlying t = some .bool) (h : binW op a b K) :
    ∃ v, (do eqGuard op t x y a b; binOp op t a b : Sem Value).run P w = .ok v w ∧ K v ∧ v.oneCell' = true := by
  cases a with
  | int k p =>
    cases b with
    | int k' q =>
      rw [Sem.run_bind, eqGuard_int, Result.andThen_ok]
      cases op
      all_goals simp only [binW, intW] at h
      case shl =>
        refine ⟨_, ?_, h.2, rfl⟩
        simp [binOp, Op.shift, Int.not_lt.2 h.1]
      case shr =>
        refine ⟨_, ?_, h.2, rfl⟩
        simp [binOp, Op.shift, Int.not_lt.2 h.1, fdiv_two_pow]
      all_goals obtain ⟨rfl, h⟩ := h
      case quo =>
        refine ⟨_, ?_, h.2, rfl⟩
        simp [binOp, Op.intDiv, h.1]
      case rem =>
        refine ⟨_, ?_, h.2, rfl⟩
        simp [binOp, Op.intDiv, h.1]
      all_goals
        refine ⟨_, ?_, h, rfl⟩
        simp [binOp, Op.intArith, Op.intBits, Op.intCmp, bits]
    | _ => cases op <;> exact h.elim
  | bool p =>
    cases b with
    | bool q =>
      have hu := hb p q rfl rfl
      rw [Sem.run_bind, eqGuard_bool, Result.andThen_ok]
      cases op <;> simp only [binW] at h
      case eql => exact ⟨_, run_eql_bool w t p q hu, h, rfl⟩
      case neq => exact ⟨.bool (p != q), run_neq_bool w t p q hu, h, rfl⟩
    | _ => cases op <;> exact h.elim
  | _ => cases op <;> exact h.elim
end Go.Rk

namespace Go.Rk
open Go.RowKit
def onO {α : Type} : Option α → (α → Prop) → Prop
  | some a, K => K a
  | none, _ => False
def AV.closed : AV → Bool
  | .val _ => true
  | .row _ _ cells => closed.l cells
  | .radd _ cells _ => closed.l cells
  | .agg cells => closed.l cells
  | .tup cells => closed.l cells
  | .clo _ cells => closed.l cells
  | _ => false
  where closed.l : List AV → Bool
  | [] => true
  | a :: l => a.closed && closed.l l
def Ctx.gb (C : Ctx) (b : Nat) : Prop := ∃ vs, look b C.gl = some vs
def Env.out (gb : Nat → Prop) (n : Nat) (S : Nat → Prop) : Env := { B := n, S := S, gb := gb, al := fun _ => False, blk := fun _ => 0, hv := fun _ => undef }
/-- The function f, called with args, hands back r, makes new memory alone, and turns nothing that was there. -/
structure ACalls (C : Ctx) (f : FuncId) (args : List AV) (r : AV) : Prop where
  ent : ∀ (w : World) (vals : Array Value), (callFunc f vals).run C.P w = .ok (.enter f vals) w
  calls : ∀ (w : World) (S : Nat → Prop) (vals : Array Value), C.G w → vals.size = args.length →
    (∀ j (h : j < args.length) (h' : j < vals.size), Rep (Env.out C.gb w.heap.size S) (fun _ => False) w (args[j]) (vals[j])) →
    Calls C.P f vals w fun e w' => ∃ v, e = .returned v ∧ Below w.heap.size w w' ∧ Rep (Env.out C.gb w.heap.size S) (fun _ => False) w' r v
def cellsOf : AV → Option (List AV)
  | .agg cs => some cs
  | .tup _ => none
  | a => if a.one = true then some [a] else none
def frzW (σ : St) (av : AV) (K : AV → St → Prop) : Prop :=
  match av with
  | .own d => match look d σ.rows with
    | some (some r) => K (.row true r.n r.cells) (σ.setRow d none)
    | _ => False
  | .sub _ _ _ => False
  | av => K av σ
def updC (cells : List AV) (off : Nat) : List AV → List AV
  | [] => cells
  | x :: xs => updC (cells.set off x) (off + 1) xs
def rowW (σ : St) (av : AV) (K : Nat → List AV → Prop) : Prop :=
  match av with
  | .val (.slice none 0 0) => K 0 []
  | .row _ n cells => K n cells
  | .own d => match look d σ.rows with
    | some (some r) => K r.n r.cells
    | _ => False
  | .sub d off n => match look d σ.rows with
    | some (some r) => off + n * r.sz ≤ r.cells.length ∧ K n ((r.cells.drop off).take (n * r.sz))
    | _ => False
  | _ => False
def loadW (C : Ctx) (t : TypeId) (cells : List AV) (off : Nat) (K : AV → Prop) : Prop :=
  onO (C.T t) fun i => match i.k.isAgg with
    | true => off + i.size ≤ cells.length ∧ K (.agg ((cells.drop off).take i.size))
    | false => onO (cells[off]?) K
def ldW (C : Ctx) (σ : St) (t : TypeId) (p : AV) (K : AV → Prop) : Prop :=
  match p with
  | .ptr d off => onO (look d σ.boxes) fun bx => loadW C t bx.cells off K
  | .radd _ cells off => loadW C t cells off K
  | .addr d off => match look d σ.rows with
    | some (some r) => loadW C t r.cells off K
    | _ => False
  | _ => False
def stW (C : Ctx) (σ : St) (t : TypeId) (p x : AV) (K : St → Prop) : Prop :=
  frzW σ x fun x' σ' => onO (cellsOf x') fun xs => onO (C.T t) fun i => xs.length = i.size ∧
    match p with
    | .ptr d off => onO (look d σ'.boxes) fun bx => off + xs.length ≤ bx.cells.length ∧ K (σ'.setBox d ⟨bx.ty, updC bx.cells off xs⟩)
    | .addr d off => match look d σ'.rows with
      | some (some r) => off + xs.length ≤ r.cells.length ∧ K (σ'.setRow d (some { r with cells := updC r.cells off xs }))
      | _ => False
    | _ => False
def frzL (σ : St) : List (Nat × Operand) → (List (Nat × AV) → St → Prop) → Prop
  | [], K => K [] σ
  | p :: l, K => onO (σ.ev p.2) fun av => frzW σ av fun av' σ' => frzL σ' l fun ps σ'' => K ((p.1, av') :: ps) σ''
def fillW (C : Ctx) (fs : List (Nat × TypeId)) (cells : List AV) : List (Nat × AV) → (List AV → Prop) → Prop
  | [], K => K cells
  | p :: l, K => onO (fs[p.1]?) fun f => onO (C.T f.2) fun i => onO (cellsOf p.2) fun xs => xs.length = i.size ∧ f.1 + xs.length ≤ cells.length ∧ fillW C fs (updC cells f.1 xs) l K
/-- The elements of a literal, in order. -/
def litW (size : Nat) (j : Nat) : List (Nat × AV) → (List AV → Prop) → Prop
  | [], K => K []
  | p :: l, K => p.1 = j ∧ onO (cellsOf p.2) fun xs => xs.length = size ∧ litW size (j + 1) l fun cs => K (xs ++ cs)
def idxW (C : Ctx) (σ : St) (t : TypeId) (x : AV) (i : Int) (K : AV → Prop) : Prop :=
  onO (C.T t) fun ti => match ti.k with
    | .slice e => onO (C.T e) fun ei => match x with
      | .row fr n cells => 0 ≤ i ∧ i < n ∧ i.toNat * ei.size < cells.length ∧ K (.radd fr cells (i.toNat * ei.size))
      | .own d => match look d σ.rows with
        | some (some r) => 0 ≤ i ∧ i < r.n ∧ r.sz = ei.size ∧ K (.addr d (i.toNat * ei.size))
        | _ => False
      | .sub d off n => match look d σ.rows with
        | some (some r) => 0 ≤ i ∧ i < n ∧ r.sz = ei.size ∧ K (.addr d (off + i.toNat * ei.size))
        | _ => False
      | _ => False
    | .arr n e => onO (C.T e) fun ei => match x with
      | .ptr d off => 0 ≤ i ∧ i < n ∧ K (.ptr d (off + i.toNat * ei.size))
      | .radd fr cells off => 0 ≤ i ∧ i < n ∧ K (.radd fr cells (off + i.toNat * ei.size))
      | _ => False
    | _ => False
def onI (av : AV) (K : IntKind → Int → Prop) : Prop :=
  match av with
  | .val (.int k n) => K k n
  | _ => False
/-- A bound of a slice expression; where there is none: d. -/
def bndW (σ : St) (x : Option Operand) (d : Nat) (K : Nat → Prop) : Prop :=
  match x with
  | none => K d
  | some o => onO (σ.ev o) fun av => onI av fun _ n => 0 ≤ n ∧ K n.toNat
def cutW (C : Ctx) (σ : St) (t : TypeId) (x : AV) (lo hi mx : Option Operand) (K : AV → Prop) : Prop :=
  onO (C.T t) fun ti => match ti.k with
    | .slice e => onO (C.T e) fun ei =>
      match x with
      | .row fr n cells => bndW σ hi n fun h => bndW σ mx n fun m => bndW σ lo 0 fun l => (mx.isSome = true → hi.isSome = true) ∧ l ≤ h ∧ h ≤ m ∧ m ≤ n ∧ K (.row fr (h - l) ((cells.drop (l * ei.size)).take ((h - l) * ei.size)))
      | .own d => match look d σ.rows with
        | some (some r) => bndW σ hi r.n fun h => bndW σ lo 0 fun l => mx = none ∧ l ≤ h ∧ h ≤ r.n ∧ r.sz = ei.size ∧ K (.sub d (l * ei.size) (h - l))
        | _ => False
      | .sub d off n => match look d σ.rows with
        | some (some r) => bndW σ hi n fun h => bndW σ lo 0 fun l => mx = none ∧ l ≤ h ∧ h ≤ n ∧ r.sz = ei.size ∧ K (.sub d (off + l * ei.size) (h - l))
        | _ => False
      | .val (.slice none 0 0) => bndW σ hi 0 fun h => bndW σ mx 0 fun m => bndW σ lo 0 fun l => (mx.isSome = true → hi.isSome = true) ∧ l ≤ h ∧ h ≤ m ∧ m ≤ 0 ∧ K (.val (.slice none 0 0))
      | _ => False
    | _ => False
def fldW (C : Ctx) (t : TypeId) (j : Nat) (K : Nat → TI → Prop) : Prop :=
  onO (C.T t) fun ti => match ti.k with
    | .struct fs => onO (fs[j]?) fun f => onO (C.T f.2) fun fi => K f.1 fi
    | _ => False
def fadW (C : Ctx) (t : TypeId) (x : AV) (j : Nat) (K : AV → Prop) : Prop :=
  fldW C t j fun off fi => fi.size ≠ 0 ∧ match x with
    | .ptr d o => K (.ptr d (o + off))
    | .addr d o => K (.addr d (o + off))
    | .radd fr cells o => K (.radd fr cells (o + off))
    | _ => False
def partW (C : Ctx) (t : TypeId) (x : AV) (j : Nat) (K : AV → Prop) : Prop :=
  fldW C t j fun off fi => match x with
    | .agg cells => match fi.k.isAgg with
      | true => off + fi.size ≤ cells.length ∧ K (.agg ((cells.drop off).take fi.size))
      | false => onO (cells[off]?) K
    | _ => False
/-- An argument as the callee sees it; was it a row of the call's own? -/
def cvtW (σ : St) (av : AV) (K : AV → Bool → Prop) : Prop :=
  match av with
  | .own d => match look d σ.rows with
    | some (some r) => AV.closed.closed.l r.cells = true ∧ K (.row false r.n (AV.unt.unt.l r.cells)) true
    | _ => False
  | .sub d off n => match look d σ.rows with
    | some (some r) => off + n * r.sz ≤ r.cells.length ∧ AV.closed.closed.l r.cells = true ∧ K (.row false n (((AV.unt.unt.l r.cells).drop off).take (n * r.sz))) true
    | _ => False
  | .ptr d off => onO (look d σ.boxes) fun bx => AV.closed.closed.l bx.cells = true ∧ K (.radd false (AV.unt.unt.l bx.cells) off) true
  | av => av.closed = true ∧ K av.unt false
def argsW (σ : St) : List Operand → (List AV → Bool → Prop) → Prop
  | [], K => K [] false
  | x :: l, K => onO (σ.ev x) fun av => cvtW σ av fun av' o => argsW σ l fun avs o' => K (av' :: avs) (o || o')
def capsW (σ : St) : List AV → (List AV → Bool → Prop) → Prop
  | [], K => K [] false
  | av :: l, K => cvtW σ av fun av' o => capsW σ l fun avs o' => K (av' :: avs) (o || o')
def w64 (x : Int) : AV := .val (.int .u64 x)
def XK.fst : XK → Int → Int → Int → Int
  | .add64, a, b, c => (a + b + c) % 18446744073709551616
  | .sub64, a, b, c => (a - b - c) % 18446744073709551616
def XK.snd : XK → Int → Int → Int → Int
  | .add64, a, b, c => (a + b + c) / 18446744073709551616
  | .sub64, a, b, c => if a < b + c then 1 else 0
def xW (x : XK) (args : List AV) (K : AV → Prop) : Prop :=
  match args with
  | [.val (.int .u64 a), .val (.int .u64 b), .val (.int .u64 c)] => (0 ≤ a ∧ a < 18446744073709551616) ∧ (0 ≤ b ∧ b < 18446744073709551616) ∧ (0 ≤ c ∧ c ≤ 1) ∧ K (.tup [w64 (x.fst a b c), w64 (x.snd a b c)])
  | _ => False
structure Ctx.Okx (C : Ctx) : Prop extends C.Ok where
  gl : ∀ w, C.G w → ∀ g vs, look g C.gl = some vs → g < w.heap.size ∧ ∀ j (h : j < vs.length), w.cell? ⟨g, j, none⟩ = some vs[j] ∧ (vs[j]).oneCell' = true
  X : ∀ f x, C.X f = some x → ∀ (w : World) (a b c : Int), (0 ≤ a ∧ a < 18446744073709551616) → (0 ≤ b ∧ b < 18446744073709551616) → (0 ≤ c ∧ c ≤ 1) →
    (callFunc f #[.int .u64 a, .int .u64 b, .int .u64 c]).run C.P w = .ok (.value (.tuple #[.int .u64 (x.fst a b c), .int .u64 (x.snd a b c)])) w
def callW (C : Ctx) (f : FuncId) (args : List AV) (owned : Bool) (K : AV → Prop) : Prop :=
  match C.X f with
  | some x => xW x args K
  | none => ∃ r, ACalls C f args r ∧ (owned = true → r.fresh = true) ∧ K r
def mx2 (a b : Int) : Int := if b > a then b else a
def mn2 (a b : Int) : Int := if b < a then b else a
def foldI (f : Int → Int → Int) (k : IntKind) (acc : Int) : List AV → (Int → Prop) → Prop
  | [], K => K acc
  | av :: l, K => onI av fun k' n => k' = k ∧ foldI f k (f acc n) l K
def evL (σ : St) : List Operand → (List AV → Prop) → Prop
  | [], K => K []
  | x :: l, K => onO (σ.ev x) fun av => evL σ l fun avs => K (av :: avs)
def appW (C : Ctx) (σ : St) (dst : Option Nat) (t : TypeId) (s x : AV) (K : St → Prop) : Prop :=
  onO (C.T t) fun ti => match ti.k with
    | .slice e => onO (C.T e) fun ei => rowW σ x fun m news => 0 < ei.size ∧ news.length = m * ei.size ∧
      match s with
      | .val (.slice none 0 0) => m * ei.bytes ≤ 140737488355328 ∧ m ≤ 9223372036854775807 ∧ K ((σ.newRow ⟨e, ei.size, m, news⟩).put dst (.own (2 * σ.nr + 1)))
      | .own d => match look d σ.rows with
        | some (some r) => r.e = e ∧ r.sz = ei.size ∧ (r.n + m) * ei.bytes ≤ 140737488355328 ∧ r.n + m ≤ 9223372036854775807 ∧ K (((σ.setRow d none).newRow ⟨e, ei.size, r.n + m, r.cells ++ news⟩).put dst (.own (2 * σ.nr + 1)))
        | _ => False
      | _ => False
    | _ => False
def bltW (C : Ctx) (σ : St) (dst : Option Nat) (b : Builtin) (ts : Array TypeId) (args : List AV) (K : St → Prop) : Prop :=
  match b, args with
  | .len, [x] => rowW σ x fun n _ => (∃ t, ts[0]? = some t ∧ ∃ i, C.T t = some i ∧ ∃ e, i.k = .slice e) ∧ K (σ.put dst (.val (.int .i64 n)))
  | .max, x :: l => onI x fun k n => foldI mx2 k n l fun r => K (σ.put dst (.val (.int k r)))
  | .min, x :: l => onI x fun k n => foldI mn2 k n l fun r => K (σ.put dst (.val (.int k r)))
  | .append, [s, x] => onO (ts[0]?) fun t => ts = #[t, t] ∧ appW C σ dst t s x K
  | _, _ => False
/-- What an operation comes to. -/
def opW (C : Ctx) (o : Oper) (σ : St) (K : St → Prop) : Prop :=
  match o.op with
  | .move x | .assign x => onO (σ.ev x) fun av => K (σ.put o.dst av)
  | .pick c a b => onO (σ.ev c) fun cv => match cv with
    | .val (.bool t) => (t = true → onO (σ.ev a) fun av => K (σ.put o.dst av)) ∧ (t = false → onO (σ.ev b) fun av => K (σ.put o.dst av))
    | _ => False
  | .alloc e => onO (C.T e) fun i => K ((σ.newBox ⟨e, i.zero.map .val⟩).put o.dst (.ptr (2 * σ.nb) 0))
  | .box e x => onO (σ.ev x) fun av => frzW σ av fun av' σ' => onO (cellsOf av') fun cs => K ((σ'.newBox ⟨e, cs⟩).put o.dst (.ptr (2 * σ'.nb) 0))
  | .build t parts => onO (C.T t) fun i => match i.k with
    | .struct fs => frzL σ parts.toList fun ps σ' => fillW C fs (i.zero.map .val) ps fun cells => K (σ'.put o.dst (.agg cells))
    | _ => False
  | .buildSlice t len parts => onO (C.T t) fun i => match i.k with
    | .slice e => onO (C.T e) fun ei => frzL σ parts.toList fun ps σ' => ps.length = len ∧ len * ei.size ≤ 16777216 ∧ 0 < ei.size ∧ litW ei.size 0 ps fun cells => K ((σ'.newRow ⟨e, ei.size, len, cells⟩).put o.dst (.own (2 * σ'.nr + 1)))
    | _ => False
  | .load t p => onO (σ.ev p) fun pv => ldW C σ t pv fun av => K (σ.put o.dst av)
  | .store t p x => onO (σ.ev p) fun pv => onO (σ.ev x) fun xv => stW C σ t pv xv fun σ' => K (σ'.put o.dst (.val undef))
  | .nilCheck x => onO (σ.ev x) fun av => match av with
    | .ptr _ _ | .addr _ _ | .radd _ _ _ | .clo _ _ | .val (.func (.func _) _ _) => K (σ.put o.dst av)
    | _ => False
  | .binOp op t x y _ => onO (σ.ev x) fun xv => onO (σ.ev y) fun yv => match xv, yv with
    | .val a, .val b => ((match a with | .bool _ => true | _ => false) = true → ∃ i, C.T t = some i ∧ i.k = .bool) ∧ binW op a b fun v => K (σ.put o.dst (.val v))
    | _, _ => False
  | .unOp op _ x => onO (σ.ev x) fun xv => match op, xv with
    | .neg, .val (.int k n) => K (σ.put o.dst (.val (.int k (k.wrap (0 - n)))))
    | .not, .val (.bool b) => K (σ.put o.dst (.val (.bool !b)))
    | .xor, .val (.int k n) => K (σ.put o.dst (.val (.int k (bits .xor k (if k.signed then -1 else k.max) n))))
    | _, _ => False
  | .convert st dt x => onO (C.T st) fun _ => onO (σ.ev x) fun xv => onI xv fun _ n => onO (C.T dt) fun i => match i.k with
    | .int k => K (σ.put o.dst (.val (.int k (k.wrap n))))
    | _ => False
  | .makeFunc (.func f) first caps => first = #[] ∧ evL σ caps.toList fun cs => K (σ.put o.dst (.clo f cs))
  | .makeSlice t l c => onO (σ.ev l) fun lv => onI lv fun k n => onO (σ.ev c) fun cv => onI cv fun k' n' => k = .i64 ∧ k' = .i64 ∧ n' = n ∧ onO (C.T t) fun i => match i.k with
    | .slice e => onO (C.T e) fun ei => match ei.zero with
      | [z] => 0 ≤ n ∧ n ≤ 9223372036854775807 ∧ n.toNat * ei.bytes ≤ 140737488355328 ∧ K ((σ.newRow ⟨e, 1, n.toNat, List.replicate n.toNat (.val z)⟩).put o.dst (.own (2 * σ.nr + 1)))
      | _ => False
    | _ => False
  | .slice t x lo hi mx => onO (σ.ev x) fun xv => cutW C σ t xv lo hi mx fun av => K (σ.put o.dst av)
  | .fieldAddr t x j => onO (σ.ev x) fun xv => fadW C t xv j fun av => K (σ.put o.dst av)
  | .field t x j => onO (σ.ev x) fun xv => partW C t xv j fun av => K (σ.put o.dst av)
  | .indexAddr t x i => onO (σ.ev x) fun xv => onO (σ.ev i) fun iv => onI iv fun _ n => idxW C σ t xv n fun av => K (σ.put o.dst av)
  | .index t x i => onO (C.T t) fun ti => onO (σ.ev x) fun xv => onO (σ.ev i) fun iv => onI iv fun _ n => match ti.k, xv with
    | .str, .val (.string s) => 0 ≤ n ∧ onO (s[n.toNat]?) fun b => K (σ.put o.dst (.val (.int .u8 b.toNat)))
    | _, _ => False
  | .extract x j => onO (σ.ev x) fun xv => match xv with
    | .tup vs => onO (vs[j]?) fun av => K (σ.put o.dst av)
    | _ => False
  | .call c => match c.callee with
    | .value f => onO (σ.ev f) fun fv => argsW σ c.args.toList fun args ow => match fv with
      | .val (.func (.func g) fi ca) => fi = #[] ∧ ca = #[] ∧ callW C g args ow fun r => K (σ.put o.dst r)
      | .clo g caps => capsW σ caps fun cs ow' => callW C g (args ++ cs) (ow || ow') fun r => K (σ.put o.dst r)
      | _ => False
    | .builtin b => evL σ c.args.toList fun args => bltW C σ o.dst b c.argTypes args K
    | _ => False
  | _ => False
end Go.Rk

namespace Go.Rk
open Go.RowKit
variable {C : Ctx} {w0 w w' : World} {N : Nat} {E : Env} {σ : St} {a : Act}
def Nxt (w0 : World) (N : Nat) (E : Env) (K : St → Prop) (a : Act) (w : World) : Prop := ∃ E' σ', K σ' ∧ Rel w0 N E' σ' a w ∧ E'.B = E.B ∧ E'.S = E.S ∧ E'.gb = E.gb
theorem Rel.nxt {K : St → Prop} (h : Rel w0 N E σ a w) (hk : K σ) : Nxt w0 N E K a w := ⟨E, σ, hk, h, rfl, rfl, rfl⟩
theorem Rel.nxtB {K : St → Prop} {n b : Nat} (h : Rel w0 N (E.addB n b) σ a w) (hk : K σ) : Nxt w0 N E K a w := ⟨_, σ, hk, h, rfl, rfl, rfl⟩
theorem Rel.nxtH {K : St → Prop} {n : Nat} {v : Value} (h : Rel w0 N (E.addH n v) σ a w) (hk : K σ) : Nxt w0 N E K a w := ⟨_, σ, hk, h, rfl, rfl, rfl⟩
theorem onO_some {α : Type} {o : Option α} {K : α → Prop} (h : onO o K) : ∃ x, o = some x ∧ K x := by
  cases o with
  | none => exact h.elim
  | some x => exact ⟨x, rfl, h⟩
theorem Rel.ev (h : Rel w0 N E σ a w) {x : Operand} {av : AV} (he : σ.ev x = some av) : Rep E (σ.wr E) w av (a.eval x) := by
  cases x with
  | tmp t =>
    obtain ⟨v, hv, hr⟩ := h.slots t av he
    have : a.eval (.tmp t) = v := by simp [Act.eval, hv]
    rw [this]; exact hr
  | const v =>
    simp only [St.ev, Option.some.injEq] at he
    subst he
    exact .val v
  | func f =>
    simp only [St.ev, Option.some.injEq] at he
    subst he
    exact .val _
  | global g =>
    simp only [St.ev] at he
    cases hg : look g σ.gl with
    | none => rw [hg] at he; cases he
    | some vs =>
      rw [hg] at he
      injection he with he
      subst he
      obtain ⟨h1, h2, h3⟩ := h.glob.2 g vs hg
      have hlt : g < w.heap.size := Nat.lt_of_lt_of_le h2 (Nat.le_trans (Nat.le_of_eq h.base) h.below.size)
      have := Rep.radd (E := E) (Wr := σ.wr E) (w := w) (fr := false) (off := 0) (cells := vs.map .val) g 0 (fun j => vs.getD j undef) ⟨(fun h => nomatch h), Or.inr (Or.inr h1), hlt, fun hw => by have := (h.wr_lt hw).1; omega⟩
        (fun j hj => by
          simp only [List.length_map] at hj
          rw [Nat.zero_add, List.getD_eq_getElem?_getD, List.getElem?_eq_getElem hj]
          exact (h3 j hj).1) (fun j hj => by
          simp only [List.length_map] at hj
          simp only [List.getElem_map, AV.one]
          exact (h3 j hj).2) (fun j hj => by
          simp only [List.length_map] at hj
          simp only [List.getElem_map, List.getD_eq_getElem?_getD, List.getElem?_eq_getElem hj, Option.getD_some]
          exact .val _)
      exact this
theorem wp_value {o : Oper} {Q : Exit → Act → World → Prop} {next : Act → World → Prop} {v : Value} (hr : (execOp a.eval o).run C.P w = .ok (.value v) w') (h : next (a.put o.dst v) w') : Oper.wp C.P o a w next Q := by
  unfold Oper.wp
  rw [hr]
  exact h
theorem wp_skip' {o : Oper} {Q : Exit → Act → World → Prop} {next : Act → World → Prop} (hr : (execOp a.eval o).run C.P w = .ok .skip w') (h : next (a.put o.dst undef) w') : Oper.wp C.P o a w next Q := by
  unfold Oper.wp
  rw [hr]
  exact h
theorem RepL.one1 {E : Env} {Wr : Nat → Prop} {av : AV} {v : Value} (h : Rep E Wr w av v) (h1 : av.one = true) : RepL E Wr w [av] [v] :=
  ⟨rfl, fun j hj => by simp at hj; subst hj; exact h1, fun j hj hj' => by simp at hj; subst hj; exact h⟩
theorem cells_one {v : Value} (h : v.oneCell' = true) : v.cells.toList = [v] := by cases v <;> first | rfl | simp [Value.oneCell'] at h
theorem RepL.ofArr {E : Env} {Wr : Nat → Prop} {cells : List AV} {arr : Array Value} (hs : arr.size = cells.length) (h1 : ∀ j (h : j < cells.length), (cells[j]).one = true)
    (hr : ∀ j (h : j < cells.length) (h' : j < arr.size), Rep E Wr w (cells[j]) (arr[j])) : RepL E Wr w cells arr.toList :=
  ⟨by simpa using hs, h1, fun j hj hj' => by rw [Array.getElem_toList]; exact hr j hj (by simpa using hj')⟩
theorem Rep.cells {E : Env} {Wr : Nat → Prop} {av : AV} {v : Value} {cs : List AV} (h : Rep E Wr w av v) (hc : cellsOf av = some cs) : RepL E Wr w cs v.cells.toList := by
  have gen : av.one = true → cs = [av] → RepL E Wr w cs v.cells.toList := fun h1 h2 => by
    rw [h2, cells_one (h.oneCell h1)]; exact .one1 h h1
  cases av with
  | agg cells =>
    simp only [cellsOf, Option.some.injEq] at hc
    subst hc
    cases h with
    | agg hs h1 hr => exact RepL.ofArr hs h1 hr
  | tup ps => cases hc
  | _ =>
    simp only [cellsOf] at hc
    split at hc
    · rename_i h1
      exact gen h1 (by simpa using hc.symm)
    · cases hc
theorem RepL.vals {E : Env} {Wr : Nat → Prop} {l : List Value} (h : l.all Value.oneCell' = true) : RepL E Wr w (l.map .val) l :=
  ⟨by simp, fun j hj => by
    simp only [List.length_map] at hj
    simp only [List.getElem_map, AV.one]
    exact List.all_eq_true.1 h _ (List.getElem_mem hj), fun j hj hj' => by simp only [List.getElem_map]; exact .val _⟩
theorem Rep.shrink {E : Env} {Wr Wr' : Nat → Prop} (hw : ∀ b, Wr' b → Wr b) {av : AV} {v : Value} (h : Rep E Wr w av v) : Rep E Wr' w av v :=
  Rep.mono (E := E) rfl rfl rfl (fun _ hd => ⟨hd, rfl, rfl⟩) (Nat.le_refl _) (fun _ _ _ => rfl) (fun b _ hb hq => hb (hw b hq)) h
theorem wr_kill (σ : St) (E : Env) (d : Nat) : ∀ b, (σ.setRow d none).wr E b → σ.wr E b := by
  intro b hq
  rcases hq with ⟨d', bx', hd', he⟩ | ⟨d', r', hd', he⟩
  · exact .inl ⟨d', bx', hd', he⟩
  · simp only [St.setRow, look_cons] at hd'
    by_cases e : d' = d
    · rw [if_pos e] at hd'
      injection hd' with hd'
      cases hd'
    · rw [if_neg e] at hd'
      exact .inr ⟨d', r', hd', he⟩
/-- A value that is laid down is only read. -/
theorem Rel.frz (h : Rel w0 N E σ a w) {av : AV} {v : Value} {K : AV → St → Prop} (hr : Rep E (σ.wr E) w av v) (hk : frzW σ av K) :
    ∃ av' σ', K av' σ' ∧ Rel w0 N E σ' a w ∧ Rep E (σ'.wr E) w av' v ∧ ∀ b, σ'.wr E b → σ.wr E b := by
  cases av with
  | own d =>
    simp only [frzW] at hk
    cases hd : look d σ.rows with
    | none => rw [hd] at hk; exact hk.elim
    | some o =>
      cases o with
      | none => rw [hd] at hk; exact hk.elim
      | some r =>
        rw [hd] at hk
        cases hr with
        | own h1 => exact ⟨_, _, hk, h.kill d, h.killed hd, wr_kill σ E d⟩
  | sub d off n => exact hk.elim
  | _ => exact ⟨_, _, hk, h, hr, fun _ hb => hb⟩
theorem T_size (hC : C.Ok) {t : TypeId} {i : TI} (h : C.T t = some i) (w : World) : (sizeOf t).run C.P w = .ok i.size w := by
  obtain ⟨inf, z, h1, h2, _⟩ := (hC.T t i h).info
  simp [sizeOf, typeInfo, h1, h2]
theorem T_under (hC : C.Ok) {t : TypeId} {i : TI} (h : C.T t = some i) : ∃ d, C.P.underlying t = some d ∧ (match d with | .struct _ | .array _ _ => true | _ => false) = i.k.isAgg := by
  have := (hC.T t i h).under
  cases hk : i.k <;> rw [hk] at this <;> simp only [TK.fits] at this
  case struct fs => obtain ⟨f, h1, _⟩ := this; exact ⟨_, h1, rfl⟩
  case other =>
    obtain ⟨d, h1, h2⟩ := this
    refine ⟨d, h1, ?_⟩
    cases d <;> simp_all [TK.isAgg]
  all_goals exact ⟨_, this, rfl⟩
theorem T_isAgg (hC : C.Ok) {t : TypeId} {i : TI} (h : C.T t = some i) (w : World) : (isAgg t).run C.P w = .ok i.k.isAgg w := by
  obtain ⟨d, h1, h2⟩ := T_under hC h
  unfold isAgg
  rw [Sem.run_bind, run_underlying h1 w, Result.andThen_ok, ← h2]
  cases d <;> rfl
theorem T_zero (hC : C.Ok) {t : TypeId} {i : TI} (h : C.T t = some i) (w : World) : ∃ z, (zeroValue t).run C.P w = .ok z w ∧ z.cells.toList = i.zero := by
  obtain ⟨inf, z, h1, _, _, h4, h5, _⟩ := (hC.T t i h).info
  exact ⟨z, by simp [zeroValue, typeInfo, h1, h4], h5⟩
end Go.Rk
