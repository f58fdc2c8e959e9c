/- DecdivLarge, the tied card: for every context and all Decs x and y the law answers true and leaves its arguments as they were, for a Dec with too many words gives ErrSize from each of the seven functions. Conditions: none beyond the given statement (part 8 of 8) -/
import Derived.Test.YtilkfpaelkekfaaDoorK06
import Derived.Deep.Slices
import Derived.Test.YtilkfpaelkekfaaDoorCards
import Derived.SevenTiedAt
set_option linter.unusedVariables false
set_option maxRecDepth 100000
namespace Go.Rk
open Go.RowKit Go.Proofs Go.Proofs.YtilkfpaelkekfaaDoor Go.Deep
section
variable {H : Type} {enc : TypeId × Value → H} {W : World}
def zOf : Value → Int
  | .int _ z => z
  | _ => 0
/-- The words of a slice that reads. -/
theorem rep_nat {cs : List Value} {n : Nat} {y : DataW H × List MemPlace} (h : DataW.trod enc Tryd.prog W 0 (fun _ => true) true n 27 cs = some y) :
    ∃ (v : Value) (l : List Int), cs = [v] ∧ Rep (Env.out Cz.gb W.heap.size (fun _ => True)) (fun _ => False) W (.row false l.length (l.map w64)) v := by
  rcases open_slice1 Tryd.underlying27 (by kernel_rfl) h with ⟨rfl, _⟩ | ⟨a, len, cap, m, k, V, D, Pl, rfl, _, hlc, hcm, hm, _, hel⟩
  · exact ⟨_, [], rfl, .row 0 0 (fun _ => undef) (Nat.le_refl _) (by decide) (fun h => absurd rfl h) (fun j hj => by cases hj) (fun j hj => by cases hj) (fun j hj => by cases hj)⟩
  · have hlm : len ≤ m := by simp at hm; omega
    have hv : ∀ i, i < len → W.cell? (a.add i) = some (V i) ∧ V i = .int .u64 (zOf (V i)) := fun i hi => by
      obtain ⟨h1, h2⟩ := hel i (by omega)
      obtain ⟨z, hz, _, _⟩ := DataW.trod_int Tryd.underlying46 h2
      injection hz with hz
      exact ⟨h1, by rw [hz]; rfl⟩
    refine ⟨_, (List.range len).map fun i => zOf (V i), rfl, ?_⟩
    have hl : ((List.range len).map fun i => zOf (V i)).length = len := by simp
    rw [hl]
    have hsp : 0 < len → a = ⟨a.block, a.off, none⟩ := fun hp => by
      have h1 := (hv 0 hp).1
      have h2 := World.cell?_spot h1
      obtain ⟨b, o, sp⟩ := a
      have : sp = none := by simpa [Addr.add] using h2
      subst this
      rfl
    refine .row a.block a.off V hlc hcm (fun hne => ?_) (fun j hj => ?_) (fun j hj => by simp [w64, AV.one, Value.oneCell']) (fun j hj => ?_)
    · have hp : 0 < len := by
        rcases Nat.eq_zero_or_pos len with e | e
        · subst e; exact absurd rfl hne
        · exact e
      have h1 := (hv 0 hp).1
      refine ⟨congrArg some (hsp hp), ⟨fun e => (by cases e), Or.inl trivial, ?_, fun h => h⟩⟩
      have := World.block_lt_of_cell? W _ h1
      simpa [Addr.add] using this
    · have hj' : j < len := by simpa using hj
      have h1 := (hv j hj').1
      rw [hsp (by omega)] at h1
      by_cases hj0 : j = 0
      · subst hj0
        simpa [Addr.add] using h1
      · simpa [Addr.add, hj0] using h1
    · have hj' : j < len := by simpa using hj
      have e : ((List.range len).map fun i => zOf (V i)).map w64 = (List.range len).map fun i => w64 (zOf (V i)) := by simp
      have e2 : ((((List.range len).map fun i => zOf (V i)).map w64)[j]) = .val (V j) := by
        simp only [List.getElem_map, List.getElem_range]
        unfold w64
        rw [← (hv j hj').2]
      rw [e2]
      exact .val _
theorem rep_dec {base : Nat} {v : Value} {d : DataW H} {p : List MemPlace} (hv : Value.okWide Tryd.prog W .any base 29 v) (h : DataW.Trod enc Tryd.prog W 0 (fun _ => true) true 29 v d p) :
    ∃ (k : Int) (b : Bool) (l : List Int) (e : Int), Rep (Env.out Cz.gb W.heap.size (fun _ => True)) (fun _ => False) W (.agg (dec k b l.length (l.map w64) e)) v := by
  obtain ⟨v0, v1, v2, v3, y0, y1, y2, y3, n, rfl, _, _, h0, h1, h2, h3⟩ := Joins.open_agg4 Tryd.underlying29 (by kernel_rfl) (by kernel_rfl) hv h
  obtain ⟨k, hk, _, _⟩ := DataW.trod_int Tryd.underlying25 h0
  obtain ⟨b, hb, _⟩ := DataW.trod_bool Tryd.underlying4 h1
  obtain ⟨u, l, hu, hr⟩ := rep_nat h2
  obtain ⟨e, he, _, _⟩ := DataW.trod_int Tryd.underlying3 h3
  injection hk with hk
  injection hb with hb
  injection hu with hu
  injection he with he
  subst hk hb hu he
  refine ⟨k, b, l, e, .agg rfl (fun j hj => ?_) (fun j hj hj' => ?_)⟩
  · match j, hj with
    | 0, _ => rfl
    | 1, _ => rfl
    | 2, _ => rfl
    | 3, _ => rfl
  · match j, hj with
    | 0, _ => exact .val _
    | 1, _ => exact .val _
    | 2, _ => exact hr
    | 3, _ => exact .val _
theorem rep_ctx {base : Nat} {v : Value} {d : DataW H} {p : List MemPlace} (hv : Value.okWide Tryd.prog W .any base 24 v) (h : DataW.Trod enc Tryd.prog W 0 (fun _ => true) true 24 v d p) :
    ∃ (a b c : Int), Rep (Env.out Cz.gb W.heap.size (fun _ => True)) (fun _ => False) W (cxv a b c) v := by
  obtain ⟨v0, v1, v2, y0, y1, y2, n, rfl, _, _, h0, h1, h2⟩ := Joins.open_agg3 Tryd.underlying24 (by kernel_rfl) (by kernel_rfl) hv h
  obtain ⟨a, ha, _, _⟩ := DataW.trod_int Tryd.underlying3 h0
  obtain ⟨b, hb, _, _⟩ := DataW.trod_int Tryd.underlying3 h1
  obtain ⟨c, hc, _, _⟩ := DataW.trod_int Tryd.underlying22 h2
  injection ha with ha
  injection hb with hb
  injection hc with hc
  subst ha hb hc
  refine ⟨a, b, c, .agg rfl (fun j hj => ?_) (fun j hj hj' => ?_)⟩
  · match j, hj with
    | 0, _ => rfl
    | 1, _ => rfl
    | 2, _ => rfl
  · match j, hj with
    | 0, _ => exact .val _
    | 1, _ => exact .val _
    | 2, _ => exact .val _
end
end Go.Rk

namespace Go.Rk
open Go.RowKit Go.Proofs Go.Proofs.YtilkfpaelkekfaaDoor Go.ChangeShapes Go.WideShapes Go.ChangeAt
theorem own : ownKnob Tryd.prog.godebug = none := by kernel_rfl
theorem laidOut : laidOutB Tryd.prog = true := by kernel_rfl
theorem door_met (os : Os) (args : Array Value) : laidMetH Tryd.prog Rows.decdivLargeRow.laid ((World.doorLaid Tryd.prog 600 os).forCall (fun _ _ => 0) ⟨#[], args, []⟩).memory :=
  laidMetH_of_parts3 (fuel := 8) (laidMet_of_run' 8 (by kernel_rfl) (by kernel_rfl)) (by kernel_rfl) (by kernel_rfl)
def arg0 : Array Value := #[.agg #[.int .i64 0, .int .i64 0, .int .i64 0], .agg #[.int .i64 0, .bool false, .slice none 0 0, .int .i64 0], .agg #[.int .i64 0, .bool false, .slice none 0 0, .int .i64 0]]
theorem lifted (os : Os) (started : os.Started) (H : Type) (enc : TypeId × Value → H) :
    ReturnsInHanded {} Tryd.checked os 3 .any (fun w args => (Rows.decdivLargeSpec.pre enc Tryd.prog Tryd.f3 [] false w args ∧ laidMetH Tryd.prog Rows.decdivLargeRow.laid w) ∧ sizedMet enc Tryd.prog Tryd.f3 (OpenSpec.ofChange Rows.decdivLargeSpec) false w args)
      (Rows.decdivLargeSpec.post enc Tryd.prog Tryd.f3 false true false false) := by
  refine returnsInHanded_of_change_and (C := Tryd.checked) (X := fun w _ => laidMetH Tryd.prog Rows.decdivLargeRow.laid w) (fun _ _ _ hh h => h.of_heap hh) own started (by kernel_rfl) Tryd.func3
    (ChangeSpec.witness_shaped (enc := enc) (C := Tryd.checked) (os := os) (X := fun w _ => laidMetH Tryd.prog Rows.decdivLargeRow.laid w) false (World.doorLaid Tryd.prog 600 os) arg0 8 rfl (World.shaped_of_RefB (by kernel_rfl) (by kernel_rfl)) (by kernel_rfl) (by kernel_rfl) (by kernel_rfl) (door_met os _)) ?_
  intro W base args ds gs before hval0 hW _ _ hL _
  have hval : ∀ (j : Nat) t v, Tryd.f3.params[j]? = some t → args[j]? = some v → Value.okWide Tryd.prog W .any base t v := hval0
  have hW' := hW
  obtain ⟨p, q, hA0, hV, rfl, hfz, hnd⟩ := hW
  have hA : DataW.TrodAll enc Tryd.prog W 0 (fun _ => true) true Tryd.f3.params.toList args.toList ds p := hA0
  rw [Tryd.params3] at hA hval
  obtain ⟨v0, v1, v2, d0, d1, d2, p0, p1, p2, rfl, rfl, rfl, h0, h1, h2⟩ := trodAll_three hA
  obtain ⟨rfl, rfl⟩ := trodVars_none hV
  obtain ⟨a, b, c, r0⟩ := rep_ctx (hval 0 24 v0 rfl rfl) h0
  obtain ⟨k, ng, l, e, r1⟩ := rep_dec (hval 1 29 v1 rfl rfl) h1
  obtain ⟨k', ng', l', e', r2⟩ := rep_dec (hval 2 29 v2 rfl rfl) h2
  have hc := (c_large a b c k ng l e k' ng' l' e').calls W (fun _ => True) #[v0, v1, v2] (gl_of_laid hL) rfl (fun j hj hj' => by
    match j, hj, hj' with
    | 0, _, _ => exact r0
    | 1, _, _ => exact r1
    | 2, _, _ => exact r2)
  refine Calls.mono hc fun e W' ⟨v, he, hb, hr⟩ => ?_
  subst he
  cases hr
  have hlt : ∀ x ∈ p0 ++ (p1 ++ p2), x.block < W.heap.size := fun x hx => by
    have := hW'.lt x (by simpa using hx)
    simpa using this
  refine ⟨_, rfl, _, _, _, [], p0 ++ (p1 ++ p2), [], hW', trodAll_mk1 (shut_bool Tryd.underlying4 _), ?_, ?_, hb.frame _, fun h => by cases h⟩
  · rw [Tryd.params3]
    exact trodAll_mk3 (hb.trod laidOut (by kernel_rfl) (of_decide_eq_true (by kernel_rfl)) h0 (fun x hx => hlt x (by simp [hx])))
      (hb.trod laidOut (by kernel_rfl) (of_decide_eq_true (by kernel_rfl)) h1 (fun x hx => hlt x (by simp [hx]))) (hb.trod laidOut (by kernel_rfl) (of_decide_eq_true (by kernel_rfl)) h2 (fun x hx => hlt x (by simp [hx])))
  · exact rfl
end Go.Rk

namespace Go.Proofs.YtilkfpaelkekfaaDoor
open Go
theorem decdivLarge_holds : Rows.DecdivLargeSaid :=
  OpenClaim.holds_of_wide 3 Tryd.f3 rfl rfl rfl rfl rfl rfl rfl ⟨rfl, rfl, rfl, rfl, rfl⟩ rfl rfl rfl rfl rfl (by kernel_rfl) Tryd.func3 (by kernel_rfl)
    (of_decide_eq_true (by kernel_rfl)) (by unfold Func.isWrapper; first | (rw [if_pos (by decide +kernel)]; kernel_rfl) | (rw [if_neg (by decide +kernel)]; exact ⟨rfl, rfl⟩))
    (fun os started H enc _ => Rk.lifted os started H enc)
#print axioms decdivLarge_holds
end Go.Proofs.YtilkfpaelkekfaaDoor

namespace Go.Proofs.YtilkfpaelkekfaaDoor
open Go
theorem decdivLarge_card : Rows.DecdivLargeCardSaid :=
  Claim7.holds_tied_plain_at .later [] [.data, .funcs] true (true, "f415aa28385d31743f56cdc32dd5616eec8c25a341fdda3f760726a79fea04df") false
    decdivLarge_holds (fun _ h => by cases h) (by kernel_rfl) (fun _ h => by cases h) decdivLarge_row_tie rfl ⟨rfl, rfl⟩ (by kernel_rfl) rfl
    (fun f fn hf hfn => by
      obtain rfl : f = 3 := Option.some.inj ((show Tryd.prog.funcNamed "reckoner/reckonerlaw23.DecdivLarge" = some 3 by kernel_rfl).symm.trans hf) |>.symm
      obtain rfl : fn = Tryd.f3 := (Option.some.inj (Tryd.func3.symm.trans hfn)).symm
      exact ⟨by kernel_rfl, fun j t ht => by
        rw [Tryd.params3] at ht
        have h3 : t = 24 ∨ t = 29 := by
          rcases j with _ | _ | _ | j
          · left; simpa using ht.symm
          · right; simpa using ht.symm
          · right; simpa using ht.symm
          · simp at ht
        rcases h3 with rfl | rfl
        · exact (show Tryd.prog.wantsStandIn 24 = false by kernel_rfl)
        · exact (show Tryd.prog.wantsStandIn 29 = false by kernel_rfl)⟩)
    (by kernel_rfl)
#print axioms decdivLarge_card
end Go.Proofs.YtilkfpaelkekfaaDoor
