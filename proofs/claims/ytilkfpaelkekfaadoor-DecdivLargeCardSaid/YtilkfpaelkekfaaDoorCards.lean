/-
  DERIVED. GIVEN WITH THE SEED: THE CARDS: each row of YtilkfpaelkekfaaDoorRows.lean that lists a variable, with what it lists TIED to the program's text (the seventh form; the later family's looks); each row that meets fmt, with fmt's text TOLD by the authors' own Lean function (tested against real Go, not proved from fmt's source: count such statements apart). THE CARD IS WHAT COUNTS. Prove the row's statement (the work); the ties are given (YtilkfpaelkekfaaDoorTie.lean); close each card by the builder's one call (the guide's Derived/Test/ToyasCard.lean, 'card_holds'). Laid BY PROGRAM, IN A SANDBOX (cutbox-door.mjs). By AI agents, Wed Nov 11 2026. No macro, syntax, notation, axiom, sorry.
-/
import Derived.Test.YtilkfpaelkekfaaDoorRows
import GoSem.ClaimSeven
namespace Go.Proofs.YtilkfpaelkekfaaDoor
namespace Rows

/-- THE TIED CARD OF 'reckonerlaw23.DecdivLarge'. -/
def decdivLargeCard : Claim7 := { stood := { row := decdivLargeRow, standIns := [], harness := (true, "f415aa28385d31743f56cdc32dd5616eec8c25a341fdda3f760726a79fea04df"), looks := false }, kinds := [], alts := [], laidByText := true, laidKinds := [.data, .funcs], laidTests := true, laidLooks := .later }
def DecdivLargeCardSaid : Prop := Claim7.holds Tryd.pinned (.plain (OpenSpec.ofChange decdivLargeSpec)) decdivLargeCard

/-- THE SECOND FORM's CARD OF 'reckonerlaw23.DecdivLarge'. -/
def decdivLargeUptoCard : Claim7 := { stood := { row := decdivLargeUptoRow, standIns := [], harness := (true, "f415aa28385d31743f56cdc32dd5616eec8c25a341fdda3f760726a79fea04df"), looks := false }, kinds := [], alts := [], laidByText := true, laidKinds := [.data, .funcs], laidTests := true, laidLooks := .later }
def DecdivLargeUptoCardSaid : Prop := Claim7.holds Tryd.pinned (.plain (OpenSpec.upto decdivLargeSpec)) decdivLargeUptoCard
end Rows
end Go.Proofs.YtilkfpaelkekfaaDoor
