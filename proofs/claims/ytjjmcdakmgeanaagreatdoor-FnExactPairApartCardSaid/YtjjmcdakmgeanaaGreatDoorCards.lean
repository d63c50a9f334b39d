/-
  DERIVED. GIVEN WITH THE SEED: THE CARDS: each row of YtjjmcdakmgeanaaGreatDoorRows.lean that lists a variable, with what it lists TIED to the program's text (the seventh form; the later family's looks); each row that meets fmt, with fmt's text TOLD by the authors' own Lean function (tested against real Go, not proved from fmt's source: count such statements apart). THE CARD IS WHAT COUNTS. Prove the row's statement (the work); the ties are given (YtjjmcdakmgeanaaGreatDoorTie.lean); close each card by the builder's one call (the guide's Derived/Test/ToyasCard.lean, 'card_holds'). Laid BY PROGRAM, IN A SANDBOX (cutbox-door.mjs). By AI agents, Wed Nov 11 2026. No macro, syntax, notation, axiom, sorry.
-/
import Derived.Test.YtjjmcdakmgeanaaGreatDoorRows
import GoSem.ClaimSeven
namespace Go.Proofs.YtjjmcdakmgeanaaGreatDoor
namespace Rows

/-- THE TIED CARD OF 'laws.FnExactPairTree'. -/
def fnExactPairTreeCard : Claim7 := { stood := { row := fnExactPairTreeRow, standIns := [], harness := (true, "21dac7dc811bc2e18eef8fa332b39f58b31b9af38e8b18b94502ea60bf859677"), looks := false }, kinds := [], alts := [], laidByText := true, laidKinds := [.data, .pinned], laidTests := true, laidLooks := .later }
def FnExactPairTreeCardSaid : Prop := Claim7.holds Tryz.pinned (.plain (OpenSpec.ofChange fnExactPairTreeSpec)) fnExactPairTreeCard

/-- THE TIED CARD OF 'laws.FnExactResolveTree'. -/
def fnExactResolveTreeCard : Claim7 := { stood := { row := fnExactResolveTreeRow, standIns := [], harness := (true, "21dac7dc811bc2e18eef8fa332b39f58b31b9af38e8b18b94502ea60bf859677"), looks := false }, kinds := [], alts := [], laidByText := true, laidKinds := [.data, .pinned], laidTests := true, laidLooks := .later }
def FnExactResolveTreeCardSaid : Prop := Claim7.holds Tryz.pinned (.plain (OpenSpec.ofChange fnExactResolveTreeSpec)) fnExactResolveTreeCard

/-- THE TIED CARD OF 'laws.FnResolveTurned'. -/
def fnResolveTurnedCard : Claim7 := { stood := { row := fnResolveTurnedRow, standIns := [], harness := (true, "21dac7dc811bc2e18eef8fa332b39f58b31b9af38e8b18b94502ea60bf859677"), looks := false }, kinds := [], alts := [], laidByText := true, laidKinds := [.data, .pinned], laidTests := true, laidLooks := .later }
def FnResolveTurnedCardSaid : Prop := Claim7.holds Tryz.pinned (.plain (OpenSpec.ofChange fnResolveTurnedSpec)) fnResolveTurnedCard

/-- THE TIED CARD OF 'laws.FnPairUnsafe'. -/
def fnPairUnsafeCard : Claim7 := { stood := { row := fnPairUnsafeRow, standIns := [], harness := (true, "21dac7dc811bc2e18eef8fa332b39f58b31b9af38e8b18b94502ea60bf859677"), looks := false }, kinds := [], alts := [], laidByText := true, laidKinds := [.data, .pinned], laidTests := true, laidLooks := .later }
def FnPairUnsafeCardSaid : Prop := Claim7.holds Tryz.pinned (.plain (OpenSpec.ofChange fnPairUnsafeSpec)) fnPairUnsafeCard

/-- THE TIED CARD OF 'laws.FnResolve'. -/
def fnResolveCard : Claim7 := { stood := { row := fnResolveRow, standIns := [], harness := (true, "21dac7dc811bc2e18eef8fa332b39f58b31b9af38e8b18b94502ea60bf859677"), looks := false }, kinds := [], alts := [], laidByText := true, laidKinds := [.data, .pinned], laidTests := true, laidLooks := .later }
def FnResolveCardSaid : Prop := Claim7.holds Tryz.pinned (.plain (OpenSpec.ofChange fnResolveSpec)) fnResolveCard

/-- THE TIED CARD OF 'laws.FnResolveSame'. -/
def fnResolveSameCard : Claim7 := { stood := { row := fnResolveSameRow, standIns := [], harness := (true, "21dac7dc811bc2e18eef8fa332b39f58b31b9af38e8b18b94502ea60bf859677"), looks := false }, kinds := [], alts := [], laidByText := true, laidKinds := [.data, .pinned], laidTests := true, laidLooks := .later }
def FnResolveSameCardSaid : Prop := Claim7.holds Tryz.pinned (.plain (OpenSpec.ofChange fnResolveSameSpec)) fnResolveSameCard

/-- THE TIED CARD OF 'laws.FnPairTree'. -/
def fnPairTreeCard : Claim7 := { stood := { row := fnPairTreeRow, standIns := [], harness := (true, "21dac7dc811bc2e18eef8fa332b39f58b31b9af38e8b18b94502ea60bf859677"), looks := false }, kinds := [], alts := [], laidByText := true, laidKinds := [.data, .pinned], laidTests := true, laidLooks := .later }
def FnPairTreeCardSaid : Prop := Claim7.holds Tryz.pinned (.plain (OpenSpec.ofChange fnPairTreeSpec)) fnPairTreeCard

/-- THE TIED CARD OF 'laws.FnPairApartAll'. -/
def fnPairApartAllCard : Claim7 := { stood := { row := fnPairApartAllRow, standIns := [], harness := (true, "21dac7dc811bc2e18eef8fa332b39f58b31b9af38e8b18b94502ea60bf859677"), looks := false }, kinds := [], alts := [], laidByText := true, laidKinds := [.data, .pinned], laidTests := true, laidLooks := .later }
def FnPairApartAllCardSaid : Prop := Claim7.holds Tryz.pinned (.plain (OpenSpec.ofChange fnPairApartAllSpec)) fnPairApartAllCard

/-- THE TIED CARD OF 'laws.FnExactPairApart'. -/
def fnExactPairApartCard : Claim7 := { stood := { row := fnExactPairApartRow, standIns := [], harness := (true, "21dac7dc811bc2e18eef8fa332b39f58b31b9af38e8b18b94502ea60bf859677"), looks := false }, kinds := [], alts := [], laidByText := true, laidKinds := [.data, .pinned], laidTests := true, laidLooks := .later }
def FnExactPairApartCardSaid : Prop := Claim7.holds Tryz.pinned (.plain (OpenSpec.ofChange fnExactPairApartSpec)) fnExactPairApartCard

/-- THE TIED CARD OF 'laws.FnPairApart'. -/
def fnPairApartCard : Claim7 := { stood := { row := fnPairApartRow, standIns := [], harness := (true, "21dac7dc811bc2e18eef8fa332b39f58b31b9af38e8b18b94502ea60bf859677"), looks := false }, kinds := [], alts := [], laidByText := true, laidKinds := [.data, .pinned], laidTests := true, laidLooks := .later }
def FnPairApartCardSaid : Prop := Claim7.holds Tryz.pinned (.plain (OpenSpec.ofChange fnPairApartSpec)) fnPairApartCard

/-- THE SECOND FORM's CARD OF 'laws.FnExactPairTree'. -/
def fnExactPairTreeUptoCard : Claim7 := { stood := { row := fnExactPairTreeUptoRow, standIns := [], harness := (true, "21dac7dc811bc2e18eef8fa332b39f58b31b9af38e8b18b94502ea60bf859677"), looks := false }, kinds := [], alts := [], laidByText := true, laidKinds := [.data, .pinned], laidTests := true, laidLooks := .later }
def FnExactPairTreeUptoCardSaid : Prop := Claim7.holds Tryz.pinned (.plain (OpenSpec.upto fnExactPairTreeSpec)) fnExactPairTreeUptoCard

/-- THE SECOND FORM's CARD OF 'laws.FnExactResolveTree'. -/
def fnExactResolveTreeUptoCard : Claim7 := { stood := { row := fnExactResolveTreeUptoRow, standIns := [], harness := (true, "21dac7dc811bc2e18eef8fa332b39f58b31b9af38e8b18b94502ea60bf859677"), looks := false }, kinds := [], alts := [], laidByText := true, laidKinds := [.data, .pinned], laidTests := true, laidLooks := .later }
def FnExactResolveTreeUptoCardSaid : Prop := Claim7.holds Tryz.pinned (.plain (OpenSpec.upto fnExactResolveTreeSpec)) fnExactResolveTreeUptoCard

/-- THE SECOND FORM's CARD OF 'laws.FnResolveTurned'. -/
def fnResolveTurnedUptoCard : Claim7 := { stood := { row := fnResolveTurnedUptoRow, standIns := [], harness := (true, "21dac7dc811bc2e18eef8fa332b39f58b31b9af38e8b18b94502ea60bf859677"), looks := false }, kinds := [], alts := [], laidByText := true, laidKinds := [.data, .pinned], laidTests := true, laidLooks := .later }
def FnResolveTurnedUptoCardSaid : Prop := Claim7.holds Tryz.pinned (.plain (OpenSpec.upto fnResolveTurnedSpec)) fnResolveTurnedUptoCard

/-- THE SECOND FORM's CARD OF 'laws.FnPairUnsafe'. -/
def fnPairUnsafeUptoCard : Claim7 := { stood := { row := fnPairUnsafeUptoRow, standIns := [], harness := (true, "21dac7dc811bc2e18eef8fa332b39f58b31b9af38e8b18b94502ea60bf859677"), looks := false }, kinds := [], alts := [], laidByText := true, laidKinds := [.data, .pinned], laidTests := true, laidLooks := .later }
def FnPairUnsafeUptoCardSaid : Prop := Claim7.holds Tryz.pinned (.plain (OpenSpec.upto fnPairUnsafeSpec)) fnPairUnsafeUptoCard

/-- THE SECOND FORM's CARD OF 'laws.FnResolve'. -/
def fnResolveUptoCard : Claim7 := { stood := { row := fnResolveUptoRow, standIns := [], harness := (true, "21dac7dc811bc2e18eef8fa332b39f58b31b9af38e8b18b94502ea60bf859677"), looks := false }, kinds := [], alts := [], laidByText := true, laidKinds := [.data, .pinned], laidTests := true, laidLooks := .later }
def FnResolveUptoCardSaid : Prop := Claim7.holds Tryz.pinned (.plain (OpenSpec.upto fnResolveSpec)) fnResolveUptoCard

/-- THE SECOND FORM's CARD OF 'laws.FnResolveSame'. -/
def fnResolveSameUptoCard : Claim7 := { stood := { row := fnResolveSameUptoRow, standIns := [], harness := (true, "21dac7dc811bc2e18eef8fa332b39f58b31b9af38e8b18b94502ea60bf859677"), looks := false }, kinds := [], alts := [], laidByText := true, laidKinds := [.data, .pinned], laidTests := true, laidLooks := .later }
def FnResolveSameUptoCardSaid : Prop := Claim7.holds Tryz.pinned (.plain (OpenSpec.upto fnResolveSameSpec)) fnResolveSameUptoCard

/-- THE SECOND FORM's CARD OF 'laws.FnPairTree'. -/
def fnPairTreeUptoCard : Claim7 := { stood := { row := fnPairTreeUptoRow, standIns := [], harness := (true, "21dac7dc811bc2e18eef8fa332b39f58b31b9af38e8b18b94502ea60bf859677"), looks := false }, kinds := [], alts := [], laidByText := true, laidKinds := [.data, .pinned], laidTests := true, laidLooks := .later }
def FnPairTreeUptoCardSaid : Prop := Claim7.holds Tryz.pinned (.plain (OpenSpec.upto fnPairTreeSpec)) fnPairTreeUptoCard

/-- THE SECOND FORM's CARD OF 'laws.FnPairApartAll'. -/
def fnPairApartAllUptoCard : Claim7 := { stood := { row := fnPairApartAllUptoRow, standIns := [], harness := (true, "21dac7dc811bc2e18eef8fa332b39f58b31b9af38e8b18b94502ea60bf859677"), looks := false }, kinds := [], alts := [], laidByText := true, laidKinds := [.data, .pinned], laidTests := true, laidLooks := .later }
def FnPairApartAllUptoCardSaid : Prop := Claim7.holds Tryz.pinned (.plain (OpenSpec.upto fnPairApartAllSpec)) fnPairApartAllUptoCard

/-- THE SECOND FORM's CARD OF 'laws.FnExactPairApart'. -/
def fnExactPairApartUptoCard : Claim7 := { stood := { row := fnExactPairApartUptoRow, standIns := [], harness := (true, "21dac7dc811bc2e18eef8fa332b39f58b31b9af38e8b18b94502ea60bf859677"), looks := false }, kinds := [], alts := [], laidByText := true, laidKinds := [.data, .pinned], laidTests := true, laidLooks := .later }
def FnExactPairApartUptoCardSaid : Prop := Claim7.holds Tryz.pinned (.plain (OpenSpec.upto fnExactPairApartSpec)) fnExactPairApartUptoCard

/-- THE SECOND FORM's CARD OF 'laws.FnPairApart'. -/
def fnPairApartUptoCard : Claim7 := { stood := { row := fnPairApartUptoRow, standIns := [], harness := (true, "21dac7dc811bc2e18eef8fa332b39f58b31b9af38e8b18b94502ea60bf859677"), looks := false }, kinds := [], alts := [], laidByText := true, laidKinds := [.data, .pinned], laidTests := true, laidLooks := .later }
def FnPairApartUptoCardSaid : Prop := Claim7.holds Tryz.pinned (.plain (OpenSpec.upto fnPairApartSpec)) fnPairApartUptoCard
end Rows
end Go.Proofs.YtjjmcdakmgeanaaGreatDoor
