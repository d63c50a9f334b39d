/-
  DERIVED. GIVEN WITH THE SEED: THE CARDS: each row of YtnemajefpgicgaaDoorRows.lean that lists a variable, with what it lists TIED to the program's text (the seventh form; the later family's looks); each row that meets fmt, with fmt's text TOLD by the authors' own Lean function (tested against real Go, not proved from fmt's source: count such statements apart). THE CARD IS WHAT COUNTS. Prove the row's statement (the work); the ties are given (YtnemajefpgicgaaDoorTie.lean); close each card by the builder's one call (the guide's Derived/Test/ToyasCard.lean, 'card_holds'). Laid BY PROGRAM, IN A SANDBOX (cutbox-door.mjs). By AI agents, Wed Nov 11 2026. No macro, syntax, notation, axiom, sorry.
-/
import Derived.Test.YtnemajefpgicgaaDoorRows
import GoSem.ClaimSeven
namespace Go.Proofs.YtnemajefpgicgaaDoor
namespace Rows

/-- THE TIED CARD OF 'laws.FnExactFilterHold'. -/
def fnExactFilterHoldCard : Claim7 := { stood := { row := fnExactFilterHoldRow, standIns := [], harness := (true, "c3148ba2ba558f415a605ab0a096c57d79190faad40222ebd4854139d1e1ab2e"), looks := false }, kinds := [], alts := [], laidByText := true, laidKinds := [.data, .pinned], laidTests := true, laidLooks := .later }
def FnExactFilterHoldCardSaid : Prop := Claim7.holds Tryd.pinned (.plain (OpenSpec.ofChange fnExactFilterHoldSpec)) fnExactFilterHoldCard

/-- THE TIED CARD OF 'laws.FnExactFilterKeep'. -/
def fnExactFilterKeepCard : Claim7 := { stood := { row := fnExactFilterKeepRow, standIns := [], harness := (true, "c3148ba2ba558f415a605ab0a096c57d79190faad40222ebd4854139d1e1ab2e"), looks := false }, kinds := [], alts := [], laidByText := true, laidKinds := [.data, .pinned], laidTests := true, laidLooks := .later }
def FnExactFilterKeepCardSaid : Prop := Claim7.holds Tryd.pinned (.plain (OpenSpec.ofChange fnExactFilterKeepSpec)) fnExactFilterKeepCard

/-- THE TIED CARD OF 'laws.FnFilterTree'. -/
def fnFilterTreeCard : Claim7 := { stood := { row := fnFilterTreeRow, standIns := [], harness := (true, "c3148ba2ba558f415a605ab0a096c57d79190faad40222ebd4854139d1e1ab2e"), looks := false }, kinds := [], alts := [], laidByText := true, laidKinds := [.data, .pinned], laidTests := true, laidLooks := .later }
def FnFilterTreeCardSaid : Prop := Claim7.holds Tryd.pinned (.plain (OpenSpec.ofChange fnFilterTreeSpec)) fnFilterTreeCard

/-- THE TIED CARD OF 'laws.FnExactFilterTree'. -/
def fnExactFilterTreeCard : Claim7 := { stood := { row := fnExactFilterTreeRow, standIns := [], harness := (true, "c3148ba2ba558f415a605ab0a096c57d79190faad40222ebd4854139d1e1ab2e"), looks := false }, kinds := [], alts := [], laidByText := true, laidKinds := [.data, .pinned], laidTests := true, laidLooks := .later }
def FnExactFilterTreeCardSaid : Prop := Claim7.holds Tryd.pinned (.plain (OpenSpec.ofChange fnExactFilterTreeSpec)) fnExactFilterTreeCard

/-- THE TIED CARD OF 'laws.FnKeep'. -/
def fnKeepCard : Claim7 := { stood := { row := fnKeepRow, standIns := [], harness := (true, "c3148ba2ba558f415a605ab0a096c57d79190faad40222ebd4854139d1e1ab2e"), looks := false }, kinds := [], alts := [], laidByText := true, laidKinds := [.data, .pinned], laidTests := true, laidLooks := .later }
def FnKeepCardSaid : Prop := Claim7.holds Tryd.pinned (.plain (OpenSpec.ofChange fnKeepSpec)) fnKeepCard

/-- THE TIED CARD OF 'laws.FnKeepNone'. -/
def fnKeepNoneCard : Claim7 := { stood := { row := fnKeepNoneRow, standIns := [], harness := (true, "c3148ba2ba558f415a605ab0a096c57d79190faad40222ebd4854139d1e1ab2e"), looks := false }, kinds := [], alts := [], laidByText := true, laidKinds := [.data, .pinned], laidTests := true, laidLooks := .later }
def FnKeepNoneCardSaid : Prop := Claim7.holds Tryd.pinned (.plain (OpenSpec.ofChange fnKeepNoneSpec)) fnKeepNoneCard

/-- THE TIED CARD OF 'laws.FnKeepHold'. -/
def fnKeepHoldCard : Claim7 := { stood := { row := fnKeepHoldRow, standIns := [], harness := (true, "c3148ba2ba558f415a605ab0a096c57d79190faad40222ebd4854139d1e1ab2e"), looks := false }, kinds := [], alts := [], laidByText := true, laidKinds := [.data, .pinned], laidTests := true, laidLooks := .later }
def FnKeepHoldCardSaid : Prop := Claim7.holds Tryd.pinned (.plain (OpenSpec.ofChange fnKeepHoldSpec)) fnKeepHoldCard

/-- THE SECOND FORM's CARD OF 'laws.FnExactFilterHold'. -/
def fnExactFilterHoldUptoCard : Claim7 := { stood := { row := fnExactFilterHoldUptoRow, standIns := [], harness := (true, "c3148ba2ba558f415a605ab0a096c57d79190faad40222ebd4854139d1e1ab2e"), looks := false }, kinds := [], alts := [], laidByText := true, laidKinds := [.data, .pinned], laidTests := true, laidLooks := .later }
def FnExactFilterHoldUptoCardSaid : Prop := Claim7.holds Tryd.pinned (.plain (OpenSpec.upto fnExactFilterHoldSpec)) fnExactFilterHoldUptoCard

/-- THE SECOND FORM's CARD OF 'laws.FnExactFilterKeep'. -/
def fnExactFilterKeepUptoCard : Claim7 := { stood := { row := fnExactFilterKeepUptoRow, standIns := [], harness := (true, "c3148ba2ba558f415a605ab0a096c57d79190faad40222ebd4854139d1e1ab2e"), looks := false }, kinds := [], alts := [], laidByText := true, laidKinds := [.data, .pinned], laidTests := true, laidLooks := .later }
def FnExactFilterKeepUptoCardSaid : Prop := Claim7.holds Tryd.pinned (.plain (OpenSpec.upto fnExactFilterKeepSpec)) fnExactFilterKeepUptoCard

/-- THE SECOND FORM's CARD OF 'laws.FnFilterTree'. -/
def fnFilterTreeUptoCard : Claim7 := { stood := { row := fnFilterTreeUptoRow, standIns := [], harness := (true, "c3148ba2ba558f415a605ab0a096c57d79190faad40222ebd4854139d1e1ab2e"), looks := false }, kinds := [], alts := [], laidByText := true, laidKinds := [.data, .pinned], laidTests := true, laidLooks := .later }
def FnFilterTreeUptoCardSaid : Prop := Claim7.holds Tryd.pinned (.plain (OpenSpec.upto fnFilterTreeSpec)) fnFilterTreeUptoCard

/-- THE SECOND FORM's CARD OF 'laws.FnExactFilterTree'. -/
def fnExactFilterTreeUptoCard : Claim7 := { stood := { row := fnExactFilterTreeUptoRow, standIns := [], harness := (true, "c3148ba2ba558f415a605ab0a096c57d79190faad40222ebd4854139d1e1ab2e"), looks := false }, kinds := [], alts := [], laidByText := true, laidKinds := [.data, .pinned], laidTests := true, laidLooks := .later }
def FnExactFilterTreeUptoCardSaid : Prop := Claim7.holds Tryd.pinned (.plain (OpenSpec.upto fnExactFilterTreeSpec)) fnExactFilterTreeUptoCard

/-- THE SECOND FORM's CARD OF 'laws.FnKeep'. -/
def fnKeepUptoCard : Claim7 := { stood := { row := fnKeepUptoRow, standIns := [], harness := (true, "c3148ba2ba558f415a605ab0a096c57d79190faad40222ebd4854139d1e1ab2e"), looks := false }, kinds := [], alts := [], laidByText := true, laidKinds := [.data, .pinned], laidTests := true, laidLooks := .later }
def FnKeepUptoCardSaid : Prop := Claim7.holds Tryd.pinned (.plain (OpenSpec.upto fnKeepSpec)) fnKeepUptoCard

/-- THE SECOND FORM's CARD OF 'laws.FnKeepNone'. -/
def fnKeepNoneUptoCard : Claim7 := { stood := { row := fnKeepNoneUptoRow, standIns := [], harness := (true, "c3148ba2ba558f415a605ab0a096c57d79190faad40222ebd4854139d1e1ab2e"), looks := false }, kinds := [], alts := [], laidByText := true, laidKinds := [.data, .pinned], laidTests := true, laidLooks := .later }
def FnKeepNoneUptoCardSaid : Prop := Claim7.holds Tryd.pinned (.plain (OpenSpec.upto fnKeepNoneSpec)) fnKeepNoneUptoCard

/-- THE SECOND FORM's CARD OF 'laws.FnKeepHold'. -/
def fnKeepHoldUptoCard : Claim7 := { stood := { row := fnKeepHoldUptoRow, standIns := [], harness := (true, "c3148ba2ba558f415a605ab0a096c57d79190faad40222ebd4854139d1e1ab2e"), looks := false }, kinds := [], alts := [], laidByText := true, laidKinds := [.data, .pinned], laidTests := true, laidLooks := .later }
def FnKeepHoldUptoCardSaid : Prop := Claim7.holds Tryd.pinned (.plain (OpenSpec.upto fnKeepHoldSpec)) fnKeepHoldUptoCard
end Rows
end Go.Proofs.YtnemajefpgicgaaDoor
