/-
  DERIVED. GIVEN WITH THE SEED: THE CARDS: each row of YtpmlcfgbfhgpgaaGreatDoorRows.lean that lists a variable, with what it lists TIED to the program's text (the seventh form; the later family's looks); each row that meets fmt, with fmt's text TOLD by the authors' own Lean function (tested against real Go, not proved from fmt's source: count such statements apart). THE CARD IS WHAT COUNTS. Prove the row's statement (the work); the ties are given (YtpmlcfgbfhgpgaaGreatDoorTie.lean); close each card by the builder's one call (the guide's Derived/Test/ToyasCard.lean, 'card_holds'). Laid BY PROGRAM, IN A SANDBOX (cutbox-door.mjs). By AI agents, Wed Nov 11 2026. No macro, syntax, notation, axiom, sorry.
-/
import Derived.Test.YtpmlcfgbfhgpgaaGreatDoorRows
import GoSem.ClaimSeven
namespace Go.Proofs.YtpmlcfgbfhgpgaaGreatDoor
namespace Rows

/-- THE TIED CARD OF 'vyakaranalaw09.SchoolUndoes'. -/
def schoolUndoesCard : Claim7 := { stood := { row := schoolUndoesRow, standIns := [], harness := (true, "7401afb06fc61065f1e92cf208d0acc128d977d6ad779937a32985a6dbe8fdf2"), looks := true }, kinds := [], alts := [], laidByText := true, laidKinds := [.data, .data, .data, .handle, .sentinel, .sentinel], laidTests := true, laidLooks := .later }
def SchoolUndoesCardSaid : Prop := Claim7.holds Tryz.pinned (.plain (OpenSpec.ofChange schoolUndoesSpec)) schoolUndoesCard

/-- THE TIED CARD OF 'vyakaranalaw09.SchoolSlates'. -/
def schoolSlatesCard : Claim7 := { stood := { row := schoolSlatesRow, standIns := [], harness := (true, "7401afb06fc61065f1e92cf208d0acc128d977d6ad779937a32985a6dbe8fdf2"), looks := true }, kinds := [], alts := [], laidByText := true, laidKinds := [.data, .data, .data, .handle, .sentinel, .sentinel], laidTests := true, laidLooks := .later }
def SchoolSlatesCardSaid : Prop := Claim7.holds Tryz.pinned (.plain (OpenSpec.ofChange schoolSlatesSpec)) schoolSlatesCard

/-- THE TIED CARD OF 'vyakaranalaw09.SchoolSteps'. -/
def schoolStepsCard : Claim7 := { stood := { row := schoolStepsRow, standIns := [], harness := (true, "7401afb06fc61065f1e92cf208d0acc128d977d6ad779937a32985a6dbe8fdf2"), looks := true }, kinds := [], alts := [], laidByText := true, laidKinds := [.data, .data, .data, .handle, .sentinel, .sentinel], laidTests := true, laidLooks := .later }
def SchoolStepsCardSaid : Prop := Claim7.holds Tryz.pinned (.plain (OpenSpec.ofChange schoolStepsSpec)) schoolStepsCard

/-- THE TIED CARD OF 'vyakaranalaw09.SchoolRuns'. -/
def schoolRunsCard : Claim7 := { stood := { row := schoolRunsRow, standIns := [], harness := (true, "7401afb06fc61065f1e92cf208d0acc128d977d6ad779937a32985a6dbe8fdf2"), looks := true }, kinds := [], alts := [], laidByText := true, laidKinds := [.data, .data, .data, .handle, .sentinel, .sentinel], laidTests := true, laidLooks := .later }
def SchoolRunsCardSaid : Prop := Claim7.holds Tryz.pinned (.plain (OpenSpec.ofChange schoolRunsSpec)) schoolRunsCard

/-- THE TIED CARD OF 'vyakaranalaw09.SchoolReads'. -/
def schoolReadsCard : Claim7 := { stood := { row := schoolReadsRow, standIns := [], harness := (true, "7401afb06fc61065f1e92cf208d0acc128d977d6ad779937a32985a6dbe8fdf2"), looks := true }, kinds := [], alts := [], laidByText := true, laidKinds := [.data, .data, .data, .handle, .sentinel, .sentinel], laidTests := true, laidLooks := .later }
def SchoolReadsCardSaid : Prop := Claim7.holds Tryz.pinned (.plain (OpenSpec.ofChange schoolReadsSpec)) schoolReadsCard

/-- THE TIED CARD OF 'vyakaranalaw09.SchoolWrites'. -/
def schoolWritesCard : Claim7 := { stood := { row := schoolWritesRow, standIns := [], harness := (true, "7401afb06fc61065f1e92cf208d0acc128d977d6ad779937a32985a6dbe8fdf2"), looks := true }, kinds := [], alts := [], laidByText := true, laidKinds := [.data, .data, .data, .handle, .sentinel, .sentinel], laidTests := true, laidLooks := .later }
def SchoolWritesCardSaid : Prop := Claim7.holds Tryz.pinned (.plain (OpenSpec.ofChange schoolWritesSpec)) schoolWritesCard

/-- THE TIED CARD OF 'vyakaranalaw09.SchoolOrders'. -/
def schoolOrdersCard : Claim7 := { stood := { row := schoolOrdersRow, standIns := [], harness := (true, "7401afb06fc61065f1e92cf208d0acc128d977d6ad779937a32985a6dbe8fdf2"), looks := true }, kinds := [], alts := [], laidByText := true, laidKinds := [.data, .data, .data, .handle, .sentinel, .sentinel], laidTests := true, laidLooks := .later }
def SchoolOrdersCardSaid : Prop := Claim7.holds Tryz.pinned (.plain (OpenSpec.ofChange schoolOrdersSpec)) schoolOrdersCard

/-- THE TIED CARD OF 'vyakaranalaw09.SchoolMerges'. -/
def schoolMergesCard : Claim7 := { stood := { row := schoolMergesRow, standIns := [], harness := (true, "7401afb06fc61065f1e92cf208d0acc128d977d6ad779937a32985a6dbe8fdf2"), looks := true }, kinds := [], alts := [], laidByText := true, laidKinds := [.data, .data, .data, .handle, .sentinel, .sentinel], laidTests := true, laidLooks := .later }
def SchoolMergesCardSaid : Prop := Claim7.holds Tryz.pinned (.plain (OpenSpec.ofChange schoolMergesSpec)) schoolMergesCard

/-- THE TIED CARD OF 'vyakaranalaw09.SchoolRefuses'. -/
def schoolRefusesCard : Claim7 := { stood := { row := schoolRefusesRow, standIns := [], harness := (true, "7401afb06fc61065f1e92cf208d0acc128d977d6ad779937a32985a6dbe8fdf2"), looks := true }, kinds := [], alts := [], laidByText := true, laidKinds := [.data, .data, .data, .handle, .sentinel, .sentinel], laidTests := true, laidLooks := .later }
def SchoolRefusesCardSaid : Prop := Claim7.holds Tryz.pinned (.plain (OpenSpec.ofChange schoolRefusesSpec)) schoolRefusesCard

/-- THE TIED CARD OF 'vyakaranalaw09.SchoolForms'. -/
def schoolFormsCard : Claim7 := { stood := { row := schoolFormsRow, standIns := [], harness := (true, "7401afb06fc61065f1e92cf208d0acc128d977d6ad779937a32985a6dbe8fdf2"), looks := true }, kinds := [], alts := [], laidByText := true, laidKinds := [.data, .data, .data, .handle, .sentinel, .sentinel], laidTests := true, laidLooks := .later }
def SchoolFormsCardSaid : Prop := Claim7.holds Tryz.pinned (.plain (OpenSpec.ofChange schoolFormsSpec)) schoolFormsCard

/-- THE TIED CARD OF 'vyakaranalaw09.SchoolReplays'. -/
def schoolReplaysCard : Claim7 := { stood := { row := schoolReplaysRow, standIns := [], harness := (true, "7401afb06fc61065f1e92cf208d0acc128d977d6ad779937a32985a6dbe8fdf2"), looks := true }, kinds := [], alts := [], laidByText := true, laidKinds := [.data, .data, .data, .handle, .sentinel, .sentinel], laidTests := true, laidLooks := .later }
def SchoolReplaysCardSaid : Prop := Claim7.holds Tryz.pinned (.plain (OpenSpec.ofChange schoolReplaysSpec)) schoolReplaysCard

/-- THE TIED CARD OF 'vyakaranalaw09.SchoolBooks'. -/
def schoolBooksCard : Claim7 := { stood := { row := schoolBooksRow, standIns := [], harness := (true, "7401afb06fc61065f1e92cf208d0acc128d977d6ad779937a32985a6dbe8fdf2"), looks := true }, kinds := [], alts := [], laidByText := true, laidKinds := [.data, .data, .data, .handle, .sentinel, .sentinel], laidTests := true, laidLooks := .later }
def SchoolBooksCardSaid : Prop := Claim7.holds Tryz.pinned (.plain (OpenSpec.ofChange schoolBooksSpec)) schoolBooksCard

/-- THE TIED CARD OF 'vyakaranalaw09.SchoolAudits'. -/
def schoolAuditsCard : Claim7 := { stood := { row := schoolAuditsRow, standIns := [], harness := (true, "7401afb06fc61065f1e92cf208d0acc128d977d6ad779937a32985a6dbe8fdf2"), looks := true }, kinds := [], alts := [], laidByText := true, laidKinds := [.data, .data, .data, .handle, .sentinel, .sentinel], laidTests := true, laidLooks := .later }
def SchoolAuditsCardSaid : Prop := Claim7.holds Tryz.pinned (.plain (OpenSpec.ofChange schoolAuditsSpec)) schoolAuditsCard

/-- THE TIED CARD OF 'vyakaranalaw09.SchoolNews'. -/
def schoolNewsCard : Claim7 := { stood := { row := schoolNewsRow, standIns := [], harness := (true, "7401afb06fc61065f1e92cf208d0acc128d977d6ad779937a32985a6dbe8fdf2"), looks := true }, kinds := [], alts := [], laidByText := true, laidKinds := [.data, .data, .data, .handle, .sentinel, .sentinel], laidTests := true, laidLooks := .later }
def SchoolNewsCardSaid : Prop := Claim7.holds Tryz.pinned (.plain (OpenSpec.ofChange schoolNewsSpec)) schoolNewsCard

/-- THE TIED CARD OF 'vyakaranatop.TopBook'. -/
def topBookCard : Claim7 := { stood := { row := topBookRow, standIns := [], harness := (true, "7401afb06fc61065f1e92cf208d0acc128d977d6ad779937a32985a6dbe8fdf2"), looks := true }, kinds := [], alts := [], laidByText := true, laidKinds := [.data, .data, .data, .handle, .sentinel, .sentinel], laidTests := true, laidLooks := .later }
def TopBookCardSaid : Prop := Claim7.holds Tryz.pinned (.plain (OpenSpec.ofChange topBookSpec)) topBookCard

/-- THE TIED CARD OF 'vyakaranatop.TopReplay'. -/
def topReplayCard : Claim7 := { stood := { row := topReplayRow, standIns := [], harness := (true, "7401afb06fc61065f1e92cf208d0acc128d977d6ad779937a32985a6dbe8fdf2"), looks := true }, kinds := [], alts := [], laidByText := true, laidKinds := [.data, .data, .data, .handle, .sentinel, .sentinel], laidTests := true, laidLooks := .later }
def TopReplayCardSaid : Prop := Claim7.holds Tryz.pinned (.plain (OpenSpec.ofChange topReplaySpec)) topReplayCard

/-- THE TIED CARD OF 'vyakaranatop.TopSchool'. -/
def topSchoolCard : Claim7 := { stood := { row := topSchoolRow, standIns := [], harness := (true, "7401afb06fc61065f1e92cf208d0acc128d977d6ad779937a32985a6dbe8fdf2"), looks := true }, kinds := [], alts := [], laidByText := true, laidKinds := [.data, .data, .data, .handle, .sentinel, .sentinel], laidTests := true, laidLooks := .later }
def TopSchoolCardSaid : Prop := Claim7.holds Tryz.pinned (.plain (OpenSpec.ofChange topSchoolSpec)) topSchoolCard

/-- THE SECOND FORM's CARD OF 'vyakaranalaw09.SchoolUndoes'. -/
def schoolUndoesUptoCard : Claim7 := { stood := { row := schoolUndoesUptoRow, standIns := [], harness := (true, "7401afb06fc61065f1e92cf208d0acc128d977d6ad779937a32985a6dbe8fdf2"), looks := true }, kinds := [], alts := [], laidByText := true, laidKinds := [.data, .data, .data, .handle, .sentinel, .sentinel], laidTests := true, laidLooks := .later }
def SchoolUndoesUptoCardSaid : Prop := Claim7.holds Tryz.pinned (.plain (OpenSpec.upto schoolUndoesSpec)) schoolUndoesUptoCard

/-- THE SECOND FORM's CARD OF 'vyakaranalaw09.SchoolSlates'. -/
def schoolSlatesUptoCard : Claim7 := { stood := { row := schoolSlatesUptoRow, standIns := [], harness := (true, "7401afb06fc61065f1e92cf208d0acc128d977d6ad779937a32985a6dbe8fdf2"), looks := true }, kinds := [], alts := [], laidByText := true, laidKinds := [.data, .data, .data, .handle, .sentinel, .sentinel], laidTests := true, laidLooks := .later }
def SchoolSlatesUptoCardSaid : Prop := Claim7.holds Tryz.pinned (.plain (OpenSpec.upto schoolSlatesSpec)) schoolSlatesUptoCard

/-- THE SECOND FORM's CARD OF 'vyakaranalaw09.SchoolSteps'. -/
def schoolStepsUptoCard : Claim7 := { stood := { row := schoolStepsUptoRow, standIns := [], harness := (true, "7401afb06fc61065f1e92cf208d0acc128d977d6ad779937a32985a6dbe8fdf2"), looks := true }, kinds := [], alts := [], laidByText := true, laidKinds := [.data, .data, .data, .handle, .sentinel, .sentinel], laidTests := true, laidLooks := .later }
def SchoolStepsUptoCardSaid : Prop := Claim7.holds Tryz.pinned (.plain (OpenSpec.upto schoolStepsSpec)) schoolStepsUptoCard

/-- THE SECOND FORM's CARD OF 'vyakaranalaw09.SchoolRuns'. -/
def schoolRunsUptoCard : Claim7 := { stood := { row := schoolRunsUptoRow, standIns := [], harness := (true, "7401afb06fc61065f1e92cf208d0acc128d977d6ad779937a32985a6dbe8fdf2"), looks := true }, kinds := [], alts := [], laidByText := true, laidKinds := [.data, .data, .data, .handle, .sentinel, .sentinel], laidTests := true, laidLooks := .later }
def SchoolRunsUptoCardSaid : Prop := Claim7.holds Tryz.pinned (.plain (OpenSpec.upto schoolRunsSpec)) schoolRunsUptoCard

/-- THE SECOND FORM's CARD OF 'vyakaranalaw09.SchoolReads'. -/
def schoolReadsUptoCard : Claim7 := { stood := { row := schoolReadsUptoRow, standIns := [], harness := (true, "7401afb06fc61065f1e92cf208d0acc128d977d6ad779937a32985a6dbe8fdf2"), looks := true }, kinds := [], alts := [], laidByText := true, laidKinds := [.data, .data, .data, .handle, .sentinel, .sentinel], laidTests := true, laidLooks := .later }
def SchoolReadsUptoCardSaid : Prop := Claim7.holds Tryz.pinned (.plain (OpenSpec.upto schoolReadsSpec)) schoolReadsUptoCard

/-- THE SECOND FORM's CARD OF 'vyakaranalaw09.SchoolWrites'. -/
def schoolWritesUptoCard : Claim7 := { stood := { row := schoolWritesUptoRow, standIns := [], harness := (true, "7401afb06fc61065f1e92cf208d0acc128d977d6ad779937a32985a6dbe8fdf2"), looks := true }, kinds := [], alts := [], laidByText := true, laidKinds := [.data, .data, .data, .handle, .sentinel, .sentinel], laidTests := true, laidLooks := .later }
def SchoolWritesUptoCardSaid : Prop := Claim7.holds Tryz.pinned (.plain (OpenSpec.upto schoolWritesSpec)) schoolWritesUptoCard

/-- THE SECOND FORM's CARD OF 'vyakaranalaw09.SchoolOrders'. -/
def schoolOrdersUptoCard : Claim7 := { stood := { row := schoolOrdersUptoRow, standIns := [], harness := (true, "7401afb06fc61065f1e92cf208d0acc128d977d6ad779937a32985a6dbe8fdf2"), looks := true }, kinds := [], alts := [], laidByText := true, laidKinds := [.data, .data, .data, .handle, .sentinel, .sentinel], laidTests := true, laidLooks := .later }
def SchoolOrdersUptoCardSaid : Prop := Claim7.holds Tryz.pinned (.plain (OpenSpec.upto schoolOrdersSpec)) schoolOrdersUptoCard

/-- THE SECOND FORM's CARD OF 'vyakaranalaw09.SchoolMerges'. -/
def schoolMergesUptoCard : Claim7 := { stood := { row := schoolMergesUptoRow, standIns := [], harness := (true, "7401afb06fc61065f1e92cf208d0acc128d977d6ad779937a32985a6dbe8fdf2"), looks := true }, kinds := [], alts := [], laidByText := true, laidKinds := [.data, .data, .data, .handle, .sentinel, .sentinel], laidTests := true, laidLooks := .later }
def SchoolMergesUptoCardSaid : Prop := Claim7.holds Tryz.pinned (.plain (OpenSpec.upto schoolMergesSpec)) schoolMergesUptoCard

/-- THE SECOND FORM's CARD OF 'vyakaranalaw09.SchoolRefuses'. -/
def schoolRefusesUptoCard : Claim7 := { stood := { row := schoolRefusesUptoRow, standIns := [], harness := (true, "7401afb06fc61065f1e92cf208d0acc128d977d6ad779937a32985a6dbe8fdf2"), looks := true }, kinds := [], alts := [], laidByText := true, laidKinds := [.data, .data, .data, .handle, .sentinel, .sentinel], laidTests := true, laidLooks := .later }
def SchoolRefusesUptoCardSaid : Prop := Claim7.holds Tryz.pinned (.plain (OpenSpec.upto schoolRefusesSpec)) schoolRefusesUptoCard

/-- THE SECOND FORM's CARD OF 'vyakaranalaw09.SchoolForms'. -/
def schoolFormsUptoCard : Claim7 := { stood := { row := schoolFormsUptoRow, standIns := [], harness := (true, "7401afb06fc61065f1e92cf208d0acc128d977d6ad779937a32985a6dbe8fdf2"), looks := true }, kinds := [], alts := [], laidByText := true, laidKinds := [.data, .data, .data, .handle, .sentinel, .sentinel], laidTests := true, laidLooks := .later }
def SchoolFormsUptoCardSaid : Prop := Claim7.holds Tryz.pinned (.plain (OpenSpec.upto schoolFormsSpec)) schoolFormsUptoCard

/-- THE SECOND FORM's CARD OF 'vyakaranalaw09.SchoolReplays'. -/
def schoolReplaysUptoCard : Claim7 := { stood := { row := schoolReplaysUptoRow, standIns := [], harness := (true, "7401afb06fc61065f1e92cf208d0acc128d977d6ad779937a32985a6dbe8fdf2"), looks := true }, kinds := [], alts := [], laidByText := true, laidKinds := [.data, .data, .data, .handle, .sentinel, .sentinel], laidTests := true, laidLooks := .later }
def SchoolReplaysUptoCardSaid : Prop := Claim7.holds Tryz.pinned (.plain (OpenSpec.upto schoolReplaysSpec)) schoolReplaysUptoCard

/-- THE SECOND FORM's CARD OF 'vyakaranalaw09.SchoolBooks'. -/
def schoolBooksUptoCard : Claim7 := { stood := { row := schoolBooksUptoRow, standIns := [], harness := (true, "7401afb06fc61065f1e92cf208d0acc128d977d6ad779937a32985a6dbe8fdf2"), looks := true }, kinds := [], alts := [], laidByText := true, laidKinds := [.data, .data, .data, .handle, .sentinel, .sentinel], laidTests := true, laidLooks := .later }
def SchoolBooksUptoCardSaid : Prop := Claim7.holds Tryz.pinned (.plain (OpenSpec.upto schoolBooksSpec)) schoolBooksUptoCard

/-- THE SECOND FORM's CARD OF 'vyakaranalaw09.SchoolAudits'. -/
def schoolAuditsUptoCard : Claim7 := { stood := { row := schoolAuditsUptoRow, standIns := [], harness := (true, "7401afb06fc61065f1e92cf208d0acc128d977d6ad779937a32985a6dbe8fdf2"), looks := true }, kinds := [], alts := [], laidByText := true, laidKinds := [.data, .data, .data, .handle, .sentinel, .sentinel], laidTests := true, laidLooks := .later }
def SchoolAuditsUptoCardSaid : Prop := Claim7.holds Tryz.pinned (.plain (OpenSpec.upto schoolAuditsSpec)) schoolAuditsUptoCard

/-- THE SECOND FORM's CARD OF 'vyakaranalaw09.SchoolNews'. -/
def schoolNewsUptoCard : Claim7 := { stood := { row := schoolNewsUptoRow, standIns := [], harness := (true, "7401afb06fc61065f1e92cf208d0acc128d977d6ad779937a32985a6dbe8fdf2"), looks := true }, kinds := [], alts := [], laidByText := true, laidKinds := [.data, .data, .data, .handle, .sentinel, .sentinel], laidTests := true, laidLooks := .later }
def SchoolNewsUptoCardSaid : Prop := Claim7.holds Tryz.pinned (.plain (OpenSpec.upto schoolNewsSpec)) schoolNewsUptoCard

/-- THE SECOND FORM's CARD OF 'vyakaranatop.TopBook'. -/
def topBookUptoCard : Claim7 := { stood := { row := topBookUptoRow, standIns := [], harness := (true, "7401afb06fc61065f1e92cf208d0acc128d977d6ad779937a32985a6dbe8fdf2"), looks := true }, kinds := [], alts := [], laidByText := true, laidKinds := [.data, .data, .data, .handle, .sentinel, .sentinel], laidTests := true, laidLooks := .later }
def TopBookUptoCardSaid : Prop := Claim7.holds Tryz.pinned (.plain (OpenSpec.upto topBookSpec)) topBookUptoCard

/-- THE SECOND FORM's CARD OF 'vyakaranatop.TopReplay'. -/
def topReplayUptoCard : Claim7 := { stood := { row := topReplayUptoRow, standIns := [], harness := (true, "7401afb06fc61065f1e92cf208d0acc128d977d6ad779937a32985a6dbe8fdf2"), looks := true }, kinds := [], alts := [], laidByText := true, laidKinds := [.data, .data, .data, .handle, .sentinel, .sentinel], laidTests := true, laidLooks := .later }
def TopReplayUptoCardSaid : Prop := Claim7.holds Tryz.pinned (.plain (OpenSpec.upto topReplaySpec)) topReplayUptoCard

/-- THE SECOND FORM's CARD OF 'vyakaranatop.TopSchool'. -/
def topSchoolUptoCard : Claim7 := { stood := { row := topSchoolUptoRow, standIns := [], harness := (true, "7401afb06fc61065f1e92cf208d0acc128d977d6ad779937a32985a6dbe8fdf2"), looks := true }, kinds := [], alts := [], laidByText := true, laidKinds := [.data, .data, .data, .handle, .sentinel, .sentinel], laidTests := true, laidLooks := .later }
def TopSchoolUptoCardSaid : Prop := Claim7.holds Tryz.pinned (.plain (OpenSpec.upto topSchoolSpec)) topSchoolUptoCard
end Rows
end Go.Proofs.YtpmlcfgbfhgpgaaGreatDoor
