/- Names: the numbers of package api are those that the document gives; both loops of the law run to their ends and every comparison holds. No condition. -/
import Derived.Test.YtaojijahpdnjhaaPNamesx1
namespace Go.Proofs.Ytaojijahpdnjhaa.Pure
open Go.RowKit Go.Proofs.Ytaojijahpdnjhaa.PNames Go.Proofs.YtaojijahpdnjhaaW.PrintWords Go.Proofs.YtaojijahpdnjhaaW.PrintLast

theorem Names : ashlarlaw0_Names.Pure := ⟨100, by decide +kernel⟩

end Go.Proofs.Ytaojijahpdnjhaa.Pure
