/- FnExactConstants, as numbers alone: every constant is the document's. No condition. -/
import Derived.Test.YtpbkiokcailkcaaPFnExactConstantsx1
import Derived.Test.YtpbkiokcailkcaaModel
namespace Go.Proofs.Ytpbkiokcailkcaa.KFnExactConstants
open Go.RowKit Go.Proofs.Ytpbkiokcailkcaa.PFnExactConstants Go.Proofs.YtpbkiokcailkcaaW.PrintWords Go.Proofs.YtpbkiokcailkcaaW.PrintLast Go.Proofs.YtpbkiokcailkcaaW.PrintMore Go.Proofs.Ytpbkiokcailkcaa.K
set_option linter.unusedSimpArgs false
set_option linter.unusedVariables false

theorem FnExactConstants_ok : laws_FnExactConstants.Pure := rfl

end Go.Proofs.Ytpbkiokcailkcaa.KFnExactConstants
namespace Go.Proofs.Ytpbkiokcailkcaa.Pure
open Go.Proofs.Ytpbkiokcailkcaa.PFnExactConstants
theorem FnExactConstants : laws_FnExactConstants.Pure := Go.Proofs.Ytpbkiokcailkcaa.KFnExactConstants.FnExactConstants_ok
end Go.Proofs.Ytpbkiokcailkcaa.Pure
