/- ClaimHash: the encodings of the normal forms of a claim of each of two offices have the same hash exactly if the offices are the same; for all inputs, no condition. -/
import Derived.Test.YtpggedoopjcflaaPClaimHashx0
import Derived.Test.YtpggedoopjcflaaPClaimHashELawCH
namespace Go.Proofs.Ytpggedoopjcflaa.Pure
theorem ClaimHash : Go.Proofs.Ytpggedoopjcflaa.PClaimHash.meresmanlaw14_ClaimHash.Pure := trivial
end Go.Proofs.Ytpggedoopjcflaa.Pure
