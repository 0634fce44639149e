/-
  Walks of the reference of layer 4: Tunes, Reads.
-/
import Derived.Test.YtmkhjcgaidmehaaGreatRe
namespace Go.Proofs.YtmkhjcgaidmehaaGreat
open Go.RowKit Kr

end Go.Proofs.YtmkhjcgaidmehaaGreat
