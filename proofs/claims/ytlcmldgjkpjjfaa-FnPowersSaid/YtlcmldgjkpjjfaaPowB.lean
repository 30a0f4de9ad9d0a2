/-
  FnPowers: the pairs, the first part.
-/
import Derived.Test.YtlcmldgjkpjjfaaPow
namespace Go.Proofs.Ytlcmldgjkpjjfaa
open Go.RowKit

def chkS (i j : Nat) : Bool := fop .add .f32 (some (XS (i + 32))) (some (XS (j + 32))) == some (XS (i + j)) &&
  (ford .f64 (gapC (fop .mul .f64 (some (EU (i + 32))) (some (EU (j + 32)))) (some (EU (i + j)))) (fop .mul .f64 (some 4562254508917369340) (some (EU (i + j)))) == some Ordering.lt)
def chkR (a n : Nat) : Bool := (List.range n).all fun i => (List.range 65).all fun j => chkS (a + i) j
theorem chkR_0 : chkR 0 13 = true := by decide +kernel
theorem chkR_13 : chkR 13 13 = true := by decide +kernel
end Go.Proofs.Ytlcmldgjkpjjfaa
