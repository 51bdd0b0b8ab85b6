/- One operation of a table: all kinds. -/
import Derived.Test.YtlhjfblpinpjiaaTb7a
import Derived.Test.YtlhjfblpinpjiaaTb7b
import Derived.Test.YtlhjfblpinpjiaaTb7c
import Derived.Test.YtlhjfblpinpjiaaTb7d
import Derived.Test.YtlhjfblpinpjiaaTb7e
import Derived.Test.YtlhjfblpinpjiaaTb7f
set_option linter.unusedVariables false
set_option linter.unusedSimpArgs false
namespace Go.Proofs.Ytlhjfblpinpjiaa
open Go.RowKit

theorem one_calls {base g c : Nat} {w : World} {l : List Rw} {A : Option Addr} (h : Tab base w g l A c) (x : OpR) (hv : x.val.size ≤ 9223372036854775807) (hm : x.kind = 6 → 1 ≤ x.most ∧ x.most ≤ 100) :
    Calls Try.prog 43 #[.pointer (some ⟨g, 0, none⟩), .agg x.enc.toArray] w (OnePost base w A g (oneP l x)) := by
  by_cases h6 : x.kind = 6
  · by_cases hmin : x.most.toNat ≤ l.length - pos x.key l
    · exact one6a_calls h x hmin hv h6 hm
    · by_cases hci : c = pos x.key l
      · exact one6b_calls h x hmin hci hv h6 hm
      · exact one6c_calls h x hmin hci hv h6 hm
  · by_cases h5 : x.kind = 5
    · exact one5_calls h x hv h5
    · by_cases h4 : x.kind = 4
      · exact one4_calls h x hv h4
      · exact onew_calls h x hv h4 h5 h6

end Go.Proofs.Ytlhjfblpinpjiaa
