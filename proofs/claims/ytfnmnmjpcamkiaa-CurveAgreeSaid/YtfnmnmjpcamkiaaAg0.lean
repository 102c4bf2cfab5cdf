/-
  The order of the base point is a prime: certificates (printed by wip/tools/primesl.py). No program in sight.
-/
import Derived.Test.YtfnmnmjpcamkiaaPrm
namespace Go.Proofs.Ytfnmnmjpcamkiaa
set_option maxRecDepth 100000

theorem prm_1224481 : Prm 1224481 := prm_trial 1224481 (by decide) 1107 (by decide) (by decide +kernel)
theorem prm_531581 : Prm 531581 := prm_trial 531581 (by decide) 730 (by decide) (by decide +kernel)
theorem prm_1257559732178653 : Prm 1257559732178653 := pock2 (q := 1224481) (s := 531581) (R := 1027014492) (T := 2365697292) (a := 2) (b := 2) prm_1224481 prm_531581 (by decide) (by decide) (by decide) (by decide) (by decide) (by decide) 51 (by decide +kernel) (by decide +kernel) (by decide +kernel) (by decide +kernel) (by decide +kernel) (by decide +kernel) (by decide +kernel)
theorem prm_4434155615661930479 : Prm 4434155615661930479 := pock1 (q := 1257559732178653) (R := 3526) (a := 2) prm_1257559732178653 (by decide) (by decide) (by decide) 62 (by decide +kernel) (by decide +kernel) (by decide +kernel) (by decide +kernel)
theorem prm_172054593956031949258510691 : Prm 172054593956031949258510691 := pock1 (q := 4434155615661930479) (R := 38802110) (a := 2) prm_4434155615661930479 (by decide) (by decide) (by decide) 88 (by decide +kernel) (by decide +kernel) (by decide +kernel) (by decide +kernel)
theorem prm_19757330305831588566944191468367130476339 : Prm 19757330305831588566944191468367130476339 := pock1 (q := 172054593956031949258510691) (R := 114831751082918) (a := 2) prm_172054593956031949258510691 (by decide) (by decide) (by decide) 134 (by decide +kernel) (by decide +kernel) (by decide +kernel) (by decide +kernel)
theorem prm_276602624281642239937218680557139826668747 : Prm 276602624281642239937218680557139826668747 := pock1 (q := 19757330305831588566944191468367130476339) (R := 14) (a := 2) prm_19757330305831588566944191468367130476339 (by decide) (by decide) (by decide) 138 (by decide +kernel) (by decide +kernel) (by decide +kernel) (by decide +kernel)
theorem prm_l : Prm 7237005577332262213973186563042994240857116359379907606001950938285454250989 := pock1 (q := 276602624281642239937218680557139826668747) (R := 26163907866482859529727157400808004) (a := 2) prm_276602624281642239937218680557139826668747 (by decide) (by decide) (by decide) 253 (by decide +kernel) (by decide +kernel) (by decide +kernel) (by decide +kernel)

end Go.Proofs.Ytfnmnmjpcamkiaa
