/-
  2^255 - 19 is a prime: certificates (printed by wip/tools/primes.py). No program in sight.
-/
import Derived.Test.YtfnmnmjpcamkiaaPrm
namespace Go.Proofs.Ytfnmnmjpcamkiaa
set_option maxRecDepth 100000

theorem prm_569003 : Prm 569003 := prm_trial 569003 (by decide) 755 (by decide) (by decide +kernel)
theorem prm_2773320623 : Prm 2773320623 := pock1 (q := 569003) (R := 4874) (a := 2) prm_569003 (by decide) (by decide) (by decide) 32 (by decide +kernel) (by decide +kernel) (by decide +kernel) (by decide +kernel)
theorem prm_72106336199 : Prm 72106336199 := pock1 (q := 2773320623) (R := 26) (a := 2) prm_2773320623 (by decide) (by decide) (by decide) 37 (by decide +kernel) (by decide +kernel) (by decide +kernel) (by decide +kernel)
theorem prm_8574133 : Prm 8574133 := prm_trial 8574133 (by decide) 2929 (by decide) (by decide +kernel)
theorem prm_127 : Prm 127 := prm_trial 127 (by decide) 12 (by decide) (by decide +kernel)
theorem prm_1919519569386763 : Prm 1919519569386763 := pock2 (q := 8574133) (s := 127) (R := 223873314) (T := 15114327318006) (a := 2) (b := 2) prm_8574133 prm_127 (by decide) (by decide) (by decide) (by decide) (by decide) (by decide) 51 (by decide +kernel) (by decide +kernel) (by decide +kernel) (by decide +kernel) (by decide +kernel) (by decide +kernel) (by decide +kernel)
theorem prm_430751 : Prm 430751 := prm_trial 430751 (by decide) 657 (by decide) (by decide +kernel)
theorem prm_4153 : Prm 4153 := prm_trial 4153 (by decide) 65 (by decide) (by decide +kernel)
theorem prm_31757755568855353 : Prm 31757755568855353 := pock2 (q := 430751) (s := 4153) (R := 73726481352) (T := 7646943310584) (a := 2) (b := 2) prm_430751 prm_4153 (by decide) (by decide) (by decide) (by decide) (by decide) (by decide) 55 (by decide +kernel) (by decide +kernel) (by decide +kernel) (by decide +kernel) (by decide +kernel) (by decide +kernel) (by decide +kernel)
theorem prm_75445702479781427272750846543864801 : Prm 75445702479781427272750846543864801 := pock2 (q := 1919519569386763) (s := 72106336199) (R := 39304471641247389600) (T := 1046311689884858398375200) (a := 2) (b := 2) prm_1919519569386763 prm_72106336199 (by decide) (by decide) (by decide) (by decide) (by decide) (by decide) 116 (by decide +kernel) (by decide +kernel) (by decide +kernel) (by decide +kernel) (by decide +kernel) (by decide +kernel) (by decide +kernel)
theorem prm_q : Prm 74058212732561358302231226437062788676166966415465897661863160754340907 := pock2 (q := 31757755568855353) (s := 75445702479781427272750846543864801) (R := 2331972502653487852620185443007392165117953542933313402) (T := 981609426360740691344999861639072106) (a := 2) (b := 2) prm_31757755568855353 prm_75445702479781427272750846543864801 (by decide) (by decide) (by decide) (by decide) (by decide) (by decide) 236 (by decide +kernel) (by decide +kernel) (by decide +kernel) (by decide +kernel) (by decide +kernel) (by decide +kernel) (by decide +kernel)
theorem prm_p : Prm 57896044618658097711785492504343953926634992332820282019728792003956564819949 := pock1 (q := 74058212732561358302231226437062788676166966415465897661863160754340907) (R := 781764) (a := 2) prm_q (by decide) (by decide) (by decide) 255 (by decide +kernel) (by decide +kernel) (by decide +kernel) (by decide +kernel)

end Go.Proofs.Ytfnmnmjpcamkiaa
