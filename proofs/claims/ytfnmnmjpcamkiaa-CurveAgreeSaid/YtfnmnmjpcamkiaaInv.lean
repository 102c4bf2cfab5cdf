/-
  Layer 1: powers by squaring: the inverse's chain is the power p - 2. No program in sight.
-/
import Derived.Test.YtfnmnmjpcamkiaaTms
namespace Go.Proofs.Ytfnmnmjpcamkiaa
set_option linter.unusedVariables false

theorem mul_mod_of {a b x y : Int} (ha : a % PP = x % PP) (hb : b % PP = y % PP) : a * b % PP = x * y % PP := by
  rw [Int.mul_emod, ha, hb, ← Int.mul_emod]

theorem tim_pow {a b : El} {x : Int} {m n : Nat} (ha : a.val % PP = x ^ m % PP) (hb : b.val % PP = x ^ n % PP) : (timE a b).val % PP = x ^ (m + n) % PP := by
  rw [timE_mod, Int.pow_add]
  exact mul_mod_of ha hb

theorem sq_pow {a : El} {x : Int} {m : Nat} (ha : a.val % PP = x ^ m % PP) : ∀ k, (sqE a k).val % PP = x ^ (m * 2 ^ k) % PP
  | 0 => by simpa [sqE] using ha
  | k + 1 => by
    have ih := sq_pow ha k
    have := tim_pow ih ih
    unfold sqE
    rw [this]
    congr 2
    rw [Nat.pow_succ, ← Nat.mul_assoc]
    omega

/-- The chain. -/
def twoE (e : El) : El := sqE e 1
def nineE (e : El) : El := timE e (sqE (twoE e) 2)
def elevE (e : El) : El := timE (nineE e) (twoE e)
def cA (e : El) : El := timE (nineE e) (sqE (elevE e) 1)
def cB (e : El) : El := timE (cA e) (sqE (cA e) 5)
def cC (e : El) : El := timE (cB e) (sqE (cB e) 10)
def cD (e : El) : El := timE (cC e) (sqE (cC e) 20)
def cF (e : El) : El := timE (cB e) (sqE (cD e) 10)
def cG (e : El) : El := timE (cF e) (sqE (cF e) 50)
def cH (e : El) : El := timE (cG e) (sqE (cG e) 100)
def invE (e : El) : El := timE (elevE e) (sqE (timE (cF e) (sqE (cH e) 50)) 5)

theorem pow_one_mod (x : Int) : x % PP = x ^ 1 % PP := by rw [Int.pow_succ, Int.pow_zero, Int.one_mul]

theorem invE_mod (e : El) : (invE e).val % PP = e.val ^ 57896044618658097711785492504343953926634992332820282019728792003956564819947 % PP := by
  have h1 := pow_one_mod e.val
  have two : (twoE e).val % PP = e.val ^ 2 % PP := sq_pow h1 1
  have nine : (nineE e).val % PP = e.val ^ 9 % PP := tim_pow h1 (sq_pow two 2)
  have elev : (elevE e).val % PP = e.val ^ 11 % PP := tim_pow nine two
  have a : (cA e).val % PP = e.val ^ 31 % PP := tim_pow nine (sq_pow elev 1)
  have b : (cB e).val % PP = e.val ^ 1023 % PP := tim_pow a (sq_pow a 5)
  have c : (cC e).val % PP = e.val ^ 1048575 % PP := tim_pow b (sq_pow b 10)
  have d : (cD e).val % PP = e.val ^ 1099511627775 % PP := tim_pow c (sq_pow c 20)
  have f : (cF e).val % PP = e.val ^ 1125899906842623 % PP := tim_pow b (sq_pow d 10)
  have g : (cG e).val % PP = e.val ^ 1267650600228229401496703205375 % PP := tim_pow f (sq_pow f 50)
  have h : (cH e).val % PP = e.val ^ 1606938044258990275541962092341162602522202993782792835301375 % PP := tim_pow g (sq_pow g 100)
  have i : (timE (cF e) (sqE (cH e) 50)).val % PP = e.val ^ 1809251394333065553493296640760748560207343510400633813116524750123642650623 % PP := tim_pow f (sq_pow h 50)
  exact tim_pow elev (sq_pow i 5)

theorem invE_fine {e : El} (h : e.Fine) : (invE e).Fine := by
  have two : (twoE e).Fine := sqE_fine h 1
  have nine : (nineE e).Fine := timE_fine h (sqE_fine two 2)
  have elev : (elevE e).Fine := timE_fine nine two
  have a : (cA e).Fine := timE_fine nine (sqE_fine elev 1)
  have b : (cB e).Fine := timE_fine a (sqE_fine a 5)
  have c : (cC e).Fine := timE_fine b (sqE_fine b 10)
  have d : (cD e).Fine := timE_fine c (sqE_fine c 20)
  have f : (cF e).Fine := timE_fine b (sqE_fine d 10)
  have g : (cG e).Fine := timE_fine f (sqE_fine f 50)
  have hh : (cH e).Fine := timE_fine g (sqE_fine g 100)
  exact timE_fine elev (sqE_fine (timE_fine f (sqE_fine hh 50)) 5)

end Go.Proofs.Ytfnmnmjpcamkiaa
