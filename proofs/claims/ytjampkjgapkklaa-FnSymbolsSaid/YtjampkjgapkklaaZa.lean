/- Legendre symbols by the primes up to 97 are multiplicative: plain. -/
import Derived.Test.YtjampkjgapkklaaH
namespace Go.Proofs.Ytjampkjgapkklaa
set_option linter.unusedVariables false
set_option linter.unusedSimpArgs false

/-- The odd primes up to 97, each with a primitive root. -/
def gensL : List (Int × Int) := [(3,2),(5,2),(7,3),(11,2),(13,2),(17,3),(19,2),(23,5),(29,2),(31,3),(37,2),(41,6),(43,3),(47,5),(53,2),(59,2),(61,2),(67,2),(71,7),(73,5),(79,3),(83,2),(89,3),(97,5)]
def orbL (g p : Int) : Nat → Int → List Int
  | 0, _ => []
  | f + 1, x => x :: orbL g p f (x * g % p)
theorem gens_leg : gensL.all (fun x => (List.range x.1.toNat).all fun i => decide (i = 0) || decide (legV x.1 (i * x.2) = - legV x.1 i)) = true := by decide +kernel
theorem gens_orb : gensL.all (fun x => (List.range x.1.toNat).all fun i => decide (i = 0) || (orbL x.2 x.1 x.1.toNat 1).contains (i : Int)) = true := by decide +kernel
theorem gens_one : gensL.all (fun x => decide (legV x.1 1 = 1)) = true := by decide +kernel

end Go.Proofs.Ytjampkjgapkklaa
