/- Contracts: is a code big? -/
import Derived.Test.YtcecmjnbhppocaaDoorNd
namespace Go.Proofs.YtcecmjnbhppocaaDoor
open Go.RowKit
set_option linter.unusedVariables false
set_option linter.unusedSimpArgs false

theorem big_yes {a : Option Addr} {n cap : Nat} {w : World} (h : 4096 < n) (hm : n ≤ maxLen) :
    Calls Tryd.prog 14 #[.slice a n cap] w fun e w' => e = .returned (.bool true) ∧ w = w' := by
  have h1 : decide ((4096 : Int) < (n : Int)) = true := by simp; omega
  go_enter Tryd.func14, Tryd.ntmps14
  go_wp2
  go_ret
  exact ⟨rfl, rfl⟩
theorem big_no {a : Option Addr} {n cap : Nat} {w : World} (h : n ≤ 4096) :
    Calls Tryd.prog 14 #[.slice a n cap] w fun e w' => e = .returned (.bool false) ∧ w = w' := by
  have h1 : decide ((4096 : Int) < (n : Int)) = false := by simp; omega
  go_enter Tryd.func14, Tryd.ntmps14
  go_wp2
  go_ret
  exact ⟨rfl, rfl⟩
theorem IsRow.max {k : IntKind} {w : World} {a : Option Addr} {len cap : Nat} {zs : List Int} (h : IsRow k w a len cap zs) : len ≤ maxLen := by
  rcases h with ⟨rfl, rfl, rfl, rfl⟩ | ⟨x, rfl, hlc, hm, hz, hcell, hwf⟩
  · simp
  · omega
theorem Bytes.next {w w' : World} {lo : Nat} {v : Value} {bs : List Int} (h : Bytes w lo v bs) (hb : Below lo w w') (hlo : lo ≤ w'.heap.size) : Bytes w' w'.heap.size v bs :=
  (h.kept fun k hk => hb.block k hk).mono hlo

end Go.Proofs.YtcecmjnbhppocaaDoor
