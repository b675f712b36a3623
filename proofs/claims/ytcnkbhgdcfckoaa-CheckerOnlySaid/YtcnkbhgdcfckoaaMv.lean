/- The program's checker of no events, plain. -/
import Derived.Test.YtcnkbhgdcfckoaaMc
import Derived.Test.YtcnkbhgdcfckoaaMa
set_option linter.unusedVariables false
set_option linter.unusedSimpArgs false
namespace Go.Proofs.Ytcnkbhgdcfckoaa
open Go.RowKit
namespace Ck
def pk0 (cap meet : Int) : Pk := ⟨⟨cap, meet, [], [], 0, 0⟩, none, none⟩
theorem pk0_ok {cap meet : Int} (h : fit cap meet = true) : (pk0 cap meet).ok := by
  obtain ⟨h1, h2, h3, h4⟩ := fit_yes h
  have z0 : (0 : Int) ≤ 0 ∧ (0 : Int) < 18446744073709551616 := ⟨by omega, by omega⟩
  have hb : Bk.ok (pk0 cap meet).b := ⟨⟨h1, h2⟩, ⟨h3, h4⟩, z0, z0, fun r hr => (by cases hr), fun r hr => (by cases hr), List.nodup_nil, Nat.zero_le _⟩
  exact ⟨hb, fun r hr => (by cases hr), fun c hc => (by cases hc), fun _ r hr => (by cases hr), fun i hi => (by cases hi)⟩
end Ck
end Go.Proofs.Ytcnkbhgdcfckoaa
