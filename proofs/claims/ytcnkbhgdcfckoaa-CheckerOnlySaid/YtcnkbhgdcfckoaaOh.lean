/- The law CheckerOnly, for whatever comes in: the parts joined. -/
import Derived.Test.YtcnkbhgdcfckoaaOf
import Derived.Test.YtcnkbhgdcfckoaaOg
set_option linter.unusedVariables false
set_option linter.unusedSimpArgs false
namespace Go.Proofs.Ytcnkbhgdcfckoaa
open Go.RowKit
namespace Ck
theorem only_law (cap meet : Int) (v : Value) (l : List Ev) (w : World) (h : LA w v l) (hw : ∀ e ∈ l, e.wf) (hln : l.length * 104 ≤ 140737488355328) :
    Calls Try.prog 3 #[.agg #[.int .i64 cap, .int .i64 meet], v] w fun r w' => r = .returned (.bool true) ∧ Only Nil w w' := by
  cases hf : fit cap meet with
  | false => exact only_no cap meet v l w h hln hf (Lib.hid (fun W v hv => check_no cap meet v W hf hv.isSl))
  | true =>
    have hck := fun W v (hv : LE W v l) => check_yes cap meet v l W hv hw hf
    by_cases hz : (checkGo (pk0 cap meet) 0 l).2 = 0
    · obtain ⟨h1, y, h2, h3⟩ := checkGo_zero l _ _ hz
      rw [Nat.zero_add] at h1
      rw [h1, hz] at hck
      exact only_ok cap meet v l w h hln hf hw y h2 h3 (Lib.hid hck)
    · have h1 := checkGo_le l (pk0 cap meet) 0
      rw [Nat.zero_add] at h1
      refine only_bad cap meet v l w h hln hf _ h1 _ hz ?_ (Lib.hid hck)
      rcases checkGo_code l (pk0 cap meet) 0 with q | ⟨q, _⟩
      · exact absurd q hz
      · omega
end Ck
end Go.Proofs.Ytcnkbhgdcfckoaa
