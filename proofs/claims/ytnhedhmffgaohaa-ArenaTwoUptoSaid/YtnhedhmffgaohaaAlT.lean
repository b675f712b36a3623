/- The law's own 'thing': what a value of more than one word is. -/
import Derived.Test.YtnhedhmffgaohaaAlE
import Derived.Laws.IdiomStrings
namespace Go.Proofs.Ytnhedhmffgaohaa
open Go.RowKit
namespace Al
open ArT (tT)

set_option maxHeartbeats 800000 in
set_option maxRecDepth 100000 in
theorem thing_any (n : Int) (w : World) (hn : I64 n) :
    Calls Try.prog 62 #[.int .i64 n] w fun e w' => e = .returned (thv n) ∧ Only Nil w w' := by
  obtain ⟨hn1, hn2⟩ := hn
  have hbl := blk_new' (w.alloc (.cells #[.int .i64 0, .string ⟨#[]⟩] tT)) (.cells #[.int .u8 (n % 256), .int .u8 (n / 256 % 256)] 5) (w.heap.size + 1) (by simp)
  have hconv : (convert 174 9 (.slice (some ⟨w.heap.size + 1, 0, none⟩) 2 2)).run Try.prog ((w.alloc (.cells #[.int .i64 0, .string ⟨#[]⟩] tT)).alloc (.cells #[.int .u8 (n % 256), .int .u8 (n / 256 % 256)] 5)) = .ok (.string (thS n)) ((w.alloc (.cells #[.int .i64 0, .string ⟨#[]⟩] tT)).alloc (.cells #[.int .u8 (n % 256), .int .u8 (n / 256 % 256)] 5)) := run_convert_bytes_back (P := Try.prog) ((w.alloc (.cells #[.int .i64 0, .string ⟨#[]⟩] tT)).alloc (.cells #[.int .u8 (n % 256), .int .u8 (n / 256 % 256)] 5)) 174 9 5 ⟨w.heap.size + 1, 0, none⟩ 2
    [UInt8.ofNat (n % 256).toNat, UInt8.ofNat (n / 256 % 256).toNat] Try.underlying174 Try.underlying5 Try.underlying9 (fun j hj => by
      rw [Addr.add_lit, blk_cell hbl]
      have h2 : j = 0 ∨ j = 1 := by simp at hj; omega
      rcases h2 with rfl | rfl
      · simp; omega
      · simp; omega)
  clear hbl
  go_enter Try.func62, Try.ntmps62
  go_wp2
  refine bodyPost_ret (v := .agg #[.int .i64 n, .string (thS n)]) (by simp [results, Try.results62, go_sem]) rfl ⟨rfl, ?_⟩
  exact ((Only.refl _ w).alloc _).alloc _
end Al
end Go.Proofs.Ytnhedhmffgaohaa
