/- Walks over the disk's small functions. -/
import Derived.Test.YtigohpgdkpcdkaaLib
import Derived.Test.YtigohpgdkpcdkaaChecked
set_option linter.unusedVariables false
set_option linter.unusedSimpArgs false
namespace Go.Proofs.Ytigohpgdkpcdkaa.Dk
open Go.RowKit Go.Proofs.YtigohpgdkpcdkaaW.PrintWords Go.Proofs.Ytigohpgdkpcdkaa.L

set_option maxHeartbeats 400000 in
theorem new_no (n : Int) (w : World) (h : ¬ (3 ≤ n ∧ n ≤ 2048)) :
    Calls Try.prog 13 #[.int .i64 n] w fun e w' => e = .returned (.tuple #[.pointer none, .int .i64 1]) ∧ w = w' := by
  by_cases h1 : 3 ≤ n
  · have h2 : ¬ n ≤ 2048 := fun h2 => h ⟨h1, h2⟩
    go_enter Try.func13, Try.ntmps13
    go_wp2
    go_ret2
    exact ⟨rfl, rfl⟩
  · go_enter Try.func13, Try.ntmps13
    go_wp2
    go_ret2
    exact ⟨rfl, rfl⟩

theorem info22 : (Try.prog.info? 22).map (fun i => (i.zero, i.size, i.bytes)) = some (some (.slice none 0 0), 1, 24) := by kernel_rfl

set_option maxHeartbeats 400000 in
theorem new_yes (n : Nat) (w : World) (h1 : 3 ≤ n) (h2 : n ≤ 2048) :
    Calls Try.prog 13 #[.int .i64 n] w fun e w' => e = .returned (.tuple #[.pointer (some ⟨w.heap.size + 1, 0, none⟩), .int .i64 0]) ∧
      w' = (w.alloc (.cells (madeCells #[.slice none 0 0] n) 22)).alloc (.cells #[.slice (some ⟨w.heap.size, 0, none⟩) n n, .bool false, .int .i64 0, .slice none 0 0, .slice none 0 0, .int .i64 0, .bool false] 136) := by
  have hmk := fun W : World => run_make_row' (P := Try.prog) 131 22 (.slice none 0 0) 24 Try.underlying131 info22 rfl .i64 .i64 n (by omega) (by omega) W
  go_enter Try.func13, Try.ntmps13
  go_wp2
  go_ret2
  exact ⟨rfl, rfl⟩

set_option maxHeartbeats 400000 in
theorem sectors_any (b : Nat) (A : Option Addr) (n c : Nat) (w : World) (hc : w.cell? ⟨b, 0, none⟩ = some (.slice A n c)) :
    Calls Try.prog 64 #[.pointer (some ⟨b, 0, none⟩)] w fun e w' => e = .returned (.int .i64 n) ∧ w = w' := by
  go_enter Try.func64, Try.ntmps64
  go_wp2
  go_ret
  exact ⟨rfl, rfl⟩

set_option maxHeartbeats 400000 in
theorem reboot_any (b : Nat) (v : Value) (w : World) (hc : w.cell? ⟨b, 6, none⟩ = some v) (hf : w.frozen? ⟨b, 6, none⟩ = false) :
    Calls Try.prog 25 #[.pointer (some ⟨b, 0, none⟩)] w fun e w' => e = .returned (.tuple #[]) ∧ w.setCell ⟨b, 6, none⟩ (.bool false) = w' := by
  go_enter Try.func25, Try.ntmps25
  go_wp2
  go_end0
  exact ⟨rfl, rfl⟩
end Go.Proofs.Ytigohpgdkpcdkaa.Dk
