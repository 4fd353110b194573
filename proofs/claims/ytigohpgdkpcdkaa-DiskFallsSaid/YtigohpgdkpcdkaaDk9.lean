/- The law's helpers: lists of bytes held against one another; all sectors. -/
import Derived.Test.YtigohpgdkpcdkaaDk8
set_option linter.unusedVariables false
set_option linter.unusedSimpArgs false
namespace Go.Proofs.Ytigohpgdkpcdkaa.Dk
open Go.RowKit Go.Proofs.YtigohpgdkpcdkaaW.PrintWords Go.Proofs.Ytigohpgdkpcdkaa.L

/-- The kind of a slice of bytes, as an element. -/
abbrev kB : Kd (List Int) := Kd.slice 5 (Kd.int .u8)
theorem info22' : (Try.prog.info? 22).map (·.size) = some 1 := by kernel_rfl

set_option maxHeartbeats 400000 in
theorem bytes_same (A B : Option Addr) (c d : Nat) (xs : List Int) (w : World) (ha : (Kd.int .u8).C w A xs.length xs) (hb : (Kd.int .u8).C w B xs.length xs) :
    Calls Try.prog 19 #[.slice A xs.length c, .slice B xs.length d] w fun e w' => e = .returned (.bool true) ∧ w = w' := by
  have h1 := Kd.C_string (c := c) (P := Try.prog) (src := 22) (dst := 9) Try.underlying22 Try.underlying5 Try.underlying9 ha
  have h2 := Kd.C_string (c := d) (P := Try.prog) (src := 22) (dst := 9) Try.underlying22 Try.underlying5 Try.underlying9 hb
  obtain ⟨s, hs⟩ : ∃ s, s = strOfNums xs := ⟨_, rfl⟩
  rw [← hs] at h1 h2
  clear hs ha hb
  go_enter Try.func19, Try.ntmps19
  go_wp2
  go_ret
  exact ⟨by simp, rfl⟩

/-- An element of a list of slices of bytes. -/
theorem kB_at {w : World} {A : Option Addr} {ls : List (List Int)} (h : kB.C w A ls.length ls) (j : Nat) (hj : j < ls.length) : ∃ ad B c, A = some ad ∧ w.cell? (ad.add j) = some (.slice B ls[j].length c) ∧ ls[j].length ≤ c ∧ (Kd.int .u8).C w B ls[j].length ls[j] := by
  obtain ⟨ad, rfl, hc⟩ := h.2.2 (by omega)
  obtain ⟨cs, hcl, ⟨B, c, rfl, hl, hr⟩, hcell⟩ := hc j _ (List.getElem?_eq_getElem hj)
  have := hcell 0 _ rfl
  rw [show kB.sz = 1 from rfl, Nat.mul_one, Nat.add_zero] at this
  exact ⟨ad, B, c, rfl, this, hl, hr⟩

set_option maxHeartbeats 1000000 in
theorem lists_same (A B : Option Addr) (c d : Nat) (ls : List (List Int)) (w : World) (ha : kB.C w A ls.length ls) (hb : kB.C w B ls.length ls) :
    Calls Try.prog 15 #[.slice A ls.length c, .slice B ls.length d] w fun e w' => e = .returned (.bool true) ∧ Below w.heap.size w w' := by
  have HA := Lib.hid ha
  have HB := Lib.hid hb
  have hlm : ls.length ≤ 9223372036854775807 := ha.2.1
  clear ha hb
  go_enter Try.func15, Try.ntmps15
  go_wp2
  go_loopg [5] ls.length (fun r i wr => ∃ j : Nat, i = .int .i64 (j : Int) ∧ Hid (j + r = ls.length ∧ Below w.heap.size w wr))
  case atStart => exact ⟨0, rfl, by simp, Below.refl _ _⟩
  case round =>
    obtain ⟨j, rfl, HI⟩ := hrel
    by_cases hlt : j < ls.length
    · obtain ⟨a1, B1, c1, rfl, hq1, -, hr1⟩ := kB_at HA.out j hlt
      obtain ⟨a2, B2, c2, rfl, hq2, -, hr2⟩ := kB_at HB.out j hlt
      have hq1' := cell_kept hq1 (Kept.of_below HI.out.2 (fun _ => False)) id
      have hq2' := cell_kept hq2 (Kept.of_below HI.out.2 (fun _ => False)) id
      have HBY := Lib.hid (fun (W : World) (hW : Below w.heap.size w W) => bytes_same B1 B2 c1 c2 ls[j] W (Kd.C_below hr1 hW) (Kd.C_below hr2 hW))
      clear hq1 hq2 hr1 hr2
      go_wp2_with fail
      go_quiet ((go_at_call 19; exact Calls.quiet_of_same ((HBY.out _ (by repeat (first | exact HI.out.2 | apply below_drew | apply pw_below_drewN))).mono (fun _ _ h => ⟨h.1, h.2.symm⟩))))
      go_wp2
      go_roundg (ls.length - (j + 1))
      case measure => have := HI.out.1; omega
      case rel => exact ⟨j + 1, by go_num, by omega, pw_below_drewN HI.out.2 _⟩
    · go_wp2
      go_ret
      exact ⟨rfl, HI.out.2⟩
end Go.Proofs.Ytigohpgdkpcdkaa.Dk
