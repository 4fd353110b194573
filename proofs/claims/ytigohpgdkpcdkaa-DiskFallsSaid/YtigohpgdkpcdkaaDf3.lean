/- The law DiskFalls: every argument. -/
import Derived.Test.YtigohpgdkpcdkaaDf2
set_option linter.unusedVariables false
set_option linter.unusedSimpArgs false
namespace Go.Proofs.Ytigohpgdkpcdkaa.Dk
open Go.RowKit Go.Proofs.YtigohpgdkpcdkaaW.PrintWords Go.Proofs.Ytigohpgdkpcdkaa.L

set_option maxHeartbeats 1000000 in
set_option maxRecDepth 100000 in
theorem falls_any (n at_ wr_ : Int) (anew : Bool) (w : World) (hn1 : -9223372036854775808 ≤ n) (hn2 : n ≤ 9223372036854775807) (ha1 : -9223372036854775808 ≤ at_) (ha2 : at_ ≤ 9223372036854775807) (hw1 : -9223372036854775808 ≤ wr_) (hw2 : wr_ ≤ 9223372036854775807) :
    Calls Try.prog 5 #[.int .i64 n, .int .i64 at_, .int .i64 wr_, .bool anew] w fun e w' => e = .returned (.bool true) ∧ Below w.heap.size w w' := by
  by_cases h0 : 3 ≤ n
  · by_cases h1 : n ≤ 60
    · by_cases h2 : 1 ≤ at_
      · by_cases h3 : at_ ≤ 50
        · by_cases h4 : 0 ≤ wr_
          · by_cases h5 : wr_ ≤ 40
            · obtain ⟨n', rfl⟩ := Int.eq_ofNat_of_zero_le (show 0 ≤ n by omega)
              obtain ⟨a', rfl⟩ := Int.eq_ofNat_of_zero_le (show 0 ≤ at_ by omega)
              obtain ⟨m', rfl⟩ := Int.eq_ofNat_of_zero_le (show 0 ≤ wr_ by omega)
              exact falls_in n' a' m' anew w (by omega) (by omega) (by omega) (by omega) (by omega)
            · go_enter Try.func5, Try.ntmps5
              go_wp2_with fail
              refine (first_at w).mono ?_
              rintro e w1 ⟨rfl, hb1⟩
              have HB1 := Lib.hid hb1
              clear hb1
              go_wp2_with fail
              refine (first_at w1).mono ?_
              rintro e w3 ⟨rfl, hb3⟩
              have HB3 := Lib.hid hb3
              clear hb3
              go_wp2
              go_ret
              exact ⟨rfl, HB1.out.trans (HB3.out.mono HB1.out.size)⟩
          · go_enter Try.func5, Try.ntmps5
            go_wp2_with fail
            refine (first_at w).mono ?_
            rintro e w1 ⟨rfl, hb1⟩
            have HB1 := Lib.hid hb1
            clear hb1
            go_wp2_with fail
            refine (first_at w1).mono ?_
            rintro e w3 ⟨rfl, hb3⟩
            have HB3 := Lib.hid hb3
            clear hb3
            go_wp2
            go_ret
            exact ⟨rfl, HB1.out.trans (HB3.out.mono HB1.out.size)⟩
        · go_enter Try.func5, Try.ntmps5
          go_wp2_with fail
          refine (first_at w).mono ?_
          rintro e w1 ⟨rfl, hb1⟩
          have HB1 := Lib.hid hb1
          clear hb1
          go_wp2_with fail
          refine (first_at w1).mono ?_
          rintro e w3 ⟨rfl, hb3⟩
          have HB3 := Lib.hid hb3
          clear hb3
          go_wp2
          go_ret
          exact ⟨rfl, HB1.out.trans (HB3.out.mono HB1.out.size)⟩
      · go_enter Try.func5, Try.ntmps5
        go_wp2_with fail
        refine (first_at w).mono ?_
        rintro e w1 ⟨rfl, hb1⟩
        have HB1 := Lib.hid hb1
        clear hb1
        go_wp2_with fail
        refine (first_at w1).mono ?_
        rintro e w3 ⟨rfl, hb3⟩
        have HB3 := Lib.hid hb3
        clear hb3
        go_wp2
        go_ret
        exact ⟨rfl, HB1.out.trans (HB3.out.mono HB1.out.size)⟩
    · go_enter Try.func5, Try.ntmps5
      go_wp2_with fail
      refine (first_at w).mono ?_
      rintro e w1 ⟨rfl, hb1⟩
      have HB1 := Lib.hid hb1
      clear hb1
      go_wp2_with fail
      refine (first_at w1).mono ?_
      rintro e w3 ⟨rfl, hb3⟩
      have HB3 := Lib.hid hb3
      clear hb3
      go_wp2
      go_ret
      exact ⟨rfl, HB1.out.trans (HB3.out.mono HB1.out.size)⟩
  · go_enter Try.func5, Try.ntmps5
    go_wp2_with fail
    refine (first_at w).mono ?_
    rintro e w1 ⟨rfl, hb1⟩
    have HB1 := Lib.hid hb1
    clear hb1
    go_wp2_with fail
    refine (first_at w1).mono ?_
    rintro e w3 ⟨rfl, hb3⟩
    have HB3 := Lib.hid hb3
    clear hb3
    go_wp2
    go_ret
    exact ⟨rfl, HB1.out.trans (HB3.out.mono HB1.out.size)⟩
end Go.Proofs.Ytigohpgdkpcdkaa.Dk
