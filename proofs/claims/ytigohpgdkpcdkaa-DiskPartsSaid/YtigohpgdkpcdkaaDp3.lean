/- The law DiskParts: every argument. -/
import Derived.Test.YtigohpgdkpcdkaaDp2
set_option linter.unusedVariables false
set_option linter.unusedSimpArgs false
namespace Go.Proofs.Ytigohpgdkpcdkaa.Dk
open Go.RowKit Go.Proofs.YtigohpgdkpcdkaaW.PrintWords Go.Proofs.Ytigohpgdkpcdkaa.L

set_option maxHeartbeats 1000000 in
set_option maxRecDepth 100000 in
theorem parts_any (n k cut : Int) (A : Option Addr) (c : Nat) (bs : List Int) (w : World) (hb : (Kd.int .u8).C w A bs.length bs) (hc : bs.length ≤ c)
    (hn1 : -9223372036854775808 ≤ n) (hn2 : n ≤ 9223372036854775807) (hk1 : -9223372036854775808 ≤ k) (hk2 : k ≤ 9223372036854775807) (hc1 : -9223372036854775808 ≤ cut) (hc2 : cut ≤ 9223372036854775807) :
    Calls Try.prog 3 #[.int .i64 n, .int .i64 k, .slice A bs.length c, .int .i64 cut] w fun e w' => e = .returned (.bool true) ∧ Below w.heap.size w w' := by
  by_cases h1 : n ≤ 60
  · by_cases h2 : bs.length ≤ 30000
    · by_cases h3 : 0 ≤ cut
      · by_cases h4 : cut ≤ bs.length
        · by_cases h5 : 3 ≤ n
          · exact parts_in n k cut A c bs w hb hc h5 h1 h2 h3 h4 hk1 hk2
          · have h2' : (bs.length : Int) ≤ 30000 := by omega
            clear hb
            go_enter Try.func3, Try.ntmps3
            go_wp2_with fail
            refine (first_at w).mono ?_
            rintro e w1 ⟨rfl, hb1⟩
            have HB1 := Lib.hid hb1
            clear hb1
            go_wp2_with fail
            refine (new_no n w1 (by omega)).mono ?_
            rintro e w2 ⟨rfl, rfl⟩
            go_wp2_with fail
            refine (new_no n w1 (by omega)).mono ?_
            rintro e w2 ⟨rfl, rfl⟩
            go_wp2_with fail
            refine (first_at w1).mono ?_
            rintro e w3 ⟨rfl, hb3⟩
            have HB3 := Lib.hid hb3
            clear hb3
            go_wp2
            go_ret
            exact ⟨rfl, HB1.out.trans (HB3.out.mono HB1.out.size)⟩
        · have h2' : (bs.length : Int) ≤ 30000 := by omega
          clear hb
          go_enter Try.func3, Try.ntmps3
          go_wp2_with fail
          refine (first_at w).mono ?_
          rintro e w1 ⟨rfl, hb1⟩
          have HB1 := Lib.hid hb1
          clear hb1
          go_wp2_with fail
          refine (first_at w1).mono ?_
          rintro e w3 ⟨rfl, hb3⟩
          have HB3 := Lib.hid hb3
          clear hb3
          go_wp2
          go_ret
          exact ⟨rfl, HB1.out.trans (HB3.out.mono HB1.out.size)⟩
      · have h2' : (bs.length : Int) ≤ 30000 := by omega
        clear hb
        go_enter Try.func3, Try.ntmps3
        go_wp2_with fail
        refine (first_at w).mono ?_
        rintro e w1 ⟨rfl, hb1⟩
        have HB1 := Lib.hid hb1
        clear hb1
        go_wp2_with fail
        refine (first_at w1).mono ?_
        rintro e w3 ⟨rfl, hb3⟩
        have HB3 := Lib.hid hb3
        clear hb3
        go_wp2
        go_ret
        exact ⟨rfl, HB1.out.trans (HB3.out.mono HB1.out.size)⟩
    · have h2' : 30000 < (bs.length : Int) := by omega
      clear hb
      go_enter Try.func3, Try.ntmps3
      go_wp2_with fail
      refine (first_at w).mono ?_
      rintro e w1 ⟨rfl, hb1⟩
      have HB1 := Lib.hid hb1
      clear hb1
      go_wp2_with fail
      refine (first_at w1).mono ?_
      rintro e w3 ⟨rfl, hb3⟩
      have HB3 := Lib.hid hb3
      clear hb3
      go_wp2
      go_ret
      exact ⟨rfl, HB1.out.trans (HB3.out.mono HB1.out.size)⟩
  · clear hb
    go_enter Try.func3, Try.ntmps3
    go_wp2_with fail
    refine (first_at w).mono ?_
    rintro e w1 ⟨rfl, hb1⟩
    have HB1 := Lib.hid hb1
    clear hb1
    go_wp2_with fail
    refine (first_at w1).mono ?_
    rintro e w3 ⟨rfl, hb3⟩
    have HB3 := Lib.hid hb3
    clear hb3
    go_wp2
    go_ret
    exact ⟨rfl, HB1.out.trans (HB3.out.mono HB1.out.size)⟩
end Go.Proofs.Ytigohpgdkpcdkaa.Dk
