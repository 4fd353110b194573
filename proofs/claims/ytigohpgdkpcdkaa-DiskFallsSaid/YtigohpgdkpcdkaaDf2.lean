/- The law DiskFalls: the walk. -/
import Derived.Test.YtigohpgdkpcdkaaDf1
set_option linter.unusedVariables false
set_option linter.unusedSimpArgs false
namespace Go.Proofs.Ytigohpgdkpcdkaa.Dk
open Go.RowKit Go.Proofs.YtigohpgdkpcdkaaW.PrintWords Go.Proofs.Ytigohpgdkpcdkaa.L

/-- The disk of the law, somewhere behind its first world. -/
def FD (w1 wr : World) (b : Nat) (D : DK) : Prop := ∃ ok own, DiskAt wr ok own b D ∧ Below w1.heap.size w1 wr ∧ (∀ i, own i → w1.heap.size ≤ i) ∧ (∀ i, ok i → i < wr.heap.size)
theorem FD.below {w1 wr w2 : World} {b : Nat} {D : DK} (h : FD w1 wr b D) (hb : Below wr.heap.size wr w2) : FD w1 w2 b D := by
  obtain ⟨ok, own, h1, h2, h3, h4⟩ := h
  exact ⟨ok, own, h1.below hb, h2.trans (hb.mono h2.size), h3, fun i hi => Nat.lt_of_lt_of_le (h4 i hi) hb.size⟩
theorem FD.stp {w1 wr w2 : World} {b : Nat} {D' : DK} {ok own ok' own' : Nat → Prop} (h2 : Below w1.heap.size w1 wr) (h3 : ∀ i, own i → w1.heap.size ≤ i) (hs : Stp ok own wr ok' own' w2) (hd : DiskAt w2 ok' own' b D') : FD w1 w2 b D' := by
  have := h2.size
  refine ⟨ok', own', hd, h2.trans (hs.1.below this h3), fun i hi => ?_, hs.2.2.2.2⟩
  rcases hs.2.2.2.1 i hi with h | h
  · exact h3 i h
  · omega
/-- A write of one byte, just laid down. -/
theorem FD.write {w1 wr : World} {b : Nat} {D : DK} {x : Int} (h : FD w1 wr b D) (hf : D.fallen = false) (ht0 : 0 ≤ D.total) (ht1 : D.total ≤ 1000000) (hs1 : D.since.length ≤ 1000000) (hst : D.stays.length ≤ 1000000) (hpl : D.plat.length ≤ 1000000) (k : Int) (s : Nat) (hs : wr.heap.size + 1 = s) :
    Calls Try.prog 14 #[.pointer (some ⟨b, 0, none⟩), .int .i64 k, .slice (some ⟨s, 0, none⟩) 1 1] ((wr.alloc (.cells #[.int .u8 x] 5)).alloc (.cells #[.slice (some ⟨wr.heap.size, 0, none⟩) 1 1] 22)) fun e w' =>
      ∃ q, q = (writeP D k [x]).2 ∧ e = .returned (.int .i64 q) ∧ FD w1 w' b (writeP D k [x]).1 := by
  obtain ⟨ok, own, h1, h2, h3, h4⟩ := h
  have hbel : Below wr.heap.size wr (wr.alloc (.cells #[.int .u8 x] 5)) := below_alloc (Below.refl _ _) _
  have hB : Bk (wr.alloc (.cells #[.int .u8 x] 5)) wr.heap.size [x] := blk_new wr _
  have hD := h1.step (ok' := fun i => ok i ∨ i = wr.heap.size) (Kp.of_below (fun _ => False) hbel) (fun _ h => h.elim) (fun _ h => h.elim) (fun _ h => .inl h) (by
    rintro i (hi | rfl) ho
    · exact h1.okn i hi ho
    · exact absurd (h1.ownlt _ ho) (by omega))
  refine (write_one hD hf k (some ⟨wr.heap.size, 0, none⟩) 1 1 [x] rfl (hB.By (by simp) (.inr rfl)) (by simp) ht0 (by omega) (by omega) hst hpl (by
    rintro i (hi | rfl)
    · exact Nat.lt_of_lt_of_le (h4 i hi) hbel.size
    · simp) s (by simpa using hs)).mono ?_
  rintro e w' ⟨rfl, ok', own', hst', hd'⟩
  exact ⟨_, rfl, rfl, FD.stp (h2.trans (hbel.mono h2.size)) h3 hst' hd'⟩
theorem FD.reboot {w1 wr : World} {b : Nat} {D : DK} (h : FD w1 wr b D) : Calls Try.prog 25 #[.pointer (some ⟨b, 0, none⟩)] wr fun e w' => e = .returned (.tuple #[]) ∧ FD w1 w' b { D with fallen := false } := by
  obtain ⟨ok, own, h1, h2, h3, h4⟩ := h
  refine (reboot_at h1).mono ?_
  rintro e w' ⟨rfl, hk, hd⟩
  exact ⟨rfl, ok, own, hd, h2.trans (hk.below h2.size h3), h3, fun i hi => Nat.lt_of_lt_of_le (h4 i hi) hk.size⟩
theorem FD.up {w1 wr : World} {b : Nat} {D : DK} (h : FD w1 wr b D) : Calls Try.prog 26 #[.pointer (some ⟨b, 0, none⟩)] wr fun e w' => e = .returned (.bool !D.fallen) ∧ wr = w' := by
  obtain ⟨ok, own, h1, _⟩ := h
  exact up_at h1
theorem FD.writes {w1 wr : World} {b : Nat} {D : DK} (h : FD w1 wr b D) : Calls Try.prog 17 #[.pointer (some ⟨b, 0, none⟩)] wr fun e w' => e = .returned (.int .i64 D.total) ∧ wr = w' := by
  obtain ⟨ok, own, h1, _⟩ := h
  exact writes_at h1
theorem FD.read {w1 wr : World} {b : Nat} {D : DK} (h : FD w1 wr b D) (k : Nat) (hd : D.fallen = false) (hk : k < D.plat.length) : Calls Try.prog 28 #[.pointer (some ⟨b, 0, none⟩), .int .i64 (k : Int)] wr fun e w' =>
    e = .returned (.tuple #[.slice (some ⟨wr.heap.size, 0, none⟩) 256 256, .int .i64 0]) ∧ Below wr.heap.size wr w' ∧ Bk w' wr.heap.size (showsP D.plat D.since k) := by
  obtain ⟨ok, own, h1, _⟩ := h
  exact read_ok h1 k hd hk

theorem FD.crashat {w1 wr : World} {b : Nat} {D : DK} (h : FD w1 wr b D) (ht0 : 0 ≤ D.total) (ht1 : D.total ≤ 1000000) (n : Int) (hn1 : 1 ≤ n) (hn2 : n ≤ 1000) (s : Nat) (hs : wr.heap.size = s) :
    Calls Try.prog 27 #[.pointer (some ⟨b, 0, none⟩), .int .i64 n, .slice (some ⟨s, 0, none⟩) 7 7] (wr.alloc (.cells #[.int .u8 255, .int .u8 255, .int .u8 255, .int .u8 255, .int .u8 255, .int .u8 255, .int .u8 255] 5)) fun e w' =>
      e = .returned (.tuple #[]) ∧ FD w1 w' b { D with set := true, count := D.total + n, stays := mask7 } := by
  subst hs
  obtain ⟨ok, own, h1, h2, h3, h4⟩ := h
  have hbel : Below wr.heap.size wr (wr.alloc (.cells #[.int .u8 255, .int .u8 255, .int .u8 255, .int .u8 255, .int .u8 255, .int .u8 255, .int .u8 255] 5)) := below_alloc (Below.refl _ _) _
  have hB : Bk (wr.alloc (.cells #[.int .u8 255, .int .u8 255, .int .u8 255, .int .u8 255, .int .u8 255, .int .u8 255, .int .u8 255] 5)) wr.heap.size mask7 := blk_new wr _
  have hD := h1.step (ok' := fun i => ok i ∨ i = wr.heap.size) (Kp.of_below (fun _ => False) hbel) (fun _ h => h.elim) (fun _ h => h.elim) (fun _ h => .inl h) (by
    rintro i (hi | rfl) ho
    · exact h1.okn i hi ho
    · exact absurd (h1.ownlt _ ho) (by omega))
  refine (crashat_yes hD n hn1 hn2 ht0 (by omega) (some ⟨wr.heap.size, 0, none⟩) 7 mask7 (hB.By (by decide) (.inr rfl)) (by decide) (by
    rintro i (hi | rfl)
    · exact Nat.lt_of_lt_of_le (h4 i hi) hbel.size
    · simp)).mono ?_
  rintro e w' ⟨rfl, ok', hst, hd⟩
  exact ⟨rfl, FD.stp (h2.trans (hbel.mono h2.size)) h3 hst hd⟩
theorem FD.crashno {w1 wr : World} {b : Nat} {D : DK} (h : FD w1 wr b D) (v : Value) : Calls Try.prog 27 #[.pointer (some ⟨b, 0, none⟩), .int .i64 0, v] wr fun e w' =>
      e = .returned (.tuple #[]) ∧ FD w1 w' b { D with set := false, count := 0, stays := [] } := by
  obtain ⟨ok, own, h1, h2, h3, h4⟩ := h
  refine (crashat_no h1 0 (by decide) v).mono ?_
  rintro e w' ⟨rfl, hk, hd⟩
  exact ⟨rfl, ok, own, hd, h2.trans (hk.below h2.size h3), h3, fun i hi => Nat.lt_of_lt_of_le (h4 i hi) hk.size⟩

/-- What stands behind the law's first loop. -/
def Fin (w1 wc : World) (b n : Nat) (done : Int) : Prop := ∃ (m : Nat) (D : DK), done = m ∧ m ≤ 40 ∧ FD w1 wc b D ∧ D.total = m ∧ D.plat.length = n ∧ ∀ i, i < m → m ≤ i + n → (showsP D.plat D.since (i % n))[0]? = some ((i : Int) + 1)

set_option maxHeartbeats 1000000 in
set_option maxRecDepth 100000 in
theorem falls_in (n at_ wr_ : Nat) (anew : Bool) (w : World) (hn1 : 3 ≤ n) (hn2 : n ≤ 60) (ha1 : 1 ≤ at_) (ha2 : at_ ≤ 50) (hw2 : wr_ ≤ 40) :
    Calls Try.prog 5 #[.int .i64 n, .int .i64 at_, .int .i64 wr_, .bool anew] w fun e w' => e = .returned (.bool true) ∧ Below w.heap.size w w' := by
  have d1 : decide ((n : Int) < 3) = false := decide_eq_false (by omega)
  have d2 : decide (60 < (n : Int)) = false := decide_eq_false (by omega)
  have d3 : decide ((at_ : Int) < 1) = false := decide_eq_false (by omega)
  have d4 : decide (50 < (at_ : Int)) = false := decide_eq_false (by omega)
  have d5 : decide ((wr_ : Int) < 0) = false := decide_eq_false (by omega)
  have d6 : decide (40 < (wr_ : Int)) = false := decide_eq_false (by omega)
  go_enter Try.func5, Try.ntmps5
  go_wp2_with fail
  refine (first_at w).mono ?_
  rintro e w1 ⟨rfl, hb1⟩
  have HB1 := Lib.hid hb1
  clear hb1
  go_wp2_with fail
  refine (new_at n w1 (fun i => i < w1.heap.size) (by omega) (by omega) (fun _ h => h)).mono ?_
  rintro e w2 ⟨rfl, hb2, hs2, hd2⟩
  have HF2 := Lib.hid (show FD w1 w2 (w1.heap.size + 1) (D0 n) from ⟨_, _, hd2, hb2, fun i hi => by omega, fun i hi => by have := hb2.size; omega⟩)
  clear hb2 hs2 hd2
  go_wp2_with fail
  refine (HF2.out.crashat (Int.le_refl 0) (by show (0 : Int) ≤ 1000000; decide) at_ (by omega) (by omega) _ rfl).mono ?_
  rintro e w3 ⟨rfl, hf3⟩
  have HF3 := Lib.hid hf3
  clear hf3
  cases anew with
  | true =>
    go_wp2_with fail
    refine (HF3.out.crashno _).mono ?_
    rintro e w4 ⟨rfl, hf4⟩
    have HF4 := Lib.hid (show FD w1 w4 (w1.heap.size + 1) (DD n false 0 [] 0) from hf4)
    clear hf4
    go_upto_block 0 with (fail)
    go_cut [11, 12, 13] (fun _ _ _ wc => Fin w1 wc (w1.heap.size + 1) n wr_)
    case first =>
      go_wp2_with fail
      go_loopg [11, 12, 13] wr_ (fun r i _ _ wr => ∃ j : Nat, i = .int .i64 (j : Int) ∧ Hid (j + r = wr_ ∧ FD w1 wr (w1.heap.size + 1) (DD n false 0 [] j)))
      case atStart => exact ⟨0, rfl, by simp, HF4.out⟩
      case round =>
        obtain ⟨j, rfl, HI⟩ := hrel
        by_cases hlt : j < wr_
        · have HWE := Lib.hid (write_DD n false 0 [] j (by omega) rfl)
          go_wp2_with fail
          refine (HI.out.2.write (x := (j : Int) + 1) rfl (by simp [DD]) (by simp [DD]; omega) (by simp [DD, putsM_length]; omega) (by simp [DD]) (by simp [DD]; omega) ((j : Int) % (n : Int)) _ (by simp)).mono ?_
          rintro e w5 ⟨q, hq, rfl, hf5⟩
          rw [show ((j : Int) % (n : Int)) = ((j % n : Nat) : Int) from (Int.natCast_emod j n).symm, HWE.out] at hq hf5
          have hq0 : q = 0 := hq
          subst hq0
          have HF5 := Lib.hid hf5
          clear hf5 hq
          go_wp2_with fail
          refine (HF5.out.up).mono ?_
          rintro e w6 ⟨he, rfl⟩
          obtain rfl : e = .returned (.bool true) := he
          go_wp2
          go_roundg (wr_ - (j + 1))
          case measure => have := HI.out.1; omega
          case rel => exact ⟨j + 1, by go_num, by omega, HF5.out⟩
        · have hj : j = wr_ := by have := HI.out.1; omega
          have HJ := Lib.hid hj
          clear hj
          go_wp2
          go_meet
          case rel =>
            refine ⟨j, _, by rw [HJ.out], by have := HJ.out; omega, HI.out.2, rfl, by simp [DD], fun i h1 h2 => ?_⟩
            show (showsP (List.replicate n []) (putsM n j) (i % n))[0]? = _
            rw [shows_M n _ (by omega) j i h1 h2]
            exact sec1_head _
    case rest =>
      obtain ⟨m, D, hdm, hm40, hFD, hDt, hDl, hDr⟩ := hcut
      obtain rfl : wr_ = m := by omega
      have HF5 := Lib.hid hFD
      have HDT := Lib.hid hDt
      have HDL := Lib.hid hDl
      have HDR := Lib.hid hDr
      clear hFD hDt hDl hDr
      go_wp2_with fail
      refine (HF5.out.writes).mono ?_
      rintro e w5 ⟨he, rfl⟩
      rw [HDT.out] at he
      subst he
      go_wp2_with fail
      refine (HF5.out.reboot).mono ?_
      rintro e w6 ⟨rfl, hf6⟩
      have HF6 := Lib.hid hf6
      clear hf6
      have hor : (wr_ : Int) - (n : Int) < 0 ∨ 0 ≤ (wr_ : Int) - (n : Int) := by omega
      rcases hor with hor | hor
      all_goals
        go_wp2_with fail
        go_loopg [15, 16, 17] (wr_ - (wr_ - n)) (fun r i _ _ wr => ∃ j : Nat, i = .int .i64 (j : Int) ∧ Hid (j + r = wr_ ∧ wr_ ≤ j + n ∧ FD w1 wr (w1.heap.size + 1) { D with fallen := false }))
        case atStart => first | exact ⟨0, rfl, by omega, by omega, HF6.out⟩ | exact ⟨wr_ - n, by go_num, by omega, by omega, HF6.out⟩
        case round =>
          obtain ⟨j, rfl, HI⟩ := hrel
          by_cases hlt : j < wr_
          · have HMD := Lib.hid (show ((j : Int) % (n : Int)) = ((j % n : Nat) : Int) from (Int.natCast_emod j n).symm)
            go_wp2_with fail
            rw [HMD.out]
            refine (HI.out.2.2.read (j % n) rfl (by show j % n < D.plat.length; rw [HDL.out]; exact Nat.mod_lt _ (by omega))).mono ?_
            rintro e w7 ⟨rfl, hb7, hk7⟩
            have hc7 : w7.cell? ⟨wr.heap.size, 0, none⟩ = some (.int .u8 ((j : Int) + 1)) := by
              rw [blk_cell hk7]
              simp [nums, HDR.out j hlt HI.out.2.1]
            have HF7 := Lib.hid (HI.out.2.2.below hb7)
            clear hb7 hk7
            go_wp2
            go_roundg (wr_ - (j + 1))
            case measure => have := HI.out.1; omega
            case rel => exact ⟨j + 1, by go_num, by omega, by have := HI.out.2.1; omega, HF7.out⟩
          · go_wp2_with fail
            refine (first_at wr).mono ?_
            rintro e w8 ⟨rfl, hb8⟩
            have HB8 := Lib.hid hb8
            clear hb8
            go_wp2
            go_ret
            obtain ⟨_, _, _, hB, _, _⟩ := HI.out.2.2
            exact ⟨rfl, HB1.out.trans ((hB.trans (HB8.out.mono hB.size)).mono HB1.out.size)⟩
  | false =>
    have HF4 := Lib.hid (show FD w1 w3 (w1.heap.size + 1) (DD n true at_ mask7 0) by
      have := HF3.out
      simp only [D0, Int.zero_add] at this
      exact this)
    go_upto_block 0 with (fail)
    go_cut [11, 12, 13] (fun _ _ _ wc => Fin w1 wc (w1.heap.size + 1) n (min wr_ at_ : Nat))
    case first =>
      go_wp2_with fail
      go_loopg [11, 12, 13] wr_ (fun r i _ _ wr => ∃ j : Nat, i = .int .i64 (j : Int) ∧ Hid (j + r = wr_ ∧ j < at_ ∧ FD w1 wr (w1.heap.size + 1) (DD n true at_ mask7 j)))
      case atStart => exact ⟨0, rfl, by simp, by omega, HF4.out⟩
      case round =>
        obtain ⟨j, rfl, HI⟩ := hrel
        have hja := HI.out.2.1
        by_cases hlt : j < wr_
        · by_cases hat : j + 1 = at_
          · have HWE := Lib.hid (crash_DD n at_ j (by omega) (by omega) (by omega))
            have HAT := Lib.hid hat
            have hge : (at_ : Int) ≤ (j : Int) + 1 := by omega
            clear hat
            go_wp2_with fail
            refine (HI.out.2.2.write (x := (j : Int) + 1) rfl (by simp [DD]) (by simp [DD]; omega) (by simp [DD, putsM_length]; omega) (by simp [DD, mask7]) (by simp [DD]; omega) ((j : Int) % (n : Int)) _ (by simp)).mono ?_
            rintro e w5 ⟨q, hq, rfl, hf5⟩
            rw [show ((j : Int) % (n : Int)) = ((j % n : Nat) : Int) from (Int.natCast_emod j n).symm, HWE.out] at hq hf5
            have hq0 : q = 9 := hq
            subst hq0
            have HF5 := Lib.hid hf5
            clear hf5 hq
            go_wp2_with fail
            refine (HF5.out.up).mono ?_
            rintro e w6 ⟨he, rfl⟩
            obtain rfl : e = .returned (.bool false) := he
            go_wp2
            go_meet
            case rel =>
              refine ⟨j + 1, _, by have := HAT.out; omega, by have := HAT.out; omega, HF5.out, rfl, by simp [layP_length], fun i h1 h2 => ?_⟩
              show (showsP (layP (List.replicate n []) (putsM n (j + 1))) [] (i % n))[0]? = _
              rw [shows_lay _ _ (fun x hx => by rw [List.length_replicate]; exact putsM_mem n (j + 1) (by omega) x hx) _ (by rw [List.length_replicate]; exact Nat.mod_lt _ (by omega)), shows_M n _ (by omega) (j + 1) i h1 h2]
              exact sec1_head _
          · have HWE := Lib.hid (write_DD n true at_ mask7 j (by omega) (by
              have : ¬ ((j : Int) + 1 = (at_ : Int)) := by omega
              simp [this]))
            have hge : (j : Int) + 1 < (at_ : Int) := by omega
            have HAT := Lib.hid hat
            clear hat
            go_wp2_with fail
            refine (HI.out.2.2.write (x := (j : Int) + 1) rfl (by simp [DD]) (by simp [DD]; omega) (by simp [DD, putsM_length]; omega) (by simp [DD, mask7]) (by simp [DD]; omega) ((j : Int) % (n : Int)) _ (by simp)).mono ?_
            rintro e w5 ⟨q, hq, rfl, hf5⟩
            rw [show ((j : Int) % (n : Int)) = ((j % n : Nat) : Int) from (Int.natCast_emod j n).symm, HWE.out] at hq hf5
            have hq0 : q = 0 := hq
            subst hq0
            have HF5 := Lib.hid hf5
            clear hf5 hq
            go_wp2_with fail
            refine (HF5.out.up).mono ?_
            rintro e w6 ⟨he, rfl⟩
            obtain rfl : e = .returned (.bool true) := he
            go_wp2
            go_roundg (wr_ - (j + 1))
            case measure => have := HI.out.1; omega
            case rel => exact ⟨j + 1, by go_num, by omega, by have := HAT.out; omega, HF5.out⟩
        · have hj : j = wr_ := by have := HI.out.1; omega
          have HJ := Lib.hid hj
          clear hj
          go_wp2
          go_meet
          case rel =>
            refine ⟨j, _, by have := HJ.out; omega, by have := HJ.out; omega, HI.out.2.2, rfl, by simp [DD], fun i h1 h2 => ?_⟩
            show (showsP (List.replicate n []) (putsM n j) (i % n))[0]? = _
            rw [shows_M n _ (by omega) j i h1 h2]
            exact sec1_head _
    case rest =>
      obtain ⟨m, D, hdm, hm40, hFD, hDt, hDl, hDr⟩ := hcut
      by_cases hwa : wr_ ≤ at_
      · obtain rfl : wr_ = m := by omega
        have HF5 := Lib.hid hFD
        have HDT := Lib.hid hDt
        have HDL := Lib.hid hDl
        have HDR := Lib.hid hDr
        clear hFD hDt hDl hDr
        go_wp2_with fail
        refine (HF5.out.writes).mono ?_
        rintro e w5 ⟨he, rfl⟩
        rw [HDT.out] at he
        subst he
        go_wp2_with fail
        refine (HF5.out.reboot).mono ?_
        rintro e w6 ⟨rfl, hf6⟩
        have HF6 := Lib.hid hf6
        clear hf6
        have hor : (wr_ : Int) - (n : Int) < 0 ∨ 0 ≤ (wr_ : Int) - (n : Int) := by omega
        rcases hor with hor | hor
        all_goals
          go_wp2_with fail
          go_loopg [15, 16, 17] (wr_ - (wr_ - n)) (fun r i _ _ wr => ∃ j : Nat, i = .int .i64 (j : Int) ∧ Hid (j + r = wr_ ∧ wr_ ≤ j + n ∧ FD w1 wr (w1.heap.size + 1) { D with fallen := false }))
          case atStart => first | exact ⟨0, rfl, by omega, by omega, HF6.out⟩ | exact ⟨wr_ - n, by go_num, by omega, by omega, HF6.out⟩
          case round =>
            obtain ⟨j, rfl, HI⟩ := hrel
            by_cases hlt : j < wr_
            · have HMD := Lib.hid (show ((j : Int) % (n : Int)) = ((j % n : Nat) : Int) from (Int.natCast_emod j n).symm)
              go_wp2_with fail
              rw [HMD.out]
              refine (HI.out.2.2.read (j % n) rfl (by show j % n < D.plat.length; rw [HDL.out]; exact Nat.mod_lt _ (by omega))).mono ?_
              rintro e w7 ⟨rfl, hb7, hk7⟩
              have hc7 : w7.cell? ⟨wr.heap.size, 0, none⟩ = some (.int .u8 ((j : Int) + 1)) := by
                rw [blk_cell hk7]
                simp [nums, HDR.out j hlt HI.out.2.1]
              have HF7 := Lib.hid (HI.out.2.2.below hb7)
              clear hb7 hk7
              go_wp2
              go_roundg (wr_ - (j + 1))
              case measure => have := HI.out.1; omega
              case rel => exact ⟨j + 1, by go_num, by omega, by have := HI.out.2.1; omega, HF7.out⟩
            · go_wp2_with fail
              refine (first_at wr).mono ?_
              rintro e w8 ⟨rfl, hb8⟩
              have HB8 := Lib.hid hb8
              clear hb8
              go_wp2
              go_ret
              obtain ⟨_, _, _, hB, _, _⟩ := HI.out.2.2
              exact ⟨rfl, HB1.out.trans ((hB.trans (HB8.out.mono hB.size)).mono HB1.out.size)⟩
      · obtain rfl : at_ = m := by omega
        have HF5 := Lib.hid hFD
        have HDT := Lib.hid hDt
        have HDL := Lib.hid hDl
        have HDR := Lib.hid hDr
        clear hFD hDt hDl hDr
        go_wp2_with fail
        refine (HF5.out.writes).mono ?_
        rintro e w5 ⟨he, rfl⟩
        rw [HDT.out] at he
        subst he
        go_wp2_with fail
        refine (HF5.out.reboot).mono ?_
        rintro e w6 ⟨rfl, hf6⟩
        have HF6 := Lib.hid hf6
        clear hf6
        have hor : (at_ : Int) - (n : Int) < 0 ∨ 0 ≤ (at_ : Int) - (n : Int) := by omega
        rcases hor with hor | hor
        all_goals
          go_wp2_with fail
          go_loopg [15, 16, 17] (at_ - (at_ - n)) (fun r i _ _ wr => ∃ j : Nat, i = .int .i64 (j : Int) ∧ Hid (j + r = at_ ∧ at_ ≤ j + n ∧ FD w1 wr (w1.heap.size + 1) { D with fallen := false }))
          case atStart => first | exact ⟨0, rfl, by omega, by omega, HF6.out⟩ | exact ⟨at_ - n, by go_num, by omega, by omega, HF6.out⟩
          case round =>
            obtain ⟨j, rfl, HI⟩ := hrel
            by_cases hlt : j < at_
            · have HMD := Lib.hid (show ((j : Int) % (n : Int)) = ((j % n : Nat) : Int) from (Int.natCast_emod j n).symm)
              go_wp2_with fail
              rw [HMD.out]
              refine (HI.out.2.2.read (j % n) rfl (by show j % n < D.plat.length; rw [HDL.out]; exact Nat.mod_lt _ (by omega))).mono ?_
              rintro e w7 ⟨rfl, hb7, hk7⟩
              have hc7 : w7.cell? ⟨wr.heap.size, 0, none⟩ = some (.int .u8 ((j : Int) + 1)) := by
                rw [blk_cell hk7]
                simp [nums, HDR.out j hlt HI.out.2.1]
              have HF7 := Lib.hid (HI.out.2.2.below hb7)
              clear hb7 hk7
              go_wp2
              go_roundg (at_ - (j + 1))
              case measure => have := HI.out.1; omega
              case rel => exact ⟨j + 1, by go_num, by omega, by have := HI.out.2.1; omega, HF7.out⟩
            · go_wp2_with fail
              refine (first_at wr).mono ?_
              rintro e w8 ⟨rfl, hb8⟩
              have HB8 := Lib.hid hb8
              clear hb8
              go_wp2
              go_ret
              obtain ⟨_, _, _, hB, _, _⟩ := HI.out.2.2
              exact ⟨rfl, HB1.out.trans ((hB.trans (HB8.out.mono hB.size)).mono HB1.out.size)⟩
end Go.Proofs.Ytigohpgdkpcdkaa.Dk
