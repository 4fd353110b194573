/- All sectors of the disk. -/
import Derived.Test.YtigohpgdkpcdkaaDk9
set_option linter.unusedVariables false
set_option linter.unusedSimpArgs false
namespace Go.Proofs.Ytigohpgdkpcdkaa.Dk
open Go.RowKit Go.Proofs.YtigohpgdkpcdkaaW.PrintWords Go.Proofs.Ytigohpgdkpcdkaa.L

theorem Bk.R {w : World} {g base : Nat} {xs : List Int} {ok : Nat → Prop} (h : Bk w g xs) (hb : base ≤ g) (hl : xs.length ≤ 1000000) (hok : ok g) : (Kd.int .u8).R 5 w base ok (.slice (some ⟨g, 0, none⟩) xs.length xs.length) xs := by
  refine ⟨fun k hk => by cases hk; exact hok, nums .u8 xs, ⟨by simp [nums, Kd.int, Kd.scalar], .inr ⟨g, xs.length, _, rfl, hb, h, Nat.le_refl _, by unfold maxLen; omega, by simp [nums, Kd.int, Kd.scalar], ?_⟩⟩, ?_⟩
  · rw [List.take_of_length_le (by simp [nums, Kd.int, Kd.scalar])]
  · refine ⟨by simp [nums, Kd.int, Kd.scalar], fun j p hj => ?_⟩
    show ((nums .u8 xs).drop (j * 1)).take 1 = [.int .u8 p]
    have hjl := (List.getElem?_eq_some_iff.1 hj).1
    rw [Nat.mul_one, List.drop_eq_getElem_cons (by rw [nums_length]; exact hjl), List.take_succ_cons, List.take_zero]
    simp only [nums, List.getElem_map, (List.getElem?_eq_some_iff.1 hj).2]
theorem Bk.By {w : World} {g : Nat} {xs : List Int} {ok : Nat → Prop} (h : Bk w g xs) (hl : xs.length ≤ 1000000) (hok : ok g) : By w ok (.slice (some ⟨g, 0, none⟩) xs.length xs.length) xs := Sl.of_R (h.R (base := 0) (Nat.zero_le _) hl hok)

def allP (D : DK) : List (List Int) := (List.range D.plat.length).map (showsP D.plat D.since)
theorem allP_length (D : DK) : (allP D).length = D.plat.length := by simp [allP]

section
variable {ok own : Nat → Prop} {b : Nat} {D : DK} {w : World}
set_option maxHeartbeats 1000000 in
theorem all_at (h : DiskAt w ok own b D) (hd : D.fallen = false) (hpl : D.plat.length ≤ 1000000) : Calls Try.prog 16 #[.pointer (some ⟨b, 0, none⟩)] w fun e w' =>
    ∃ A c, e = .returned (.slice A D.plat.length c) ∧ Below w.heap.size w w' ∧ D.plat.length ≤ c ∧ kB.R 22 w' w.heap.size (fun k => w.heap.size ≤ k) (.slice A D.plat.length c) (allP D) := by
  have HD := Lib.hid h
  clear h
  go_enter Try.func16, Try.ntmps16
  go_wp2
  go_loopg [3, 4] D.plat.length (fun r va i wr => ∃ j : Nat, i = .int .i64 (j : Int) ∧ Hid (j + r = D.plat.length ∧ Below w.heap.size w wr ∧ kB.R 22 wr w.heap.size (fun k => w.heap.size ≤ k) va ((allP D).take j)))
  case atStart => exact ⟨0, rfl, by simp, Below.refl _ _, by simpa using Kd.R_nil _ _ _ _ _⟩
  case round =>
    obtain ⟨j, rfl, HI⟩ := hrel
    have HDr := Lib.hid (HD.out.below HI.out.2.1)
    by_cases hlt : j < D.plat.length
    · have hwl := HI.out.2.1.size
      have hlen : ((allP D).take j).length = j := by rw [List.length_take, allP_length]; omega
      have HLEN := Lib.hid hlen
      obtain ⟨Av, cv, hv, -⟩ := Kd.R_slice' HI.out.2.2
      rw [hlen] at hv
      subst hv
      clear hlen
      go_wp2_with (first | (go_at_call 64; refine (sectors_at HDr.out).mono ?_; rintro e w' ⟨rfl, rfl⟩) | (go_at_call 28; refine (read_ok HDr.out j hd hlt).mono ?_; rintro e w1 ⟨rfl, hb1, hk1⟩; have HB1 := Lib.hid hb1; have HK1 := Lib.hid hk1; clear hb1 hk1) | ((with_reducible refine gate_builtin (b := .append) (xs := #[.tmp 19, .tmp 21]) rfl ?_); go_must (refine Kd.R_append kB (w0 := w) w.heap.size rfl (.tmp 19) (.tmp 21) 30 22 (.slice none 0 0) 24 rfl Try.underlying30 info22 rfl (by decide) (by decide) (.slice Av j cv) ((allP D).take j) (showsP D.plat D.since j) [.slice (some ⟨wr.heap.size, 0, none⟩) 256 256] (fun k => w.heap.size ≤ k) (fun k => k = wr.heap.size) rfl rfl ?hp ?hokp ?hfresh ?HO ?HB ?hbase ?hl ?_)))
      case hp => exact ⟨_, rfl, by simpa only [showsP_length] using HK1.out.R (base := w.heap.size) (ok := fun k => k = wr.heap.size) hwl (by rw [showsP_length]; omega) rfl⟩
      case hokp =>
        rintro k rfl
        refine ⟨hwl, fun he => ?_⟩
        obtain ⟨inner, ho⟩ := Kd.R_own HI.out.2.2
        have := own_lt ho wr.heap.size he.symm
        omega
      case hfresh => exact fun k hk => by have := HB1.out.size; omega
      case HO => exact Kd.R_below HI.out.2.2 HB1.out
      case HB => exact below_then HI.out.2.1 hwl HB1.out
      case hbase => have := HB1.out.size; omega
      case hl => rw [HLEN.out]; omega
      intro v1 w2 hr2 hb2 hg2 hat2
      have HR2 := Lib.hid hr2
      have HB2 := Lib.hid hb2
      clear hr2 hb2 hg2 hat2
      go_wp2
      go_roundg (D.plat.length - (j + 1))
      case measure => have := HI.out.1; omega
      case rel =>
        refine ⟨j + 1, by go_num, by omega, HB2.out, ?_⟩
        have he : (allP D).take (j + 1) = (allP D).take j ++ [showsP D.plat D.since j] := by
          rw [List.take_succ_eq_append_getElem (by rw [allP_length]; exact hlt)]
          simp [allP]
        rw [he]
        exact HR2.out
    · have hj : j = D.plat.length := by have := HI.out.1; omega
      have HJ := Lib.hid hj
      obtain ⟨Av, cv, hv, hcv⟩ := Kd.R_slice' HI.out.2.2
      have hle : ((allP D).take j).length = D.plat.length := by rw [List.length_take, allP_length]; omega
      rw [hle] at hv hcv
      subst hv
      clear hle hj
      go_wp2_with (go_at_call 64; refine (sectors_at HDr.out).mono ?_; rintro e w' ⟨rfl, rfl⟩)
      go_ret
      refine ⟨_, _, rfl, HI.out.2.1, hcv, ?_⟩
      have := HI.out.2.2
      rw [List.take_of_length_le (by rw [allP_length, HJ.out]; exact Nat.le_refl _)] at this
      exact this
theorem all_at' (h : DiskAt w ok own b D) (hd : D.fallen = false) (hpl : D.plat.length ≤ 1000000) (ls : List (List Int)) (hls : ls = allP D) : Calls Try.prog 16 #[.pointer (some ⟨b, 0, none⟩)] w fun e w' =>
    ∃ A c, e = .returned (.slice A ls.length c) ∧ Below w.heap.size w w' ∧ ls.length ≤ c ∧ kB.C w' A ls.length ls := by
  refine (all_at h hd hpl).mono ?_
  rintro e w' ⟨A, c, rfl, hb, hc, hr⟩
  subst hls
  obtain ⟨A', c', he, _, hC⟩ := Kd.R_reads hr
  rw [allP_length] at he hC ⊢
  simp only [Value.slice.injEq] at he
  obtain ⟨rfl, -, rfl⟩ := he
  exact ⟨A, c, rfl, hb, hc, hC⟩
end
end Go.Proofs.Ytigohpgdkpcdkaa.Dk
