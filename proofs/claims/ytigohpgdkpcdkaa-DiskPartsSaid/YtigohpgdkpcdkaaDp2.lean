/- The law DiskParts: the walk. -/
import Derived.Test.YtigohpgdkpcdkaaDp1
import Derived.Test.YtigohpgdkpcdkaaDpure
set_option linter.unusedVariables false
set_option linter.unusedSimpArgs false
namespace Go.Proofs.Ytigohpgdkpcdkaa.Dk
open Go.RowKit Go.Proofs.YtigohpgdkpcdkaaW.PrintWords Go.Proofs.Ytigohpgdkpcdkaa.L

set_option maxHeartbeats 1000000 in
set_option maxRecDepth 100000 in
theorem parts_in (n k cut : Int) (A : Option Addr) (c : Nat) (bs : List Int) (w : World) (hb : (Kd.int .u8).C w A bs.length bs) (hc : bs.length ≤ c) (hn1 : 3 ≤ n) (hn2 : n ≤ 60) (hl : bs.length ≤ 30000) (hc0 : 0 ≤ cut) (hc1 : cut ≤ bs.length)
    (hk1 : -9223372036854775808 ≤ k) (hk2 : k ≤ 9223372036854775807) :
    Calls Try.prog 3 #[.int .i64 n, .int .i64 k, .slice A bs.length c, .int .i64 cut] w fun e w' => e = .returned (.bool true) ∧ Below w.heap.size w w' := by
  have HB := Lib.hid hb
  obtain ⟨m, rfl⟩ := Int.eq_ofNat_of_zero_le (show 0 ≤ n by omega)
  obtain ⟨A2, hcut, hcut2, hcl⟩ := Sl.cut (P := Try.prog) (Kd.int .u8) 22 5 Try.underlying22 size5 A c bs cut hc0 hc1 hc
  have HC2 := Lib.hid hcut2
  clear hb hcut2
  go_enter Try.func3, Try.ntmps3
  go_wp2_with fail
  refine (first_at w).mono ?_
  rintro e w1 ⟨rfl, hb1⟩
  have HB1 := Lib.hid hb1
  clear hb1
  go_wp2_with fail
  refine (new_at m w1 (fun i => i < w1.heap.size) (by omega) (by omega) (fun _ h => h)).mono ?_
  rintro e w2 ⟨rfl, hb2, hs2, hd2⟩
  have HB2 := Lib.hid hb2
  have HS2 := Lib.hid hs2
  have HD2 := Lib.hid hd2
  clear hb2 hs2 hd2
  go_wp2_with fail
  refine (new_at m w2 (fun i => i < w1.heap.size) (by omega) (by omega) (fun i h => by have := HS2.out; omega)).mono ?_
  rintro e w3 ⟨rfl, hb3, hs3, hd3⟩
  have HB3 := Lib.hid hb3
  have HS3 := Lib.hid hs3
  have HD3 := Lib.hid hd3
  clear hb3 hs3 hd3
  have HPG := Lib.hid (parts_go hc0 hc1 HB.out HC2.out hc hcl HB1.out HB2.out HB3.out HS2.out HS3.out HD2.out HD3.out (by omega) hl k)
  go_upto_region 9 with (fail)
  go_cut [13, 14] (fun g h wc => ∃ q : Int, g = .int .i64 q ∧ h = .int .i64 q ∧ Hid (q = (writeP (D0 m) k bs).2 ∧ OneD w1 w3 (w1.heap.size + 1) (w2.heap.size + 1) (writeP (D0 m) k bs).1 (writeP (D0 m) k bs).1 wc))
  case first =>
    have tok1 : True := trivial
    go_region_with (first | (go_at_call 14; have _t := tok1; refine (HPG.out.1 _ _ (by repeat (first | exact Below.refl _ _ | apply below_alloc | apply below_drew)) (by first | exact blk_drew (blk_new' (by simp) _) | exact blk_drew (blk_alloc (blk_new' (by simp) _) _))).mono ?_; rintro e w4 ⟨q4, hq4, rfl, hw4, hkeep⟩; have HQ4 := Lib.hid hq4; have HW4 := Lib.hid hw4; have HK4 := Lib.hid hkeep; clear hq4 hw4 hkeep tok1 _t) | (go_at_call 14; refine (HPG.out.2 _ _ _ (by first | exact HW4.out | exact HW4.out.at' (below_alloc (Below.refl _ _) _) | exact HW4.out.at' (below_drew (below_alloc (Below.refl _ _) _)) | exact HW4.out.at' (below_drew (Below.refl _ _))) (by first | exact blk_new' rfl _ | exact blk_drew (blk_new' rfl _) | exact HK4.out _ _ (blk_drew (blk_new' (by simp) _)) (by omega) | exact HK4.out _ _ (blk_drew (blk_alloc (blk_new' (by simp) _) _)) (by omega))).mono ?_; rintro e w5 ⟨q5, hq5, rfl, hw5⟩; have HQ5 := Lib.hid hq5; have HW5 := Lib.hid hw5; clear hq5 hw5))
    all_goals
      have hqq := HQ5.out.trans HQ4.out.symm
      subst hqq
      go_wp2
      go_meet
      case rel => exact ⟨_, rfl, rfl, HQ4.out, HW5.out⟩
  case rest =>
    obtain ⟨q, rfl, rfl, HQ⟩ := hcut
    have HP := Lib.hid (writeP_plain (D0 m) k bs rfl rfl)
    have hdv := padP_div bs
    have hpl0 : (D0 m).plat.length = m := by simp [D0]
    have HB3c := Lib.hid (HB1.out.trans ((HB2.out.trans (HB3.out.mono (by have := HS2.out; omega))).mono HB1.out.size))
    obtain ⟨ls, hls⟩ : ∃ ls, ls = allP (writeP (D0 m) k bs).1 := ⟨_, rfl⟩
    by_cases hcond : k < 0 ∨ ((D0 m).plat.length : Int) < k ∨ ((D0 m).plat.length : Int) - k < ((padP bs).length / 256 : Nat)
    · have hw : writeP (D0 m) k bs = (D0 m, 1) := by rw [HP.out, if_pos hcond]
      rw [hw] at HQ hls
      rw [hpl0, hdv] at hcond
      obtain ⟨hq, ok, own1, own2, h1, h2, h3, h4, h5, h6, h7, h8, h9⟩ := HQ.out
      have hq1 : q = 1 := hq
      subst hq1
      have H1 := Lib.hid h1
      have H2 := Lib.hid h2
      have H3 := Lib.hid h3
      have HLS := Lib.hid hls
      clear hq h1 h2 h3 h4 h5 h6 h7 h8 h9 hw hdv hpl0 hls
      go_wp2_with fail
      refine (all_at' H1.out rfl (by simp [D0]; omega) ls HLS.out).mono ?_
      rintro e wa ⟨A1, c1, rfl, hba, hca, hra⟩
      have HBA := Lib.hid hba
      have HRA := Lib.hid hra
      clear hba hra
      go_wp2_with fail
      refine (all_at' (H2.out.below HBA.out) rfl (by simp [D0]; omega) ls HLS.out).mono ?_
      rintro e wb ⟨A2', c2, rfl, hbb, hcb, hrb⟩
      have HBB := Lib.hid hbb
      have HRB := Lib.hid hrb
      clear hbb hrb
      go_wp2_with fail
      refine (lists_same A1 A2' c1 c2 ls wb (Kd.C_below HRA.out HBB.out) HRB.out).mono ?_
      rintro e wd ⟨rfl, hbd⟩
      have HBD := Lib.hid (HBA.out.trans ((HBB.out.trans (hbd.mono HBB.out.size)).mono HBA.out.size))
      clear hbd
      have hor : k < 0 ∨ (0 ≤ k ∧ (m : Int) < k) ∨ (0 ≤ k ∧ k ≤ (m : Int) ∧ (m : Int) - k < ((bs.length : Int) + 255) / 256) := by omega
      clear hcond
      rcases hor with hor | ⟨hor1, hor⟩ | ⟨hor1, hor2, hor⟩
      all_goals
        go_wp2_with fail
        refine (first_at wd).mono ?_
        rintro e we ⟨rfl, hbe⟩
        have HBE := Lib.hid (HBD.out.trans (hbe.mono HBD.out.size))
        clear hbe
        go_wp2_with fail
        refine (writes_at (H1.out.below HBE.out)).mono ?_
        rintro e w' ⟨he, rfl⟩
        obtain rfl : e = .returned (.int .i64 0) := he
        go_wp2_with fail
        refine (pending_at (H1.out.below HBE.out)).mono ?_
        rintro e w' ⟨he, rfl⟩
        obtain rfl : e = .returned (.int .i64 0) := he
        go_wp2
        go_ret
        exact ⟨rfl, HB1.out.trans ((H3.out.trans (HBE.out.mono H3.out.size)).mono HB1.out.size)⟩
    · have hw := HP.out
      rw [if_neg hcond] at hw
      rw [hpl0, hdv] at hcond
      obtain ⟨k0, rfl⟩ := Int.eq_ofNat_of_zero_le (show 0 ≤ k by omega)
      rw [Int.toNat_natCast, hdv] at hw
      obtain ⟨D1, hD1⟩ : ∃ D1, D1 = (writeP (D0 m) k0 bs).1 := ⟨_, rfl⟩
      have hDs : D1.since = putsL k0 (sects ((bs.length + 255) / 256) (padP bs)) := by rw [hD1, hw]; rfl
      have hDt : D1.total = ((bs.length + 255) / 256 : Nat) := by rw [hD1, hw]; simp [D0]
      have hDp : D1.plat = List.replicate m [] := by rw [hD1, hw]; rfl
      have hDf : D1.fallen = false := by rw [hD1, hw]; rfl
      have hDl : D1.plat.length = m := by rw [hDp, List.length_replicate]
      have hDn : D1.since.length = (bs.length + 255) / 256 := by rw [hDs, putsL_length, sects_length]
      rw [hw] at HQ
      have hq0 : q = 0 := HQ.out.1
      subst hq0
      rw [← hw, ← hD1] at HQ
      rw [← hD1] at hls
      obtain ⟨hq, ok, own1, own2, h1, h2, h3, h4, h5, h6, h7, h8, h9⟩ := HQ.out
      have H1 := Lib.hid h1
      have H2 := Lib.hid h2
      have H3 := Lib.hid h3
      have HLS := Lib.hid hls
      have HDF := Lib.hid hDf
      have HDL := Lib.hid hDl
      have HDT := Lib.hid hDt
      have HDN := Lib.hid hDn
      have HPAD := Lib.hid hdv
      have HLL := Lib.hid (show ls.length = m by rw [hls, allP_length, hDl])
      have HAT : Hid (∀ i, i < m → ls[i]? = some (if k0 ≤ i ∧ i < k0 + (bs.length + 255) / 256 then over zs (bs.drop (256 * (i - k0))) else zs)) := parts_at hls hDs hDp hDl
      clear hq h1 h2 h3 h4 h5 h6 h7 h8 h9 hw hdv hpl0 hls hDs hDt hDp hDf hDl hDn hD1 HQ HP
      have hkm : (k0 : Int) ≤ (m : Int) := by omega
      have hkl : ((bs.length : Int) + 255) / 256 ≤ (m : Int) - (k0 : Int) := by omega
      clear hcond
      go_wp2_with fail
      refine (all_at' H1.out HDF.out (by rw [HDL.out]; omega) ls HLS.out).mono ?_
      rintro e wa ⟨A1, c1, rfl, hba, hca, hra⟩
      have HBA := Lib.hid hba
      have HRA := Lib.hid hra
      clear hba hra
      go_wp2_with fail
      refine (all_at' (H2.out.below HBA.out) HDF.out (by rw [HDL.out]; omega) ls HLS.out).mono ?_
      rintro e wb ⟨A2', c2, rfl, hbb, hcb, hrb⟩
      have HBB := Lib.hid hbb
      have HRB := Lib.hid hrb
      clear hbb hrb
      go_wp2_with fail
      refine (lists_same A1 A2' c1 c2 ls wb (Kd.C_below HRA.out HBB.out) HRB.out).mono ?_
      rintro e wd ⟨rfl, hbd⟩
      have HBD := Lib.hid (HBA.out.trans ((HBB.out.trans (hbd.mono HBB.out.size)).mono HBA.out.size))
      clear hbd
      go_wp2_with fail
      refine (all_at' (H1.out.below HBD.out) HDF.out (by rw [HDL.out]; omega) ls HLS.out).mono ?_
      rintro e we ⟨A3, c3, rfl, hbe, hce, hre⟩
      have HBE := Lib.hid (HBD.out.trans (hbe.mono HBD.out.size))
      have HRE := Lib.hid hre
      clear hbe hre
      have hmk : ∀ W : World, (Instr.makeSlice 22 (.int .i64 256) (.int .i64 256)).run Try.prog W = .ok (.slice (some ⟨W.heap.size, 0, none⟩) 256 256) (W.alloc (.cells (madeCells #[.int .u8 0] 256) 5)) := fun W =>
        run_make_row' (P := Try.prog) 22 5 (.int .u8 0) 1 Try.underlying22 info5 rfl .i64 .i64 256 (by omega) (by omega) W
      go_wp2_with fail
      go_loopg [17] m (fun r i wr => ∃ j : Nat, i = .int .i64 (j : Int) ∧ Hid (j + r = m ∧ Below we.heap.size we wr))
      case atStart => exact ⟨0, rfl, by simp, Below.refl _ _⟩
      case round =>
        obtain ⟨j, rfl, HI⟩ := hrel
        by_cases hlt : j < m
        · have HJ := Lib.hid (HAT.out j hlt)
          have hjl : j < ls.length := by rw [HLL.out]; exact hlt
          obtain ⟨a1, B1, c1', rfl, hq1, hl1, hr1⟩ := kB_at HRE.out j hjl
          obtain ⟨Y, hY⟩ : ∃ Y, Y = ls[j] := ⟨_, rfl⟩
          rw [← hY] at hq1 hl1 hr1
          have hYe := HJ.out
          rw [List.getElem?_eq_getElem hjl, ← hY] at hYe
          have HY := Lib.hid hYe
          clear hYe
          have hY256 : Y.length = 256 := by
            have := HY.out
            split at this
            · rw [Option.some.inj this, over_length, zs_length]
            · rw [Option.some.inj this, zs_length]
          rw [hY256] at hq1
          have hq1' := cell_kept hq1 (Kept.of_below HI.out.2 (fun _ => False)) id
          have hal : (a1.add j).block < wr.heap.size := World.block_lt_of_cell? wr _ hq1'
          have HR1 := Lib.hid hr1
          have HY256 := Lib.hid hY256
          clear hY hr1 hq1 hY256 hl1
          by_cases hkj : k0 ≤ j ∧ j < k0 + (bs.length + 255) / 256
          · obtain ⟨hkj1, hkj2⟩ := hkj
            have hkj1' : (k0 : Int) ≤ (j : Int) := by omega
            have hkj2' : (j : Int) < (k0 : Int) + ((bs.length : Int) + 255) / 256 := by omega
            obtain ⟨A4, hcut4, hcut5, hcl4⟩ := Sl.cut (P := Try.prog) (Kd.int .u8) 22 5 Try.underlying22 size5 A c bs (((j : Int) - (k0 : Int)) * 256) (by omega) (by omega) hc
            obtain ⟨X, hX⟩ : ∃ X, X = bs.drop (((j : Int) - (k0 : Int)) * 256).toNat := ⟨_, rfl⟩
            rw [← hX] at hcut4 hcut5 hcl4
            have HYX := Lib.hid (show Y = over zs X by
              have h := Option.some.inj HY.out
              rw [h, if_pos ⟨hkj1, hkj2⟩, hX, show (((j : Int) - (k0 : Int)) * 256).toNat = 256 * (j - k0) by omega])
            have hBr := HB1.out.trans ((H3.out.trans ((HBE.out.trans (HI.out.2.mono HBE.out.size)).mono H3.out.size)).mono HB1.out.size)
            have HXC := Lib.hid (hcut5 wr (fun i => i < w.heap.size) ⟨A, c, rfl, hc, (Kd.C_F (Kd.heap_int .u8) HB.out).step (fun i hi _ => hBr.block i hi)⟩)
            clear hX hcut5 hBr
            go_wp2_with (with_reducible refine wpList_copy_bk rfl (.tmp 147) (.tmp 153) rfl wr.heap.size 256 256 A4 (c - (j - k0) * 256) zs X ?hd ?hs zs_length ?hk ?hx wr.heap.size wr ?hb (Nat.le_refl _) ?_)
            try (case hd => rfl)
            try (case hs => rfl)
            case hk => exact (show Bk _ _ _ by unfold Bk; rw [blk_new, made_bytes])
            case hx => exact Kd.C_below (sl_now HXC.out) (below_alloc (Below.refl _ _) _)
            case hb => exact below_alloc (Below.refl _ _) _
            intro w5 hk5 hb5
            have hq5 := (hb5.cell (p := a1.add j) hal).trans hq1'
            have HB5 := Lib.hid hb5
            clear hb5 hq1'
            go_wp2_with fail
            refine (bytes_same' B1 (some ⟨wr.heap.size, 0, none⟩) 256 c1' 256 Y w5 HY256.out (Kd.C_below (Kd.C_below HR1.out HI.out.2) HB5.out) (by rw [HYX.out]; exact hk5.out.C (by rw [over_length, zs_length]; decide))).mono ?_
            rintro e w' ⟨rfl, rfl⟩
            go_wp2
            go_roundg (m - (j + 1))
            case measure => have := HI.out.1; omega
            case rel => exact ⟨j + 1, by go_num, by omega, HI.out.2.trans (HB5.out.mono HI.out.2.size)⟩
          · have HYZ := Lib.hid (show Y = zs by
              have h := Option.some.inj HY.out
              rw [h, if_neg hkj])
            have hor : (j : Int) < (k0 : Int) ∨ ((k0 : Int) ≤ (j : Int) ∧ (k0 : Int) + ((bs.length : Int) + 255) / 256 ≤ (j : Int)) := by omega
            clear hkj
            rcases hor with hor | ⟨hor1, hor⟩
            all_goals
              go_wp2_with fail
              refine (bytes_same' B1 (some ⟨wr.heap.size, 0, none⟩) 256 c1' 256 Y (wr.alloc (.cells (madeCells #[.int .u8 0] 256) 5)) HY256.out (Kd.C_below (Kd.C_below HR1.out HI.out.2) (below_alloc (Below.refl _ _) _)) (by rw [HYZ.out]; exact Bk.C (by unfold Bk; rw [blk_new, made_bytes]) (by rw [zs_length]; decide))).mono ?_
              rintro e w' ⟨rfl, rfl⟩
              go_wp2
              go_roundg (m - (j + 1))
              case measure => have := HI.out.1; omega
              case rel => exact ⟨j + 1, by go_num, by omega, below_alloc HI.out.2 _⟩
        · clear hmk
          have HBF := Lib.hid (HBE.out.trans (HI.out.2.mono HBE.out.size))
          go_wp2_with fail
          refine (first_at wr).mono ?_
          rintro e wf ⟨rfl, hbf⟩
          have HBG := Lib.hid (HBF.out.trans (hbf.mono HBF.out.size))
          clear hbf
          go_wp2_with fail
          refine (writes_at (H1.out.below HBG.out)).mono ?_
          rintro e w' ⟨he, rfl⟩
          rw [HDT.out] at he
          subst he
          go_wp2_with fail
          refine (pending_at (H1.out.below HBG.out)).mono ?_
          rintro e w' ⟨he, rfl⟩
          rw [HDN.out] at he
          subst he
          go_wp2
          go_ret
          refine ⟨?_, HB1.out.trans ((H3.out.trans (HBG.out.mono H3.out.size)).mono HB1.out.size)⟩
          simp
end Go.Proofs.Ytigohpgdkpcdkaa.Dk
