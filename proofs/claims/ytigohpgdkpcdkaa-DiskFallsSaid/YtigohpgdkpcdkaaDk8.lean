/- Write of the disk: the walk. -/
import Derived.Test.YtigohpgdkpcdkaaDk7
set_option linter.unusedVariables false
set_option linter.unusedSimpArgs false
namespace Go.Proofs.Ytigohpgdkpcdkaa.Dk
open Go.RowKit Go.Proofs.YtigohpgdkpcdkaaW.PrintWords Go.Proofs.Ytigohpgdkpcdkaa.L

theorem info138' : (Try.prog.info? 138).map (·.size) = some 2 := by kernel_rfl

theorem Kd.R_slice' {α : Type} {d : Kd α} {e base : Nat} {ok : Nat → Prop} {w : World} {v : Value} {xs : List α} (h : d.R e w base ok v xs) : ∃ A c, v = .slice A xs.length c ∧ xs.length ≤ c := by
  obtain ⟨A, c, he, hl, _⟩ := Kd.R_reads h
  exact ⟨A, c, he, hl⟩
/-- What stands of the disk while sectors are written. -/
def Wr (w wr : World) (ok own : Nat → Prop) (b s : Nat) (D0 : DK) (k0 : Nat) (ss0 : List (List Int)) (r : Nat) (k : Nat) (va : Value) : Prop :=
  ∃ (ss : List (List Int)) (own' : Nat → Prop) (D : DK), DiskAt wr (fun i => ok i ∨ (w.heap.size ≤ i ∧ i < s)) own' b D ∧ Kp own w wr ∧ s ≤ wr.heap.size ∧ (∀ i, own' i → own i ∨ s ≤ i) ∧ D.plat.length = D0.plat.length ∧ D.fallen = false ∧
    By wr (fun i => ok i ∨ (w.heap.size ≤ i ∧ i < s)) va ss.flatten ∧ (∀ x ∈ ss, x.length = 256) ∧ writeL D k ss = writeL D0 k0 ss0 ∧ ss.length = r ∧ k + r ≤ D0.plat.length ∧ 0 ≤ D.total ∧ D.total + r ≤ 4611686018427387904 ∧ D.since.length + r ≤ 4398046511104 ∧ D.stays.length ≤ 1000000 ∧ D.stays = D0.stays

/-- What a call has left: the blocks that may be read, and those that are the disk's. -/
def Stp (ok own : Nat → Prop) (w : World) (ok' own' : Nat → Prop) (w' : World) : Prop :=
  Kp own w w' ∧ (∀ i, ok i → ok' i) ∧ (∀ i, ok' i → ok i ∨ w.heap.size ≤ i) ∧ (∀ i, own' i → own i ∨ w.heap.size ≤ i) ∧ (∀ i, ok' i → i < w'.heap.size)
def Post (w : World) (ok own : Nat → Prop) (b : Nat) (r : DK × Int) (e : Ending) (w' : World) : Prop :=
  e = .returned (.int .i64 r.2) ∧ ∃ ok' own', Stp ok own w ok' own' w' ∧ DiskAt w' ok' own' b r.1
theorem Post.same {w w' : World} {ok own : Nat → Prop} {b : Nat} {D : DK} {n : Int} (h : DiskAt w' ok own b D) (hb : Below w.heap.size w w') (hok : ∀ i, ok i → i < w.heap.size) : Post w ok own b (D, n) (.returned (.int .i64 n)) w' :=
  ⟨rfl, ok, own, ⟨Kp.of_below _ hb, fun _ h => h, fun _ h => .inl h, fun _ h => .inl h, fun i h => Nat.lt_of_lt_of_le (hok i h) hb.size⟩, h⟩
theorem Wr.post {w wr : World} {ok own : Nat → Prop} {b s : Nat} {D0 : DK} {k0 : Nat} {ss0 : List (List Int)} {k : Nat} {va : Value} (h : Wr w wr ok own b s D0 k0 ss0 0 k va) (hok : ∀ i, ok i → i < w.heap.size) (hs : w.heap.size ≤ s) :
    writeL D0 k0 ss0 = ((writeL D0 k0 ss0).1, 0) ∧ Post w ok own b (writeL D0 k0 ss0) (.returned (.int .i64 0)) wr := by
  obtain ⟨ss, own', D, hD, hk, hsw, hown, -, -, -, -, hw, hr, -⟩ := h
  obtain rfl := List.eq_nil_of_length_eq_zero hr
  rw [← hw]
  exact ⟨rfl, rfl, _, _, ⟨hk, fun i h => .inl h, fun i h => h.imp id (fun h => h.1), fun i h => (hown i h).imp id (fun h => by omega), fun i h => by
    rcases h with h | h
    · exact Nat.lt_of_lt_of_le (hok i h) hk.size
    · omega⟩, hD⟩

theorem own_slice_blk {own : Nat → Prop} {A : Option Addr} {g b n c : Nat} (h : ∀ a, A = some a → own a.block ∧ a.block ≠ g ∧ a.block ≠ b) {i : Nat} (hi : (Value.slice A n c).ownBlock = some i) : own i := by
  cases A with
  | none => cases hi
  | some a => cases hi; exact (h a rfl).1
theorem zone_lt {ok own : Nat → Prop} {w wr : World} {s : Nat} (hok : ∀ i, ok i → i < w.heap.size) (hk : Kp own w wr) (hs : s ≤ wr.heap.size) : ∀ i, (ok i ∨ (w.heap.size ≤ i ∧ i < s)) → i < wr.heap.size := fun i h => by
  rcases h with h | h
  · exact Nat.lt_of_lt_of_le (hok i h) hk.size
  · omega
theorem grown_drew {w w1 : World} {row : Option Nat} (h : w.drew.grownBy w1 row) : w.grownBy w1 row := ⟨h.os, h.tape, h.output, h.size, h.block⟩

theorem Wr.next {w wr w2 : World} {ok own own' : Nat → Prop} {b s : Nat} {D0 D' : DK} {k0 k1 r n : Nat} {ss0 rest : List (List Int)} {s1 : List Int} {sv v1 va : Value}
    (hk' : Kp own w wr) (hsw : s ≤ wr.heap.size) (hown : ∀ i, own' i → own i ∨ s ≤ i) (hplen : D'.plat.length = D0.plat.length) (hfal : D'.fallen = false) (h256 : ∀ x ∈ s1 :: rest, x.length = 256)
    (hwl : writeL D' k1 (s1 :: rest) = writeL D0 k0 ss0) (hste : D'.stays = D0.stays) (hr1 : rest.length + 1 = r) (hkr : k1 + r ≤ D0.plat.length) (ht : 0 ≤ D'.total) (htt : D'.total + r ≤ 4611686018427387904) (hsl : D'.since.length + r ≤ 4398046511104) (hstl : D'.stays.length ≤ 1000000)
    (hok : ∀ i, ok i → i < w.heap.size) (hs0 : w.heap.size ≤ s) (hPk : Kp own' wr w2) (hPD : DiskAt w2 (fun i => ok i ∨ (w.heap.size ≤ i ∧ i < s)) (fun i => own' i ∨ v1.ownBlock = some i) b { D' with since := D'.since ++ [(k1, s1)], total := D'.total + 1 })
    (hsv : ∀ i, sv.ownBlock = some i → own' i) (hat : v1.ownBlock = sv.ownBlock ∨ ∃ i, v1.ownBlock = some i ∧ wr.heap.size ≤ i) (hno : (D'.set && D'.total + 1 == D'.count) = false)
    (hby : By w2 (fun i => ok i ∨ (w.heap.size ≤ i ∧ i < s)) va rest.flatten) : Hid (Wr w (w2.drewN n) ok own b s D0 k0 ss0 (r - 1) (k1 + 1) va) := by
  have hbel : Below w2.heap.size w2 (w2.drewN n) := pw_below_drewN (Below.refl _ _) n
  refine show Wr w (w2.drewN n) ok own b s D0 k0 ss0 (r - 1) (k1 + 1) va from ⟨rest, _, _, hPD.below hbel, (hk'.trans hPk (fun i hi => (hown i hi).imp id (fun h => by omega))).drewN n, ?_, ?_, hplen, hfal, hby.below hbel, fun x hx => h256 x (List.mem_cons_of_mem _ hx), ?_, by omega, by omega, by show 0 ≤ D'.total + 1; omega, by show D'.total + 1 + _ ≤ _; omega, by simp; omega, hstl, hste⟩
  · exact Nat.le_trans hsw hPk.size
  · rintro i (hi | hi)
    · exact hown i hi
    · rcases hat with hat | ⟨j, hj, hle⟩
      · exact hown i (hsv i (hat ▸ hi))
      · rw [hj] at hi
        have := Option.some.inj hi
        exact .inr (by omega)
  · rw [← hwl]
    conv => rhs; unfold writeL
    simp only [hno]
    rfl

theorem Wr.crash {w wr w2 wc : World} {ok own own' : Nat → Prop} {b s : Nat} {D0 D' : DK} {k0 k1 n : Nat} {ss0 rest : List (List Int)} {s1 : List Int} {sv v1 : Value}
    (hk' : Kp own w wr) (hsw : s ≤ wr.heap.size) (hown : ∀ i, own' i → own i ∨ s ≤ i) (hwl : writeL D' k1 (s1 :: rest) = writeL D0 k0 ss0) (hok : ∀ i, ok i → i < w.heap.size) (hs0 : w.heap.size ≤ s) (hPk : Kp own' wr w2)
    (hsv : ∀ i, sv.ownBlock = some i → own' i) (hat : v1.ownBlock = sv.ownBlock ∨ ∃ i, v1.ownBlock = some i ∧ wr.heap.size ≤ i) (hyes : (D'.set && D'.total + 1 == D'.count) = true)
    (hkc : Kp (fun i => own' i ∨ v1.ownBlock = some i) (w2.drewN n) wc)
    (hDc : DiskAt wc (fun i => ok i ∨ (w.heap.size ≤ i ∧ i < s)) (fun i => own' i ∨ v1.ownBlock = some i) b { D' with plat := layP D'.plat (crashL D'.stays (D'.since ++ [(k1, s1)])), since := [], total := D'.total + 1, fallen := true }) :
    Post w ok own b (writeL D0 k0 ss0) (.returned (.int .i64 9)) wc := by
  have h2 : ∀ i, (own' i ∨ v1.ownBlock = some i) → own i ∨ s ≤ i := by
    rintro i (hi | hi)
    · exact hown i hi
    · rcases hat with hat | ⟨j, hj, hle⟩
      · exact hown i (hsv i (hat ▸ hi))
      · rw [hj] at hi
        have := Option.some.inj hi
        exact .inr (by omega)
  have hk3 : Kp own w wc := ((hk'.trans hPk (fun i hi => (hown i hi).imp id (fun h => by omega))).drewN n).trans hkc (fun i hi => (h2 i hi).imp id (fun h => by omega))
  rw [← hwl]
  unfold writeL
  simp only [hyes]
  refine ⟨rfl, _, _, ⟨hk3, fun i h => .inl h, fun i h => h.imp id (fun h => h.1), fun i h => (h2 i h).imp id (fun h => by omega), fun i h => ?_⟩, hDc⟩
  rcases h with h | h
  · exact Nat.lt_of_lt_of_le (hok i h) hk3.size
  · have h1 := hPk.size
    have h4 : w2.heap.size ≤ wc.heap.size := hkc.size
    omega

set_option maxHeartbeats 4000000 in
set_option maxRecDepth 100000 in
theorem write_at {ok own : Nat → Prop} {b : Nat} {D : DK} {w : World} (h : DiskAt w ok own b D) (hd : D.fallen = false) (k : Int) (A : Option Addr) (c : Nat) (parts : List (List Int))
    (hp : ReadsRow (PlR w ok) 1 w A parts.length parts) (hc : parts.length ≤ c) (hsz : parts.flatten.length ≤ 1099511627776) (ht0 : 0 ≤ D.total) (ht1 : D.total ≤ 2305843009213693952) (hs1 : D.since.length ≤ 1099511627776) (hst : D.stays.length ≤ 1000000)
    (hpl : D.plat.length ≤ 1000000) (hok : ∀ i, ok i → i < w.heap.size) :
    Calls Try.prog 14 #[.pointer (some ⟨b, 0, none⟩), .int .i64 k, .slice A parts.length c] w (Post w ok own b (writeP D k parts.flatten)) := by
  have HD := Lib.hid h
  have HP := Lib.hid hp
  have hlm : parts.length ≤ 9223372036854775807 := hp.2.1
  have HOK := Lib.hid hok
  clear hp h hok
  go_enter Try.func14, Try.ntmps14
  go_wp2
  go_loopg [7, 12] parts.length (fun r va i wr => ∃ j : Nat, i = .int .i64 (j : Int) ∧ Hid (j + r = parts.length ∧ Below w.heap.size w wr ∧ (Kd.int .u8).R 5 wr w.heap.size (fun k => w.heap.size ≤ k) va (parts.take j).flatten))
  case atStart => exact ⟨0, rfl, by simp, Below.refl _ _, by simpa using Kd.R_nil _ _ _ _ _⟩
  case round =>
    obtain ⟨j, rfl, HI⟩ := hrel
    by_cases hlt : j < parts.length
    · obtain ⟨ad, rfl, hcc⟩ := HP.out.2.2 (by omega)
      obtain ⟨cs, hcl, ⟨v, hv, A2, c2, hv2, hc2, hf2⟩, hcell⟩ := hcc j _ (List.getElem?_eq_getElem hlt)
      subst hv
      subst hv2
      have hq0 : w.cell? (ad.add j) = some (.slice A2 parts[j].length c2) := by have := hcell 0 _ rfl; rwa [Nat.mul_one, Nat.add_zero] at this
      have hd0 := cell_kept hq0 (Kept.of_below (HI.out.2.1) (fun _ => False)) id
      have hal := World.block_lt_of_cell? wr _ hd0
      have hwl := HI.out.2.1.size
      have hlen : (parts.take j).flatten.length + parts[j].length ≤ 1099511627776 := by
        have h1 : (parts.take (j + 1)).flatten.length ≤ parts.flatten.length := by
          rw [← List.take_append_drop (j + 1) parts, List.flatten_append, List.length_append, List.take_append_drop]
          omega
        rw [List.take_succ_eq_append_getElem hlt, List.flatten_append, List.length_append] at h1
        simp only [List.flatten_cons, List.flatten_nil, List.append_nil] at h1
        omega
      have HF2 := Lib.hid (Kd.F_now hf2)
      clear hcc hcell hq0 hf2
      go_wp2_with ((with_reducible refine gate_builtin (b := .append) (xs := #[.tmp 16, .tmp 17]) rfl ?_); refine Kd.R_append_rows (Kd.int .u8) (w0 := w) w.heap.size rfl (.tmp 16) (.tmp 17) 22 5 (.int .u8 0) 1 rfl Try.underlying22 info5 rfl (by decide) (by decide) _ (parts.take j).flatten parts[j] A2 parts[j].length c2 (fun k => w.heap.size ≤ k) (fun _ => False) rfl rfl HI.out.2.2 ?hR (fun _ _ h => h) (fun _ h => h.elim) (fun k hk => Nat.le_trans hwl hk) HI.out.2.1 hwl ?hB ?_)
      case hR => exact Kd.C_below HF2.out HI.out.2.1
      case hB => omega
      intro v1 w1 hr1 hb1 hg1 hat1
      have HR1 := Lib.hid hr1
      have HB1 := Lib.hid hb1
      clear hr1 hb1 hg1 hat1
      go_wp2
      go_roundg (parts.length - (j + 1))
      case measure => have := HI.out.1; omega
      case rel =>
        refine ⟨j + 1, by go_num, by omega, HB1.out, ?_⟩
        rw [List.take_succ_eq_append_getElem hlt, List.flatten_append]
        simpa using HR1.out
    · have hj : j = parts.length := by have := HI.out.1; omega
      have HJ := Lib.hid hj
      clear hj
      have hfl : (parts.take j).flatten = parts.flatten := by rw [HJ.out, List.take_length]
      have HFL := Lib.hid hfl
      clear hfl
      obtain ⟨Av, cv, hv0, -⟩ := Kd.R_slice' HI.out.2.2
      have HV0 := Lib.hid hv0
      clear hv0
      go_wp2
      go_loopg [7] 256 (fun r va w2 => ∃ xs : List Int, Hid ((Kd.int .u8).R 5 w2 w.heap.size (fun k => w.heap.size ≤ k) va xs ∧ Below w.heap.size w w2 ∧ padP xs = padP parts.flatten ∧ (256 - xs.length % 256) % 256 ≤ r ∧ xs.length ≤ 1099511627776 + 256))
      case atStart => exact ⟨_, by rw [← HFL.out]; exact HI.out.2.2, HI.out.2.1, rfl, by omega, by omega⟩
      case round =>
        obtain ⟨xs, HX⟩ := hrel
        obtain ⟨Ax, cx, hv, hcx⟩ := Kd.R_slice' HX.out.1
        subst hv
        have hxl := HX.out.2.2.2.2
        have hwl := HX.out.2.1.size
        by_cases hlt : 0 < xs.length % 256
        · have hmod : decide (0 < (xs.length : Int) % 256) = true := by simp; omega
          go_wp2_with ((with_reducible refine gate_builtin (b := .append) (xs := #[.tmp 24, .tmp 25]) rfl ?_); refine Kd.R_append (Kd.int .u8) (w0 := w) w.heap.size rfl (.tmp 24) (.tmp 25) 22 5 (.int .u8 0) 1 rfl Try.underlying22 info5 rfl (by decide) (by decide) _ xs 0 [.int .u8 0] (fun k => w.heap.size ≤ k) (fun _ => False) rfl rfl rfl (fun _ h => h.elim) (fun k hk => Nat.le_trans hwl hk) HX.out.1 HX.out.2.1 hwl ?hB ?_)
          case hB => omega
          intro v1 w1 hr1 hb1 hg1 hat1
          have HR1 := Lib.hid hr1
          have HB1 := Lib.hid hb1
          clear hr1 hb1 hg1 hat1
          go_wp2
          go_roundg ((256 - (xs.length + 1) % 256) % 256)
          case measure => have := HX.out.2.2.2.1; omega
          case rel => exact ⟨xs ++ [0], HR1.out, HB1.out, (padP_step xs hlt).trans HX.out.2.2.1, by simp, by simp; omega⟩
        · have hmod : decide (0 < (xs.length : Int) % 256) = false := by simp; omega
          have HXP := Lib.hid (show padP parts.flatten = xs by rw [← HX.out.2.2.1, padP_done _ (by omega)])
          have HDr := Lib.hid (HD.out.below HX.out.2.1)
          obtain ⟨g, cp, A', c', tA, tc, hb, -⟩ := HDr.out.open
          have h6 := (blk_cell hb 6).trans (show _ = some (.bool false) by rw [hd]; rfl)
          clear hb
          by_cases hk0 : 0 ≤ k
          · by_cases hkn : k ≤ (D.plat.length : Int)
            · by_cases hkl : (xs.length : Int) / 256 ≤ (D.plat.length : Int) - k
              · obtain ⟨k0, rfl⟩ := Int.eq_ofNat_of_zero_le hk0
                have hxl0 : 256 * (xs.length / 256) = xs.length := by omega
                obtain ⟨hf1, hf2⟩ := sects_flat (xs.length / 256) xs (by omega)
                have HW : Hid (writeP D k0 parts.flatten = writeL D k0 (sects (xs.length / 256) xs)) := by
                  have := HXP.out
                  have e : writeP D k0 parts.flatten = writeL D k0 (sects (xs.length / 256) xs) := by
                    unfold writeP
                    rw [hd, if_neg (by decide), this, if_neg (by omega), Int.toNat_natCast]
                  exact e
                have HS : Hid (Wr w wr ok own b wr.heap.size D k0 (sects (xs.length / 256) xs) (xs.length / 256) k0 (.slice Ax xs.length cx)) := by
                  have hoo : ∀ i, ok i → ok i ∨ (w.heap.size ≤ i ∧ i < wr.heap.size) := fun i h => .inl h
                  have hlt : ∀ i, own i → i < w.heap.size := by obtain ⟨_, _, _, _, _, _, _, _, _, _, _, h, _⟩ := HD.out; exact h
                  have hnn : ∀ i, ok i → ¬ own i := by obtain ⟨_, _, _, _, _, _, _, _, _, _, h, _⟩ := HD.out; exact h
                  have e : Wr w wr ok own b wr.heap.size D k0 (sects (xs.length / 256) xs) (xs.length / 256) k0 (.slice Ax xs.length cx) := by
                    refine ⟨_, own, D, HD.out.step (Kp.of_below (fun _ => False) HX.out.2.1) (fun _ h => h.elim) (fun _ h => h.elim) hoo (fun i hi ho => ?_), Kp.of_below _ HX.out.2.1, Nat.le_refl _, fun i h => .inl h, rfl, hd, ?_, hf2, rfl, sects_length _ _, by omega, ht0, by omega, by omega, hst, rfl⟩
                    · rcases hi with hi | hi
                      · exact hnn i hi ho
                      · have := hlt i ho; omega
                    · rw [hf1]
                      exact (Sl.of_R HX.out.1).bound.mono (fun i hi => .inr ⟨hi.1, hi.2⟩)
                  exact e
                have hs0 := HX.out.2.1.size
                clear hf1 hf2 hxl0
                obtain ⟨W0, rfl⟩ : ∃ W0, W0 = wr := ⟨_, rfl⟩
                have hB1 : decide ((k0 : Int) < 0) = false := decide_eq_false (by omega)
                have hB2 : decide (D.plat.length < k0) = false := decide_eq_false (by omega)
                have hB3 : decide ((D.plat.length : Int) - (k0 : Int) < (xs.length : Int) / 256) = false := decide_eq_false (by omega)
                go_wp2_with (go_at_call 64; refine (sectors_at HDr.out).mono ?_; rintro e w' ⟨rfl, rfl⟩)
                go_loopg [1, 7] (xs.length / 256) (fun r kv va w2 => ∃ k1 : Nat, kv = .int .i64 (k1 : Int) ∧ Hid (Wr w w2 ok own b W0.heap.size D k0 (sects (xs.length / 256) xs) r k1 va))
                case atStart => exact ⟨k0, rfl, HS.out⟩
                case round =>
                  obtain ⟨k1, rfl, HI⟩ := hrel
                  have HI2 := HI.out
                  obtain ⟨ss, own', D', hD', hk', hsw, hown, hplen, hfal, hby, h256, hwl, hr, hkr, ht2, htt, hsl, hstl, hste⟩ := HI2
                  obtain ⟨A1, c1, rfl, hc1, hx1⟩ := hby.form
                  cases ss with
                  | nil =>
                    have HR := Lib.hid (show gk = 0 from hr.symm)
                    clear hD' hk' hsw hown hplen hfal hby h256 hwl hr hkr ht2 htt hsl hstl hste
                    go_wp2
                    go_ret
                    rw [HW.out]
                    have := HI.out
                    rw [HR.out] at this
                    exact (this.post HOK.out hs0).2
                  | cons s1 rest =>
                    have hXl : s1.length = 256 := h256 s1 List.mem_cons_self
                    obtain ⟨X, hX⟩ : ∃ X, X = (s1 :: rest).flatten := ⟨_, rfl⟩
                    rw [← hX] at hby hc1 hx1 ⊢
                    have hX256 : 256 ≤ X.length := by rw [hX, List.flatten_cons, List.length_append]; omega
                    have HXd := Lib.hid (show X.drop 256 = rest.flatten by rw [hX, List.flatten_cons, ← hXl, List.drop_left])
                    have HXt := Lib.hid (show X.take 256 = s1 by rw [hX, List.flatten_cons, ← hXl, List.take_left])
                    clear hX
                    obtain ⟨A2, hcut, hcut2, hcl⟩ := Sl.cut (P := Try.prog) (Kd.int .u8) 22 5 Try.underlying22 size5 A1 c1 X 256 (by omega) (by omega) hc1
                    have HC2 := Lib.hid hcut2
                    obtain ⟨g2, cp2, As, cs, tA2, tc2, hb2, hp2, hs2, hcs2, -, ht3, o1, o2, o3, -, -, hok2, hlt2, hxx, h00⟩ := hD'.open
                    have hc4 := blk_cell hb2 4
                    have hf4 := blk_frozen hb2 4
                    have HALL := Lib.hid (And.intro hb2 (And.intro hp2 (And.intro hs2 (And.intro ht3 (And.intro o1 (And.intro o2 (And.intro o3 (And.intro hok2 (And.intro hlt2 (And.intro hxx h00))))))))))
                    have HREST := Lib.hid (And.intro hk' (And.intro hsw (And.intro hown (And.intro hplen (And.intro hfal (And.intro hby (And.intro h256 (And.intro hwl (And.intro hr hste)))))))))
                    have HSS := Lib.hid (hs2.below (below_drew (Below.refl _ _)))
                    have HPUT := Lib.hid (show PutR wr (fun i => ok i ∨ (w.heap.size ≤ i ∧ i < W0.heap.size)) (k1, s1) [.int .i64 (k1 : Int), .slice A1 256 256] from ⟨_, rfl, by rw [← HXt.out]; exact hby.take 256 hX256 (Nat.le_refl _)⟩)
                    have hr1 : rest.length + 1 = gk := by rw [← hr]; rfl
                    have hc256 : (256 : Int) ≤ (c1 : Int) := by omega
                    have hbl : b < wr.heap.size := blk_lt HALL.out.1
                    clear hD' hk' hsw hown hplen hfal hby h256 hwl hr hste hcut2 hb2 hp2 hs2 hcs2 ht3 o1 o2 o3 hok2 hlt2 hxx h00
                    go_wp2_with fail
                    go_region_law (refine OwnRow.append_step (w0 := wr) (W := wr.drew) 0 (by rfl) (.tmp 58) (.tmp 63) 134 138 (.agg #[.int .i64 0, .slice none 0 0]) 2 32 rfl Try.underlying134 info138 rfl (by decide) (by decide) (.slice As D'.since.length cs) D'.since (k1, s1) [.int .i64 (k1 : Int), .slice A1 256 256] (by simp [Act.eval, Act.put]) (by simp [Act.eval, Act.put]) HPUT.out rfl (by simp [Value.oneCell']) HSS.out (Below.refl _ _).drew (Nat.zero_le _) (by omega) ?_; intro v1 w1 hS1 hb1 hg1 hat1; obtain ⟨Av1, cv1, rfl, -⟩ := OwnRow.slice_ hS1; have hbb := blk_grown (blk_drew HALL.out.1) hg1 (HALL.out.2.2.1.ne_block HALL.out.1 (by decide)); have hc4' := blk_cell hbb 4; have hf4' := blk_frozen hbb 4; have HS1 := Lib.hid hS1; have HG1 := Lib.hid hg1; have HAT1 := Lib.hid hat1; clear hS1 hb1 hg1 hat1 hbb)
                    all_goals
                      obtain ⟨Pk, PD⟩ := put_at HALL.out.1 HALL.out.2.1 HALL.out.2.2.1 HS1.out HALL.out.2.2.2.1 HALL.out.2.2.2.2.1 (fun i hi => (by rintro ⟨⟩; exact HALL.out.2.2.2.2.2.1 : _ → _) hi) (fun i hi => own_slice_blk HALL.out.2.2.2.2.2.2.1 hi) HALL.out.2.2.2.2.2.2.2.1 HALL.out.2.2.2.2.2.2.2.2.1 (zone_lt HOK.out HREST.out.1 HREST.out.2.1) HALL.out.2.2.2.2.2.2.2.2.2.1 HALL.out.2.2.2.2.2.2.2.2.2.2 (by have := HREST.out.2.2.2.1; omega) (grown_drew HG1.out) HAT1.out
                      have HPk := Lib.hid Pk
                      have HPD := Lib.hid PD
                      have hbb := blk_grown (blk_drew HALL.out.1) HG1.out (HALL.out.2.2.1.ne_block HALL.out.1 (by decide))
                      have hq1 := blk_cell hbb 1
                      have hq2 := blk_cell hbb 2
                      have hq3 := blk_cell hbb 3
                      have hq5 := blk_cell hbb 5
                      have hqf := blk_frozen hbb 5
                      clear hbb Pk PD
                      have HNEXT := Lib.hid (fun (n : Nat) (hno : (D'.set && D'.total + 1 == D'.count) = false) => Wr.next (n := n) HREST.out.1 HREST.out.2.1 HREST.out.2.2.1 HREST.out.2.2.2.1 HREST.out.2.2.2.2.1 HREST.out.2.2.2.2.2.2.1 HREST.out.2.2.2.2.2.2.2.1 HREST.out.2.2.2.2.2.2.2.2.2 hr1 hkr ht2 htt hsl hstl HOK.out hs0 HPk.out HPD.out (fun i hi => own_slice_blk HALL.out.2.2.2.2.2.2.1 hi) HAT1.out hno (by rw [← HXd.out]; exact HC2.out _ _ (HREST.out.2.2.2.2.2.1.kp HPk.out HALL.out.2.2.2.2.2.2.2.1)))
                      have E1 := Lib.hid (show (D'.since ++ [(k1, s1)]).length = D'.since.length + 1 by simp)
                      have E2 := Lib.hid (show (X.drop (Int.toNat 256)).length = X.length - 256 by rw [List.length_drop]; rfl)
                      cases hset : D'.set with
                      | false =>
                        have hq1' : w1.cell? ⟨b, 1, none⟩ = some (.bool false) := hq1.trans (by rw [hset]; rfl)
                        clear hq1
                        go_wp2
                        go_quiet (fail)
                        go_wp2
                        go_roundg (gk - 1)
                        case measure => omega
                        case rel =>
                          refine ⟨k1 + 1, by go_num, ?_⟩
                          have e := HNEXT.out nq (by rw [hset]; rfl)
                          rw [E1.out, E2.out] at e
                          exact e
                      | true =>
                        have hq1' : w1.cell? ⟨b, 1, none⟩ = some (.bool true) := hq1.trans (by rw [hset]; rfl)
                        clear hq1
                        by_cases hct : D'.total + 1 = D'.count
                        · have hcb : (D'.total + 1 == D'.count) = true := beq_iff_eq.2 hct
                          have HYES := Lib.hid (show (D'.set && D'.total + 1 == D'.count) = true by rw [hset, hcb]; rfl)
                          have HCT := Lib.hid hct
                          have HCR := Lib.hid (fun n : Nat => crash_at (HPD.out.below (pw_below_drewN (Below.refl _ _) n)) HREST.out.2.2.2.2.1 tA2 tc2 D'.stays ((HALL.out.2.2.2.1.kp HPk.out HALL.out.2.2.2.2.2.2.2.1).below (pw_below_drewN (Below.refl _ _) n)) hstl)
                          rw [E1.out] at HCR
                          clear hct
                          go_wp2_with fail
                          go_quiet (fail)
                          go_wp2_with (go_at_call 24; refine (HCR.out nq).mono ?_; rintro e wc ⟨rfl, hkc, hDc⟩)
                          go_ret
                          rw [HW.out]
                          have hkc' := hkc
                          have hDc' := hDc
                          rw [← E1.out] at hkc' hDc'
                          exact Wr.crash HREST.out.1 HREST.out.2.1 HREST.out.2.2.1 HREST.out.2.2.2.2.2.2.2.1 HOK.out hs0 HPk.out (fun i hi => own_slice_blk HALL.out.2.2.2.2.2.2.1 hi) HAT1.out HYES.out hkc' hDc'
                        · have hcb : (D'.total + 1 == D'.count) = false := beq_eq_false_iff_ne.2 hct
                          have HCT := Lib.hid hct
                          clear hct
                          go_wp2
                          go_quiet (fail)
                          go_wp2
                          go_roundg (gk - 1)
                          case measure => omega
                          case rel =>
                            refine ⟨k1 + 1, by go_num, ?_⟩
                            have e := HNEXT.out nq (by rw [hcb, Bool.and_false])
                            rw [E1.out, E2.out] at e
                            exact e
              · have HW := Lib.hid (show writeP D k parts.flatten = (D, 1) by
                  have := HXP.out
                  unfold writeP
                  rw [hd, if_neg (by decide), this, if_pos (by omega)])
                go_wp2_with (go_at_call 64; refine (sectors_at HDr.out).mono ?_; rintro e w' ⟨rfl, rfl⟩)
                go_ret
                rw [HW.out]
                exact Post.same HDr.out HX.out.2.1 HOK.out
            · have HW := Lib.hid (show writeP D k parts.flatten = (D, 1) by
                unfold writeP
                rw [hd, if_neg (by decide), if_pos (by omega)])
              go_wp2_with (go_at_call 64; refine (sectors_at HDr.out).mono ?_; rintro e w' ⟨rfl, rfl⟩)
              go_ret
              rw [HW.out]
              exact Post.same HDr.out HX.out.2.1 HOK.out
          · have HW := Lib.hid (show writeP D k parts.flatten = (D, 1) by
              unfold writeP
              rw [hd, if_neg (by decide), if_pos (by omega)])
            go_wp2
            go_ret
            rw [HW.out]
            exact Post.same HDr.out HX.out.2.1 HOK.out
end Go.Proofs.Ytigohpgdkpcdkaa.Dk
