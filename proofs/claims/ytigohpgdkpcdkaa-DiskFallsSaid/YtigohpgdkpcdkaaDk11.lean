/- A new disk; what the chapter's examples fix. -/
import Derived.Test.YtigohpgdkpcdkaaDk10
set_option linter.unusedVariables false
set_option linter.unusedSimpArgs false
namespace Go.Proofs.Ytigohpgdkpcdkaa.Dk
open Go.RowKit Go.Proofs.YtigohpgdkpcdkaaW.PrintWords Go.Proofs.Ytigohpgdkpcdkaa.L

def D0 (n : Nat) : DK := { plat := List.replicate n [], since := [], total := 0, fallen := false, set := false, count := 0, stays := [] }
theorem new_at (n : Nat) (w : World) (ok : Nat → Prop) (h1 : 3 ≤ n) (h2 : n ≤ 2048) (hok : ∀ i, ok i → i < w.heap.size) :
    Calls Try.prog 13 #[.int .i64 n] w fun e w' => e = .returned (.tuple #[.pointer (some ⟨w.heap.size + 1, 0, none⟩), .int .i64 0]) ∧
      Below w.heap.size w w' ∧ w'.heap.size = w.heap.size + 2 ∧ DiskAt w' ok (fun i => i = w.heap.size ∨ i = w.heap.size + 1) (w.heap.size + 1) (D0 n) := by
  refine (new_yes n w h1 h2).mono ?_
  rintro e w' ⟨rfl, rfl⟩
  have hb1 := blk_new w (.cells (madeCells #[.slice none 0 0] n) 22)
  have hb2 := blk_alloc hb1 (.cells #[.slice (some ⟨w.heap.size, 0, none⟩) n n, .bool false, .int .i64 0, .slice none 0 0, .slice none 0 0, .int .i64 0, .bool false] 136)
  have hb3 := blk_new (w.alloc (.cells (madeCells #[.slice none 0 0] n) 22)) (.cells #[.slice (some ⟨w.heap.size, 0, none⟩) n n, .bool false, .int .i64 0, .slice none 0 0, .slice none 0 0, .int .i64 0, .bool false] 136)
  rw [show (w.alloc (.cells (madeCells #[.slice none 0 0] n) 22)).heap.size = w.heap.size + 1 by simp] at hb3
  refine ⟨rfl, below_alloc (below_alloc (Below.refl _ _) _) _, by simp, _, _, _, hb3, ?_, OwnRow.none_ _ _ _ _ _, Sl.nil _ _ _, .inr rfl, ?_, (by rintro k ⟨⟩), ?_, ?_, (by simp [D0]), by simp [D0]; omega⟩
  · refine ⟨List.replicate n (.slice none 0 0), ⟨by simp [D0], .inr ⟨w.heap.size, n, _, ?_, Nat.zero_le _, hb2, ?_, ?_, ?_, ?_⟩⟩, ?_⟩
    · simp [D0]
    · simp [D0]
    · unfold maxLen; omega
    · simp [size_madeCells]
    · rw [toList_madeCells_one]; simp [D0]
    · refine ⟨by simp [D0], fun j p hj => ?_⟩
      obtain ⟨hjl, hp⟩ := List.getElem?_eq_some_iff.1 hj
      simp only [D0, List.length_replicate] at hjl
      simp only [D0, List.getElem_replicate] at hp
      subst hp
      refine ⟨.slice none 0 0, ?_, Sl.nil _ _ _⟩
      rw [Nat.mul_one, List.drop_replicate, List.take_replicate, show min 1 (n - j) = 1 by omega]
      rfl
  · rintro k ⟨⟩; exact .inl rfl
  · rintro i hi (rfl | rfl)
    · exact absurd (hok _ hi) (by omega)
    · exact absurd (hok _ hi) (by omega)
  · rintro i (rfl | rfl) <;> simp <;> omega

theorem DiskAt.okn {w : World} {ok own : Nat → Prop} {b : Nat} {D : DK} (h : DiskAt w ok own b D) : ∀ i, ok i → ¬ own i := by
  obtain ⟨_, _, _, _, _, _, _, _, _, _, h, _⟩ := h
  exact h
theorem DiskAt.ownlt {w : World} {ok own : Nat → Prop} {b : Nat} {D : DK} (h : DiskAt w ok own b D) : ∀ i, own i → i < w.heap.size := by
  obtain ⟨_, _, _, _, _, _, _, _, _, _, _, h, _⟩ := h
  exact h
theorem blk_new' {w : World} {n : Nat} (h : w.heap.size = n) (o : Obj) : (w.alloc o).heap[n]? = some o := by rw [← h]; exact blk_new w o
theorem Post.lower {w w0 w' : World} {ok own : Nat → Prop} {b : Nat} {r : DK × Int} {e : Ending} (h : Post w ok own b r e w') (hb : Below w0.heap.size w0 w) : Post w0 ok own b r e w' := by
  obtain ⟨he, ok', own', ⟨h1, h2, h3, h4, h5⟩, hd⟩ := h
  have := hb.size
  exact ⟨he, ok', own', ⟨(Kp.of_below own hb).trans' h1, h2, fun i hi => (h3 i hi).imp id (fun h => by omega), fun i hi => (h4 i hi).imp id (fun h => by omega), h5⟩, hd⟩
/-- One part, just laid down, is written. -/
theorem write_one {ok own : Nat → Prop} {b : Nat} {D : DK} {W : World} (h : DiskAt W ok own b D) (hd : D.fallen = false) (k : Int) (A2 : Option Addr) (n c2 : Nat) (xs : List Int) (hn : xs.length = n) (hby : By W ok (.slice A2 n c2) xs)
    (hsz : xs.length ≤ 1099511627776) (ht0 : 0 ≤ D.total) (ht1 : D.total ≤ 2305843009213693952) (hs1 : D.since.length ≤ 1099511627776) (hst : D.stays.length ≤ 1000000) (hpl : D.plat.length ≤ 1000000) (hok : ∀ i, ok i → i < W.heap.size) (s : Nat) (hs : W.heap.size = s) :
    Calls Try.prog 14 #[.pointer (some ⟨b, 0, none⟩), .int .i64 k, .slice (some ⟨s, 0, none⟩) 1 1] (W.alloc (.cells #[.slice A2 n c2] 22)) (Post W ok own b (writeP D k xs)) := by
  subst hs
  subst hn
  have hbel : Below W.heap.size W (W.alloc (.cells #[.slice A2 xs.length c2] 22)) := below_alloc (Below.refl _ _) _
  have hf : [xs].flatten = xs := by simp
  refine (write_at (h.below hbel) hd k (some ⟨W.heap.size, 0, none⟩) 1 [xs] ⟨rfl, by simp, fun _ => ⟨_, rfl, fun j p hj => ?_⟩⟩ (Nat.le_refl _) (by rw [hf]; exact hsz) ht0 ht1 hs1 hst hpl (fun i hi => Nat.lt_of_lt_of_le (hok i hi) hbel.size)).mono ?_
  · match j, hj with
    | 0, hj =>
      obtain rfl : xs = p := by simpa using hj
      refine ⟨[.slice A2 xs.length c2], rfl, ⟨_, rfl, hby.below hbel⟩, fun i u hu => ?_⟩
      rw [show (0 * 1 + i) = i by omega, add_plain, blk_cell (blk_new _ _)]
      simpa using hu
  · intro e w' hp
    rw [hf] at hp
    exact hp.lower hbel

theorem crash_two {ok own : Nat → Prop} {b : Nat} {D : DK} {W : World} (h : DiskAt W ok own b D) (hd : D.fallen = false) (hok : ∀ i, ok i → i < W.heap.size) (s : Nat) (hs : W.heap.size = s) :
    Calls Try.prog 24 #[.pointer (some ⟨b, 0, none⟩), .slice (some ⟨s, 0, none⟩) 1 1] (W.alloc (.cells #[.int .u8 2] 5)) fun e w' =>
      e = .returned (.tuple #[]) ∧ ∃ ok', Stp ok own W ok' own w' ∧ DiskAt w' ok' own b { D with plat := layP D.plat (crashL [2] D.since), since := [], fallen := true } := by
  subst hs
  have hbel : Below W.heap.size W (W.alloc (.cells #[.int .u8 2] 5)) := below_alloc (Below.refl _ _) _
  have hB : Bk (W.alloc (.cells #[.int .u8 2] 5)) W.heap.size [2] := blk_new W _
  have hD := h.step (ok' := fun i => ok i ∨ i = W.heap.size) (Kp.of_below (fun _ => False) hbel) (fun _ h => h.elim) (fun _ h => h.elim) (fun _ h => .inl h) (by
    rintro i (hi | rfl) ho
    · exact h.okn i hi ho
    · exact absurd (h.ownlt _ ho) (by omega))
  refine (crash_at hD hd (some ⟨W.heap.size, 0, none⟩) 1 [2] (hB.By (by decide) (.inr rfl)) (by decide)).mono ?_
  rintro e w' ⟨rfl, hk, hd'⟩
  have hkw : Kp own W w' := (Kp.of_below own hbel).trans' hk
  refine ⟨rfl, _, ⟨hkw, fun i hi => .inl hi, fun i hi => hi.imp id (fun h => by omega), fun i hi => .inl hi, ?_⟩, hd'⟩
  rintro i (hi | rfl)
  · exact Nat.lt_of_lt_of_le (hok i hi) hkw.size
  · have := hk.size
    simp at this
    omega

def X1 : List Int := (List.replicate 256 0).set 0 1
def Y1 : List Int := ((List.replicate 300 0).set 0 2).set 256 3
def E1 : DK := (writeP (D0 5) 0 X1).1
def E2 : DK := { E1 with plat := layP E1.plat E1.since, since := [] }
def E3 : DK := (writeP E2 0 Y1).1
def E4 : DK := { E3 with plat := layP E3.plat (crashL [2] E3.since), since := [], fallen := true }
def E5 : DK := { E4 with fallen := false }
theorem pure_E1 : E1.fallen = false ∧ E1.total = 1 ∧ E1.since.length = 1 ∧ E1.stays.length = 0 ∧ E1.plat.length = 5 ∧ (writeP (D0 5) 0 X1).2 = 0 := by decide +kernel
theorem pure_E3 : E3.fallen = false ∧ E3.total = 3 ∧ E3.since.length = 2 ∧ E3.stays.length = 0 ∧ E3.plat.length = 5 ∧ (writeP E2 0 Y1).2 = 0 := by decide +kernel
theorem pure_E5 : E5.plat.length = 5 ∧ (showsP E5.plat E5.since 0)[0]? = some 1 ∧ (showsP E5.plat E5.since 1)[0]? = some 3 := by decide +kernel
theorem made_X1 : (madeCells #[.int .u8 0] 256).setIfInBounds 0 (.int .u8 1) = (nums .u8 X1).toArray := by
  apply Array.toList_inj.1
  rw [Array.toList_setIfInBounds, toList_madeCells_one]
  unfold nums X1
  rw [List.map_set, List.map_replicate]
theorem made_Y1 : ((madeCells #[.int .u8 0] 300).setIfInBounds 0 (.int .u8 2)).setIfInBounds 256 (.int .u8 3) = (nums .u8 Y1).toArray := by
  apply Array.toList_inj.1
  rw [Array.toList_setIfInBounds, Array.toList_setIfInBounds, toList_madeCells_one]
  unfold nums Y1
  rw [List.map_set, List.map_set, List.map_replicate]

set_option maxHeartbeats 1000000 in
set_option maxRecDepth 100000 in
theorem first_at (w : World) : Calls Try.prog 12 #[] w fun e w' => e = .returned (.bool true) ∧ Below w.heap.size w w' := by
  have hmk1 : ∀ W : World, (Instr.makeSlice 22 (.int .i64 256) (.int .i64 256)).run Try.prog W = .ok (.slice (some ⟨W.heap.size, 0, none⟩) 256 256) (W.alloc (.cells (madeCells #[.int .u8 0] 256) 5)) := fun W =>
    run_make_row' (P := Try.prog) 22 5 (.int .u8 0) 1 Try.underlying22 info5 rfl .i64 .i64 256 (by omega) (by omega) W
  have hmk2 : ∀ W : World, (Instr.makeSlice 22 (.int .i64 300) (.int .i64 300)).run Try.prog W = .ok (.slice (some ⟨W.heap.size, 0, none⟩) 300 300) (W.alloc (.cells (madeCells #[.int .u8 0] 300) 5)) := fun W =>
    run_make_row' (P := Try.prog) 22 5 (.int .u8 0) 1 Try.underlying22 info5 rfl .i64 .i64 300 (by omega) (by omega) W
  go_enter Try.func12, Try.ntmps12
  go_upto_region 4 with (go_at_call 13; refine (new_at 5 w (fun _ => False) (by decide) (by decide) (fun _ h => h.elim)).mono ?_; rintro e w1 ⟨rfl, hb1, hs1, hd1⟩; have HB1 := Lib.hid hb1; have HS1 := Lib.hid hs1; have HD1 := Lib.hid hd1; clear hb1 hs1 hd1)
  go_cut [3, 4] (fun vx vy wc => ∃ gx gy : Nat, vx = .slice (some ⟨gx, 0, none⟩) 256 256 ∧ vy = .slice (some ⟨gy, 0, none⟩) 300 300 ∧ Hid (Below w1.heap.size w1 wc ∧ wc.heap[gx]? = some (.cells (madeCells #[.int .u8 0] 256) 5 (0, 0)) ∧ wc.heap[gy]? = some (.cells (madeCells #[.int .u8 0] 300) 5 (0, 0)) ∧ gx ≠ gy ∧ w1.heap.size ≤ gx ∧ w1.heap.size ≤ gy))
  case first =>
    go_region
    · go_wp2
      go_meet
      case rel => 
        exact ⟨_, _, rfl, rfl, below_drew (below_alloc (below_alloc (Below.refl _ _) _) _), blk_drew (blk_alloc (blk_new _ _) _), blk_drew (blk_new' (by simp) _), by omega, Nat.le_refl _, by omega⟩
    · go_wp2
      go_meet
      case rel =>
        exact ⟨_, _, rfl, rfl, below_drew (below_alloc (below_alloc (Below.refl _ _) _) _), blk_drew (blk_new' (by simp) _), blk_drew (blk_alloc (blk_new _ _) _), by omega, by omega, Nat.le_refl _⟩
  case rest =>
    obtain ⟨gx, gy, rfl, rfl, HC⟩ := hcut
    obtain ⟨hbc, hbx, hby, hne, hgx, hgy⟩ := HC.out
    have hx0 : wc.cell? ⟨gx, 0, none⟩ = some (.int .u8 0) := (blk_cell hbx 0).trans (by simp [madeCells])
    have hy0 : wc.cell? ⟨gy, 0, none⟩ = some (.int .u8 0) := (blk_cell hby 0).trans (by simp [madeCells])
    have hy1 : wc.cell? ⟨gy, 256, none⟩ = some (.int .u8 0) := (blk_cell hby 256).trans (by simp [madeCells])
    have hfx := blk_frozen hbx 0
    have hfy := blk_frozen hby 0
    have hfz := blk_frozen hby 256
    have HNE := Lib.hid hne
    clear hbx hby hgx hgy hbc
    obtain ⟨W2, hW2⟩ : ∃ W2, W2 = ((wc.setCell ⟨gx, 0, none⟩ (.int .u8 1)).setCell ⟨gy, 0, none⟩ (.int .u8 2)).setCell ⟨gy, 256, none⟩ (.int .u8 3) := ⟨_, rfl⟩
    have hbx2 : Bk W2 gx X1 := by
      rw [hW2]
      unfold Bk
      rw [← made_X1]
      exact blk_far (blk_far (blk_set HC.out.2.1 0 _) (p := ⟨gy, 0, none⟩) HNE.out _) (p := ⟨gy, 256, none⟩) HNE.out _
    have hby2 : Bk W2 gy Y1 := by
      rw [hW2]
      unfold Bk
      rw [← made_Y1]
      exact blk_set (blk_set (blk_far HC.out.2.2.1 (p := ⟨gx, 0, none⟩) (Ne.symm HNE.out) _) 0 _) 256 _
    have hk2 : Kp (fun i => i = gx ∨ i = gy) w1 W2 := by
      rw [hW2]
      exact (((Kp.of_below _ HC.out.1).setCell (p := ⟨gx, 0, none⟩) (.inl (.inl rfl)) _).setCell (p := ⟨gy, 0, none⟩) (.inl (.inr rfl)) _).setCell (p := ⟨gy, 256, none⟩) (.inl (.inr rfl)) _
    have hgs : ∀ i, (i = gx ∨ i = gy) → w1.heap.size ≤ i ∧ i < W2.heap.size := by
      rintro i (rfl | rfl)
      · exact ⟨HC.out.2.2.2.2.1, blk_lt hbx2⟩
      · exact ⟨HC.out.2.2.2.2.2, blk_lt hby2⟩
    have hd2 : DiskAt W2 (fun i => i = gx ∨ i = gy) (fun i => i = w.heap.size ∨ i = w.heap.size + 1) (w.heap.size + 1) (D0 5) :=
      HD1.out.step hk2 (fun i h1 h2 => by have := (hgs i h1).1; have := HS1.out; omega) (fun _ _ h => h) (fun _ h => h.elim) (fun i h1 h2 => by have := (hgs i h1).1; have := HS1.out; omega)
    have hbw2 : Below w.heap.size w W2 := by
      have h3 := hk2.below (B := w.heap.size) HB1.out.size (fun i hi => by have := (hgs i hi).1; have := HS1.out; omega)
      exact HB1.out.trans h3
    have HX2 := Lib.hid (hbx2.By (ok := fun i => i = gx ∨ i = gy) (by decide) (.inl rfl))
    have HY2 := Lib.hid (hby2.By (ok := fun i => i = gx ∨ i = gy) (by decide) (.inr rfl))
    have HZ2 := Lib.hid (fun i hi => (hgs i hi).2)
    have HD2 := Lib.hid hd2
    have HBW2 := Lib.hid hbw2
    have HWR1 := Lib.hid (fun (s : Nat) (hs : W2.heap.size = s) => write_one HD2.out rfl 0 (some ⟨gx, 0, none⟩) 256 256 X1 (by decide) HX2.out (by decide) (by decide) (by decide) (by decide) (by decide) (by decide) HZ2.out s hs)
    rw [hW2] at HWR1
    clear hbx2 hby2 hk2 hgs hd2 hbw2
    have HW2 := Lib.hid hW2
    clear hW2
    go_wp2_with fail
    refine (HWR1.out _ (by simp)).mono ?_
    rintro e w3 ⟨rfl, ok1, own1, hst1, hdd1⟩
    generalize (writeP (D0 5) 0 X1).2 = q1
    rw [← HW2.out] at hst1
    have HST1 := Lib.hid hst1
    have HDD1 := Lib.hid (show DiskAt w3 ok1 own1 _ E1 from hdd1)
    clear hst1 hdd1
    go_wp2_with fail
    refine (flush_at HDD1.out pure_E1.1).mono ?_
    rintro e w4 ⟨rfl, hk4, hdd4⟩
    have HK4 := Lib.hid hk4
    have HDD4 := Lib.hid (show DiskAt w4 ok1 own1 _ E2 from hdd4)
    clear hk4 hdd4
    have HOK4 := Lib.hid (DiskAt.okn HDD4.out)
    have HY4 := Lib.hid (((HY2.out.kp HST1.out.1 (DiskAt.okn HD2.out)).mono HST1.out.2.1).kp HK4.out HOK4.out)
    have HZ4 := Lib.hid (fun i hi => Nat.lt_of_lt_of_le (HST1.out.2.2.2.2 i hi) HK4.out.size)
    go_wp2_with fail
    refine (write_one HDD4.out pure_E1.1 0 (some ⟨gy, 0, none⟩) 300 300 Y1 (by decide) HY4.out (by decide) (by decide +kernel) (by decide +kernel) (by decide +kernel) (by decide +kernel) (by decide +kernel) HZ4.out _ (by simp)).mono ?_
    rintro e w5 ⟨rfl, ok5, own5, hst5, hdd5⟩
    generalize (writeP E2 0 Y1).2 = q5
    have HST5 := Lib.hid hst5
    have HDD5 := Lib.hid (show DiskAt w5 ok5 own5 _ E3 from hdd5)
    clear hst5 hdd5
    have HM5 := Lib.hid (fun (s : Nat) (hs : w5.heap.size = s) => crash_two HDD5.out pure_E3.1 HST5.out.2.2.2.2 s hs)
    go_wp2_with fail
    refine (HM5.out _ rfl).mono ?_
    rintro e w6 ⟨rfl, ok6, hk6, hdd6⟩
    have HK6 := Lib.hid hk6
    have HDD6 := Lib.hid (show DiskAt w6 ok6 own5 _ E4 from hdd6)
    clear hk6 hdd6
    go_wp2_with fail
    refine (reboot_at HDD6.out).mono ?_
    rintro e w7 ⟨rfl, hk7, hdd7⟩
    have HK7 := Lib.hid hk7
    have HDD7 := Lib.hid (show DiskAt w7 ok6 own5 _ E5 from hdd7)
    clear hk7 hdd7
    go_wp2_with fail
    refine (read_ok HDD7.out 0 rfl (by decide +kernel)).mono ?_
    rintro e w8 ⟨rfl, hb8, hk8⟩
    have HB8 := Lib.hid hb8
    have HK8 := Lib.hid hk8
    have HDD8 := Lib.hid (HDD7.out.below hb8)
    clear hb8 hk8
    go_wp2_with fail
    refine (read_ok HDD8.out 1 rfl (by decide +kernel)).mono ?_
    rintro e w9 ⟨rfl, hb9, hk9⟩
    have hc9 : w9.cell? ⟨w8.heap.size, 0, none⟩ = some (.int .u8 3) := by
      rw [blk_cell hk9]
      simp [nums, pure_E5.2.2]
    have hc8 : w9.cell? ⟨w7.heap.size, 0, none⟩ = some (.int .u8 1) := by
      rw [hb9.cell (by exact blk_lt HK8.out), blk_cell HK8.out]
      simp [nums, pure_E5.2.1]
    have HB9 := Lib.hid hb9
    clear hb9 hk9
    go_wp2
    go_ret
    have s2 := HBW2.out.size
    have s3 := HST1.out.1.size
    have s4 := HK4.out.size
    have s5 := HST5.out.1.size
    have s6 := HK6.out.1.size
    have s7 := HK7.out.size
    have s8 := HB8.out.size
    have o0 : ∀ i, (i = w.heap.size ∨ i = w.heap.size + 1) → w.heap.size ≤ i := fun i hi => by omega
    have o1 : ∀ i, own1 i → w.heap.size ≤ i := fun i hi => by
      rcases HST1.out.2.2.2.1 i hi with h | h <;> omega
    have o5 : ∀ i, own5 i → w.heap.size ≤ i := fun i hi => by
      rcases HST5.out.2.2.2.1 i hi with h | h
      · exact o1 i h
      · omega
    refine ⟨rfl, (((((((HBW2.out.trans (HST1.out.1.below s2 o0)).trans (HK4.out.below (by omega) o1)).trans (HST5.out.1.below (by omega) o1)).trans (HK6.out.1.below (by omega) o5)).trans (HK7.out.below (by omega) o5)).trans (HB8.out.mono (by omega))).trans (HB9.out.mono (by omega)))⟩
end Go.Proofs.Ytigohpgdkpcdkaa.Dk
