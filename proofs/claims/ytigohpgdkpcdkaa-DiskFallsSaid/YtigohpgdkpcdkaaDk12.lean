/- CrashAt of the disk. -/
import Derived.Test.YtigohpgdkpcdkaaDk11
import Derived.Test.YtigohpgdkpcdkaaDpure
import Derived.IntWalk
set_option linter.unusedVariables false
set_option linter.unusedSimpArgs false
namespace Go.Proofs.Ytigohpgdkpcdkaa.Dk
open Go.RowKit Go.Proofs.YtigohpgdkpcdkaaW.PrintWords Go.Proofs.Ytigohpgdkpcdkaa.L

/-- The trap is set, or put away. -/
theorem trap_set {ok own : Nat → Prop} {b : Nat} {D : DK} {W : World} (h : DiskAt W ok own b D) (s : Bool) (n : Int) (tv : Value) (st : List Int) (ht : By W ok tv st) :
    Kp own W (((W.setCell ⟨b, 1, none⟩ (.bool s)).setCell ⟨b, 2, none⟩ (.int .i64 n)).setCell ⟨b, 3, none⟩ tv) ∧
      DiskAt (((W.setCell ⟨b, 1, none⟩ (.bool s)).setCell ⟨b, 2, none⟩ (.int .i64 n)).setCell ⟨b, 3, none⟩ tv) ok own b { D with set := s, count := n, stays := st } := by
  obtain ⟨pv, tv0, sv, hb, hp, hs, -, o1, o2, o3, hok, hlt, hx, h0⟩ := h
  have hk : Kp own W (((W.setCell ⟨b, 1, none⟩ (.bool s)).setCell ⟨b, 2, none⟩ (.int .i64 n)).setCell ⟨b, 3, none⟩ tv) := (((Kp.refl own W).setCell (.inl o1) _).setCell (.inl o1) _).setCell (.inl o1) _
  have b1 := blk_put hb 1 (.bool s) rfl
  have b2 := blk_put b1 2 (.int .i64 n) rfl
  have b3 := blk_put b2 3 tv rfl
  have hst : ∀ i, ok i → i < W.heap.size → (((W.setCell ⟨b, 1, none⟩ (.bool s)).setCell ⟨b, 2, none⟩ (.int .i64 n)).setCell ⟨b, 3, none⟩ tv).heap[i]? = W.heap[i]? := fun i hi hl => hk.block i hl (hok i hi)
  exact ⟨hk, _, _, _, b3, (OwnRow.set_ (OwnRow.set_ (OwnRow.set_ hp hb (by decide) 1 _) b1 (by decide) 2 _) b2 (by decide) 3 _).imp_ (fun _ _ hp => hp.step hst),
    (OwnRow.set_ (OwnRow.set_ (OwnRow.set_ hs hb (by decide) 1 _) b1 (by decide) 2 _) b2 (by decide) 3 _).imp_ (fun _ _ hp => hp.step hst), ht.step hst, o1, o2, o3, hok, fun k hk2 => Nat.lt_of_lt_of_le (hlt k hk2) hk.size, hx, h0⟩

section
variable {ok own : Nat → Prop} {b : Nat} {D : DK} {w : World}
set_option maxHeartbeats 400000 in
theorem crashat_no (h : DiskAt w ok own b D) (n : Int) (hn : n < 1) (v : Value) : Calls Try.prog 27 #[.pointer (some ⟨b, 0, none⟩), .int .i64 n, v] w fun e w' =>
    e = .returned (.tuple #[]) ∧ Kp own w w' ∧ DiskAt w' ok own b { D with set := false, count := 0, stays := [] } := by
  have H := Lib.hid (trap_set h false 0 (.slice none 0 0) [] (Sl.nil _ _ _))
  obtain ⟨pv, tv, sv, hb, hp, hs, ht, o1, o2, o3, hok, hlt, hx, h0⟩ := h
  have h1 := blk_cell hb 1
  have h2 := blk_cell hb 2
  have h3 := blk_cell hb 3
  have f1 := blk_frozen hb 1
  have f2 := blk_frozen hb 2
  have f3 := blk_frozen hb 3
  clear hb hp hs ht o1 o2 o3 hok hlt hx h0
  go_enter Try.func27, Try.ntmps27
  go_wp2
  go_end0
  exact ⟨rfl, H.out⟩
theorem lit_empty (W : World) (base : Nat) (ok : Nat → Prop) (hb : base ≤ W.heap.size) (hok : ok W.heap.size) : (Kd.int .u8).R 5 (W.alloc (.cells #[] 5)) base ok (.slice (some ⟨W.heap.size, 0, none⟩) 0 0) [] :=
  ⟨fun k hk => by cases hk; exact hok, [], ⟨rfl, .inr ⟨W.heap.size, 0, #[], rfl, hb, blk_new _ _, Nat.le_refl _, by unfold maxLen; omega, rfl, rfl⟩⟩, Reps.none _ _⟩
set_option maxHeartbeats 400000 in
theorem crashat_yes (h : DiskAt w ok own b D) (n : Int) (hn1 : 1 ≤ n) (hn2 : n ≤ 1000) (ht0 : 0 ≤ D.total) (ht1 : D.total ≤ 2305843009213693952) (mA : Option Addr) (mc : Nat) (mask : List Int) (hm : By w ok (.slice mA mask.length mc) mask) (hml : mask.length ≤ 1000000) (hokl : ∀ i, ok i → i < w.heap.size) :
    Calls Try.prog 27 #[.pointer (some ⟨b, 0, none⟩), .int .i64 n, .slice mA mask.length mc] w fun e w' =>
      e = .returned (.tuple #[]) ∧ ∃ ok', Stp ok own w ok' own w' ∧ DiskAt w' ok' own b { D with set := true, count := D.total + n, stays := mask } := by
  have H := Lib.hid (trap_set h false 0 (.slice none 0 0) [] (Sl.nil _ _ _))
  have HM := Lib.hid hm
  obtain ⟨pv, tv, sv, hb, -⟩ := h
  have h1 := blk_cell hb 1
  have h2 := blk_cell hb 2
  have h3 := blk_cell hb 3
  have h5 := blk_cell hb 5
  have f1 := blk_frozen hb 1
  have f2 := blk_frozen hb 2
  have f3 := blk_frozen hb 3
  have hbl := blk_lt hb
  have hwr : IntKind.i64.wrap (D.total + n) = D.total + n := IntWalk.i64_in _ (by omega)
  have hsz : (((w.setCell ⟨b, 1, none⟩ (.bool false)).setCell ⟨b, 2, none⟩ (.int .i64 0)).setCell ⟨b, 3, none⟩ (.slice none 0 0)).heap.size = w.heap.size := by simp [World.setCell]
  have HBB := Lib.hid (blk_put (blk_put (blk_put hb 1 (.bool false) rfl) 2 (.int .i64 0) rfl) 3 (.slice none 0 0) rfl)
  have HRO := Lib.hid (show (Kd.int .u8).R 5 ((((w.setCell ⟨b, 1, none⟩ (.bool false)).setCell ⟨b, 2, none⟩ (.int .i64 0)).setCell ⟨b, 3, none⟩ (.slice none 0 0)).alloc (.cells #[] 5)).drew w.heap.size (fun k => w.heap.size ≤ k) (.slice (some ⟨w.heap.size, 0, none⟩) 0 0) [] by
    have := lit_empty (((w.setCell ⟨b, 1, none⟩ (.bool false)).setCell ⟨b, 2, none⟩ (.int .i64 0)).setCell ⟨b, 3, none⟩ (.slice none 0 0)) w.heap.size (fun k => w.heap.size ≤ k) (by omega) (by omega)
    rw [hsz] at this
    exact Kd.R_below this (below_drew (Below.refl _ _)))
  have HRC := Lib.hid (show ReadsRow ((Kd.int .u8).K ((((w.setCell ⟨b, 1, none⟩ (.bool false)).setCell ⟨b, 2, none⟩ (.int .i64 0)).setCell ⟨b, 3, none⟩ (.slice none 0 0)).alloc (.cells #[] 5)).drew) 1 ((((w.setCell ⟨b, 1, none⟩ (.bool false)).setCell ⟨b, 2, none⟩ (.int .i64 0)).setCell ⟨b, 3, none⟩ (.slice none 0 0)).alloc (.cells #[] 5)).drew mA mask.length mask from
    Kd.C_below (sl_now (HM.out.kp H.out.1 H.out.2.okn)) (below_drew (below_alloc (Below.refl _ _) _)))
  have HRF := Lib.hid (show ∀ k, ((((w.setCell ⟨b, 1, none⟩ (.bool false)).setCell ⟨b, 2, none⟩ (.int .i64 0)).setCell ⟨b, 3, none⟩ (.slice none 0 0)).alloc (.cells #[] 5)).drew.heap.size ≤ k → w.heap.size ≤ k by
    intro k hk
    have h2 : (((w.setCell ⟨b, 1, none⟩ (.bool false)).setCell ⟨b, 2, none⟩ (.int .i64 0)).setCell ⟨b, 3, none⟩ (.slice none 0 0)).heap.size + 1 ≤ k := by simpa using hk
    omega)
  have HRB := Lib.hid (show Below w.heap.size (((w.setCell ⟨b, 1, none⟩ (.bool false)).setCell ⟨b, 2, none⟩ (.int .i64 0)).setCell ⟨b, 3, none⟩ (.slice none 0 0)) ((((w.setCell ⟨b, 1, none⟩ (.bool false)).setCell ⟨b, 2, none⟩ (.int .i64 0)).setCell ⟨b, 3, none⟩ (.slice none 0 0)).alloc (.cells #[] 5)).drew from
    (below_drew (below_alloc (Below.refl _ _) _)).mono (by omega))
  have HRS := Lib.hid (show w.heap.size ≤ ((((w.setCell ⟨b, 1, none⟩ (.bool false)).setCell ⟨b, 2, none⟩ (.int .i64 0)).setCell ⟨b, 3, none⟩ (.slice none 0 0)).alloc (.cells #[] 5)).drew.heap.size by
    have h2 := HRB.out.size
    omega)
  have HSZ := Lib.hid hsz
  clear hb hm hsz
  go_enter Try.func27, Try.ntmps27
  go_wp2_with fail
  go_region_law (refine Kd.R_append_rows_step (Kd.int .u8) (W := ((((w.setCell ⟨b, 1, none⟩ (.bool false)).setCell ⟨b, 2, none⟩ (.int .i64 0)).setCell ⟨b, 3, none⟩ (.slice none 0 0)).alloc (.cells #[] 5)).drew) (w0 := ((w.setCell ⟨b, 1, none⟩ (.bool false)).setCell ⟨b, 2, none⟩ (.int .i64 0)).setCell ⟨b, 3, none⟩ (.slice none 0 0)) w.heap.size (by rfl) (.tmp 23) (.tmp 24) 22 5 (.int .u8 0) 1 rfl Try.underlying22 info5 rfl (by decide) (by decide) (.slice (some ⟨w.heap.size, 0, none⟩) 0 0) [] mask mA mask.length mc (fun k => w.heap.size ≤ k) (fun _ => False) (by simp [Act.eval, Act.put]) (by simp [Act.eval, Act.put]) HRO.out HRC.out (fun _ _ h => h) (fun _ h => h.elim) HRF.out HRB.out HRS.out (by simp; omega) ?_; intro v1 w1 hr1 hb1 hg1 hat1; obtain ⟨Av1, cv1, rfl, -⟩ := Kd.R_slice' hr1; have hbb := (hb1.block b hbl).trans HBB.out; have hf1 := blk_frozen hbb 1; have hf2 := blk_frozen hbb 2; have hf3 := blk_frozen hbb 3; have hc1 := blk_cell hbb 1; have hc2 := blk_cell hbb 2; have hc3 := blk_cell hbb 3; have hc5 := blk_cell hbb 5; have HR1 := Lib.hid hr1; have HB1 := Lib.hid hb1; clear hr1 hb1 hg1 hat1 hbb)
  all_goals
    go_wp2
    go_end0
    have hb1 := HB1.out
    have hkb : Kp (fun _ => False) (((w.setCell ⟨b, 1, none⟩ (.bool false)).setCell ⟨b, 2, none⟩ (.int .i64 0)).setCell ⟨b, 3, none⟩ (.slice none 0 0)) w1 := ⟨hb1.os, hb1.tape, hb1.output, hb1.size, fun k hk _ => hb1.block k (by have := HSZ.out; omega)⟩
    have hsz1 := hb1.size
    have hsz0 := HSZ.out
    have hd1 := H.out.2.step (ok' := fun i => ok i ∨ (w.heap.size ≤ i ∧ i < w1.heap.size)) hkb (fun _ h => h.elim) (fun _ h => h.elim) (fun i h => .inl h) (by
      rintro i (hi | hi) ho
      · exact H.out.2.okn i hi ho
      · have := H.out.2.ownlt i ho; omega)
    have hby := (Sl.of_R HR1.out).bound.mono (ok' := fun i => ok i ∨ (w.heap.size ≤ i ∧ i < w1.heap.size)) (fun i hi => .inr ⟨hi.1, hi.2⟩)
    obtain ⟨e1, e2⟩ := trap_set hd1 true (D.total + n) _ _ hby
    have hk : Kp own w _ := (H.out.1.trans' (hkb.mono (fun _ h => h.elim))).trans' e1
    refine ⟨rfl, _, ⟨hk, fun i hi => .inl hi, fun i hi => hi.imp id (fun h => h.1), fun i hi => .inl hi, ?_⟩, e2⟩
    rintro i (hi | hi)
    · exact Nat.lt_of_lt_of_le (hokl i hi) hk.size
    · exact Nat.lt_of_lt_of_le hi.2 e1.size
end
end Go.Proofs.Ytigohpgdkpcdkaa.Dk
