/- Crash of the disk. -/
import Derived.Test.YtigohpgdkpcdkaaDk5
set_option linter.unusedVariables false
set_option linter.unusedSimpArgs false
namespace Go.Proofs.Ytigohpgdkpcdkaa.Dk
open Go.RowKit Go.Proofs.YtigohpgdkpcdkaaW.PrintWords Go.Proofs.Ytigohpgdkpcdkaa.L

/-- What a slice of bytes holds at a place. -/
theorem by_at {w : World} {ok : Nat → Prop} {A : Option Addr} {n c : Nat} {xs : List Int} (h : By w ok (.slice A n c) xs) (j : Nat) (hj : j < xs.length) : ∃ ad, A = some ad ∧ w.cell? (ad.add j) = some (.int .u8 xs[j]) ∧ n = xs.length := by
  obtain ⟨A', c', he, _, hf⟩ := h
  simp only [Value.slice.injEq] at he
  obtain ⟨rfl, rfl, rfl⟩ := he
  obtain ⟨ad, rfl, hc⟩ := (Kd.F_now hf).2.2 (by omega)
  obtain ⟨cs, hcl, hr, hcell⟩ := hc j _ (List.getElem?_eq_getElem hj)
  obtain rfl : cs = [.int .u8 xs[j]] := hr
  have := hcell 0 _ rfl
  rw [show (Kd.int .u8).sz = 1 from rfl, Nat.mul_one, Nat.add_zero] at this
  exact ⟨ad, rfl, this, rfl⟩

/-- Is the j-th bit of a mask set? -/
def bitB (mask : List Int) (j : Nat) : Bool := decide (j < 8 * mask.length) && (bits BinOp.and IntKind.u8 (mask[j / 8]?.getD 0) (2 ^ (j % 8) % 256) != 0)
/-- Of what was written, what the mask says. -/
def crashL (mask : List Int) (l : List (Nat × List Int)) : List (Nat × List Int) := (l.zipIdx.filter (fun p => bitB mask p.2)).map (·.1)
theorem crashL_snoc (mask : List Int) (l : List (Nat × List Int)) (x : Nat × List Int) : crashL mask (l ++ [x]) = if bitB mask l.length then crashL mask l ++ [x] else crashL mask l := by
  unfold crashL
  rw [List.zipIdx_append, List.filter_append, List.map_append]
  by_cases h : bitB mask l.length = true
  · rw [if_pos h]; simp [h]
  · rw [if_neg h]; simp [h]
theorem layP_snoc (p : List (List Int)) (l : List (Nat × List Int)) (x : Nat × List Int) : layP p (l ++ [x]) = (layP p l).set x.1 x.2 := by simp [layP, List.foldl_append]
def crashP (D : DK) (mask : List Int) : DK := if D.fallen then D else { D with plat := layP D.plat (crashL mask D.since), since := [], fallen := true }

/-- One put, just laid down as a slice, reads as it. -/
theorem put_lit (W : World) (ok : Nat → Prop) (x : Nat × List Int) (v : Value) (hv : By W ok v x.2) : ReadsRow (PutR (W.alloc (.cells #[.int .i64 (x.1 : Int), v] 138)) ok) 2 (W.alloc (.cells #[.int .i64 (x.1 : Int), v] 138)) (some ⟨W.heap.size, 0, none⟩) [x].length [x] := by
  refine ⟨rfl, by simp, fun _ => ⟨_, rfl, fun j p hj => ?_⟩⟩
  match j, hj with
  | 0, hj =>
    obtain rfl : x = p := by simpa using hj
    refine ⟨[.int .i64 (x.1 : Int), v], rfl, ⟨v, rfl, hv.below (below_alloc (Below.refl _ _) _)⟩, fun i u hu => ?_⟩
    rw [show (0 * 2 + i) = i by omega, add_plain, blk_cell (blk_new _ _)]
    simpa using hu

section
variable {ok own : Nat → Prop} {b : Nat} {D : DK} {w : World}
set_option maxHeartbeats 1000000 in
set_option maxRecDepth 100000 in
theorem crash_at (h : DiskAt w ok own b D) (hd : D.fallen = false) (mA : Option Addr) (mc : Nat) (mask : List Int) (hm : By w ok (.slice mA mask.length mc) mask) (hml : mask.length ≤ 1000000) :
    Calls Try.prog 24 #[.pointer (some ⟨b, 0, none⟩), .slice mA mask.length mc] w fun e w' =>
      e = .returned (.tuple #[]) ∧ Kp own w w' ∧ DiskAt w' ok own b { D with plat := layP D.plat (crashL mask D.since), since := [], fallen := true } := by
  have HM := Lib.hid hm
  obtain ⟨g, cp, A, c, tA, tc, hb, hp, hs, hc, hr, ht, o1, o2, o3, hbg, hcp, hok, hlt, hx, h0⟩ := h.open
  have h6 : w.cell? ⟨b, 6, none⟩ = some (.bool false) := (blk_cell hb 6).trans (by rw [hd]; rfl)
  have h04 := blk_cell hb 4
  have hlm : D.since.length ≤ 9223372036854775807 := hr.2.1
  have hokg : ¬ ok g := fun h2 => hok g h2 o2
  have HR := Lib.hid hr
  have HP := Lib.hid hp
  have HX := Lib.hid hx
  have H := Lib.hid (And.intro hb (And.intro ht (And.intro o1 (And.intro o2 (And.intro o3 (And.intro hbg (And.intro hok (And.intro hlt h0))))))))
  clear hb hp hs hr ht o1 o2 o3 hbg hok hlt hx hm h
  have rest : ∀ wr : World, Kp (fun k => k = g) w wr → OwnRow (PlR wr ok) 22 1 wr 0 (.slice (some ⟨g, 0, none⟩) D.plat.length cp) (layP D.plat (crashL mask D.since)) →
      Kp own w ((wr.setCell ⟨b, 4, none⟩ (.slice none 0 0)).setCell ⟨b, 6, none⟩ (.bool true)) ∧ DiskAt ((wr.setCell ⟨b, 4, none⟩ (.slice none 0 0)).setCell ⟨b, 6, none⟩ (.bool true)) ok own b { D with plat := layP D.plat (crashL mask D.since), since := [], fallen := true } := by
    intro wr hk hP
    obtain ⟨hb, ht, o1, o2, o3, hbg, hok, hlt, h0⟩ := H.out
    have hkw : Kp own w wr := hk.mono (fun i hi => hi ▸ o2)
    have hb1 := hk.blk hb hbg
    have hb2 := blk_put hb1 4 (.slice none 0 0) rfl
    have hks : Kp own w ((wr.setCell ⟨b, 4, none⟩ (.slice none 0 0)).setCell ⟨b, 6, none⟩ (.bool true)) := (hkw.setCell (.inl o1) _).setCell (.inl o1) _
    have hst : ∀ i, ok i → i < wr.heap.size → ((wr.setCell ⟨b, 4, none⟩ (.slice none 0 0)).setCell ⟨b, 6, none⟩ (.bool true)).heap[i]? = wr.heap[i]? := fun i hi _ => by
      have hne : i ≠ b := fun h2 => hok i hi (h2 ▸ o1)
      rw [Below.heap_setCell _ _ _ _ hne, Below.heap_setCell _ _ _ _ hne]
    exact ⟨hks, _, _, _, blk_put hb2 6 (.bool true) rfl, (OwnRow.set_ (OwnRow.set_ hP hb1 (by decide) 4 _) hb2 (by decide) 6 _).imp_ (fun _ _ hp => hp.step hst), OwnRow.none_ _ _ _ _ _,
      (ht.kp hkw hok).step hst, o1, (by rintro k ⟨⟩; exact o2), (by rintro k ⟨⟩), hok, fun k hk => Nat.lt_of_lt_of_le (hlt k hk) hks.size, (by simp), (by rw [layP_length]; exact h0)⟩
  have REST := Lib.hid rest
  clear rest
  go_enter Try.func24, Try.ntmps24
  go_wp2
  go_loopg [15] D.since.length (fun r i wr => ∃ j : Nat, i = .int .i64 (j : Int) ∧ Hid (j + r = D.since.length ∧ Kp (fun k => k = g) w wr ∧ OwnRow (PlR wr ok) 22 1 wr 0 (.slice (some ⟨g, 0, none⟩) D.plat.length cp) (layP D.plat (crashL mask (D.since.take j)))))
  case atStart => exact ⟨0, rfl, by simp, Kp.refl _ _, by simpa [layP, crashL] using HP.out⟩
  case round =>
    obtain ⟨j, rfl, HI⟩ := hrel
    by_cases hlt : j < D.since.length
    · obtain ⟨ad, v0, v1, rfl, ⟨v, hv, hby⟩, hq0, hq1⟩ := reads_two HR.out j hlt
      simp only [List.cons.injEq, and_true] at hv
      obtain ⟨rfl, rfl⟩ := hv
      have hvv := hby
      obtain ⟨A2, c2, rfl, hc2, -⟩ := hvv
      have hne : ¬ (ad.add (j * 2)).block = g := by rw [add_block]; exact (H.out.2.2.2.2.1 ad rfl).2.1
      have hd0 := HI.out.2.1.cell hq0 hne
      have hd1 := HI.out.2.1.cell hq1 (show ¬ (ad.add (j * 2)).block = g from hne)
      have hal := World.block_lt_of_cell? wr _ hd0
      have hal' := World.block_lt_of_cell? wr _ hd1
      have hbr := HI.out.2.1.blk H.out.1 H.out.2.2.2.2.2.1
      have hbl := blk_lt hbr
      have hq00 := blk_cell hbr 0
      have HBY := Lib.hid (hby.kp HI.out.2.1 (fun i ho (h2 : i = g) => hokg (h2 ▸ ho)))
      clear hq0 hq1 hby hne hbr
      have HS : Hid (∀ w2, Kp (fun k => k = g) wr w2 → OwnRow (PlR w2 ok) 22 1 w2 0 (.slice (some ⟨g, 0, none⟩) D.plat.length cp) (layP D.plat (crashL mask (D.since.take (j + 1)))) →
          ∃ j' : Nat, Value.int .i64 ((j : Int) + 1) = .int .i64 (j' : Int) ∧ Hid (j' + (D.since.length - (j + 1)) = D.since.length ∧ Kp (fun k => k = g) w w2 ∧ OwnRow (PlR w2 ok) 22 1 w2 0 (.slice (some ⟨g, 0, none⟩) D.plat.length cp) (layP D.plat (crashL mask (D.since.take j'))))) := fun w2 hk hO => by
        refine ⟨j + 1, by go_num, by omega, HI.out.2.1.trans' hk, hO⟩
      have HT : Hid (D.since.take (j + 1) = D.since.take j ++ [D.since[j]]) := List.take_succ_eq_append_getElem hlt
      have HTL : Hid ((D.since.take j).length = j) := by rw [List.length_take]; exact Nat.min_eq_left (by omega)
      have same : bitB mask j = false → ∀ o n, Kp (fun k => k = g) wr ((wr.alloc o).drewN n) ∧ OwnRow (PlR ((wr.alloc o).drewN n) ok) 22 1 ((wr.alloc o).drewN n) 0 (.slice (some ⟨g, 0, none⟩) D.plat.length cp) (layP D.plat (crashL mask (D.since.take (j + 1)))) := by
        intro hbit o n
        have hbel : Below wr.heap.size wr ((wr.alloc o).drewN n) := pw_below_drewN (below_alloc (Below.refl _ _) _) _
        rw [HT.out, crashL_snoc, HTL.out, hbit]
        exact ⟨Kp.of_below _ hbel, (HI.out.2.2.imp_ (fun _ _ h => h.step (fun i _ hi => hbel.block i hi))).below hbel⟩
      have SAME := Lib.hid same
      clear same
      by_cases hj : j < 8 * mask.length
      · obtain ⟨ma, rfl, hmc, -⟩ := by_at (HM.out.kp HI.out.2.1 (fun i ho (h2 : i = g) => hokg (h2 ▸ ho))) (j / 8) (by omega)
        have hmb := World.block_lt_of_cell? wr _ hmc
        have hj8 : j / 8 < mask.length := by omega
        have hjd : decide ((j : Int) < 8 * (mask.length : Int)) = true := by simp; omega
        have HMX : Hid (mask[j / 8]?.getD 0 = mask[j / 8]) := by rw [List.getElem?_eq_getElem hj8]; rfl
        cases hbit : (bits BinOp.and IntKind.u8 mask[j / 8] (2 ^ (j % 8) % 256) != 0) with
        | true =>
          have HBT := Lib.hid (show bitB mask j = true by unfold bitB; rw [HMX.out, hbit, decide_eq_true hj]; rfl)
          have hgl : g < wr.heap.size := by
            obtain ⟨u, hu, -⟩ := own_at HI.out.2.2 0 (by rw [layP_length]; exact h0)
            exact World.block_lt_of_cell? wr _ hu
          have lays : ∀ (W : World) (s : Nat), W.heap.size = s → Below wr.heap.size wr W → Calls Try.prog 65 #[.slice (some ⟨g, 0, none⟩) D.plat.length cp, .slice (some ⟨s, 0, none⟩) 1 1] (W.alloc (.cells #[.int .i64 (D.since[j].1 : Int), .slice A2 D.since[j].2.length c2] 138)) fun e w' =>
              e = .returned (.tuple #[]) ∧ Kp (fun k => k = g) wr w' ∧ OwnRow (PlR w' ok) 22 1 w' 0 (.slice (some ⟨g, 0, none⟩) D.plat.length cp) (layP D.plat (crashL mask (D.since.take (j + 1)))) := fun W s hs hW => by
            subst hs
            have hWa := below_alloc hW (.cells #[.int .i64 (D.since[j].1 : Int), .slice A2 D.since[j].2.length c2] 138)
            refine (lay_any g cp D.plat.length 1 #[] (some ⟨W.heap.size, 0, none⟩) ok _ [D.since[j]] _ ((HI.out.2.2.imp_ (fun _ _ h => h.step (fun i _ hi => hWa.block i hi))).below hWa) (put_lit W ok D.since[j] _ (HBY.out.below hW)) (by simp) hokg (fun a ha => ?_) (layP_length _ _) (fun x hx => ?_)).mono ?_
            · obtain rfl := Option.some.inj ha
              have := hW.size
              show W.heap.size ≠ g
              omega
            · obtain rfl := List.mem_singleton.1 hx
              exact HX.out _ (List.getElem_mem hlt)
            · rintro e w' ⟨rfl, hk, hO⟩
              refine ⟨rfl, (Kp.of_below _ hWa).trans' hk, ?_⟩
              rw [HT.out, crashL_snoc, HTL.out, HBT.out, if_pos rfl, layP_snoc]
              exact hO
          have LAYS := Lib.hid lays
          clear lays
          go_wp2_with fail
          go_quiet (fail)
          go_wp2_with fail
          go_region_with (go_at_call 65; refine (LAYS.out _ _ (by simp) (by repeat (first | exact Below.refl _ _ | apply below_alloc | apply pw_below_drewN | apply below_drew))).mono ?_; rintro e w2 ⟨rfl, hk2, hO2⟩)
          all_goals
            have HK2 := Lib.hid hk2
            have HO2 := Lib.hid hO2
            clear hk2 hO2
            go_wp2
            go_roundg (D.since.length - (j + 1))
            case measure => have := HI.out.1; omega
            case rel => exact HS.out _ HK2.out HO2.out
        | false =>
          have HBT := Lib.hid (show bitB mask j = false by unfold bitB; rw [HMX.out, hbit]; simp)
          go_wp2
          go_quiet (fail)
          go_wp2
          go_roundg (D.since.length - (j + 1))
          case measure => have := HI.out.1; omega
          case rel => exact HS.out _ (SAME.out HBT.out _ _).1 (SAME.out HBT.out _ _).2
      · have hjd : decide ((j : Int) < 8 * (mask.length : Int)) = false := by simp; omega
        have HBT := Lib.hid (show bitB mask j = false by unfold bitB; rw [decide_eq_false hj]; rfl)
        go_wp2
        go_quiet (fail)
        go_wp2
        go_roundg (D.since.length - (j + 1))
        case measure => have := HI.out.1; omega
        case rel => exact HS.out _ (SAME.out HBT.out _ _).1 (SAME.out HBT.out _ _).2
    · have hjl : j = D.since.length := by have := HI.out.1; omega
      have HJ := Lib.hid hjl
      obtain ⟨-, hk, hO⟩ := HI.out
      have hbr := hk.blk H.out.1 H.out.2.2.2.2.2.1
      have hc4 := blk_cell hbr 4
      have hc6 := blk_cell hbr 6
      have hf4 := blk_frozen hbr 4
      have hf6 := blk_frozen hbr 6
      have HK := Lib.hid hk
      have HO := Lib.hid hO
      clear hk hO hbr hjl
      go_wp2
      go_end0
      refine ⟨rfl, REST.out wr HK.out ?_⟩
      have := HO.out
      rw [HJ.out, List.take_length] at this
      exact this
end
end Go.Proofs.Ytigohpgdkpcdkaa.Dk
