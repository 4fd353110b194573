/- Flush, Reboot and CrashAt of the disk. -/
import Derived.Test.YtigohpgdkpcdkaaDk4
set_option linter.unusedVariables false
set_option linter.unusedSimpArgs false
namespace Go.Proofs.Ytigohpgdkpcdkaa.Dk
open Go.RowKit Go.Proofs.YtigohpgdkpcdkaaW.PrintWords Go.Proofs.Ytigohpgdkpcdkaa.L

theorem PlR.mono {w : World} {ok ok' : Nat → Prop} {xs : List Int} {c : List Value} (h : PlR w ok xs c) (hm : ∀ k, ok k → ok' k) : PlR w ok' xs c := by
  obtain ⟨v, e, hb⟩ := h
  exact ⟨v, e, hb.mono hm⟩
theorem PutR.mono {w : World} {ok ok' : Nat → Prop} {p : Nat × List Int} {c : List Value} (h : PutR w ok p c) (hm : ∀ k, ok k → ok' k) : PutR w ok' p c := by
  obtain ⟨v, e, hb⟩ := h
  exact ⟨v, e, hb.mono hm⟩
/-- A row that did not move. -/
theorem own_kp {α : Type} {R R' : α → List Value → Prop} {S : Nat → Prop} {e : TypeId} {size base : Nat} {w w1 : World} {v : Value} {ps : List α} (h : OwnRow R e size w base v ps) (hk : Kp S w w1) (hn : ∀ k, v.ownBlock = some k → ¬ S k) (hR : ∀ p c, R p c → R' p c) : OwnRow R' e size w1 base v ps := by
  obtain ⟨inner, ho, hr⟩ := h
  exact ⟨inner, own_move ho (fun k h2 => hk.block k (own_lt ho k h2) (hn k h2)), hr.imp_ hR⟩

section
variable {ok own : Nat → Prop} {b : Nat} {D : DK} {w : World}
set_option maxHeartbeats 400000 in
theorem flush_at (h : DiskAt w ok own b D) (hd : D.fallen = false) : Calls Try.prog 22 #[.pointer (some ⟨b, 0, none⟩)] w fun e w' =>
    e = .returned (.int .i64 0) ∧ Kp own w w' ∧ DiskAt w' ok own b { D with plat := layP D.plat D.since, since := [] } := by
  obtain ⟨g, cp, A, c, tA, tc, hb, hp, hs, hc, hr, ht, o1, o2, o3, hbg, hcp, hok, hlt, hx, h0⟩ := h.open
  have h6 : w.cell? ⟨b, 6, none⟩ = some (.bool false) := (blk_cell hb 6).trans (by rw [hd]; rfl)
  have h00 := blk_cell hb 0
  have h04 := blk_cell hb 4
  have hLay := Lib.hid (fun (W : World) (hW : Below w.heap.size w W) => lay_any g cp D.plat.length c #[] A ok D.plat D.since W ((hp.imp_ (fun _ _ h => h.step (fun i _ hi => hW.block i hi))).below hW) (hr.imp_ hW (fun _ _ h => h.step (fun i _ hi => hW.block i hi))) hc (fun h2 => hok g h2 o2) (fun a ha => (o3 a ha).2.1) rfl hx)
  have H := Lib.hid (And.intro hb (And.intro hp (And.intro ht (And.intro o1 (And.intro o2 (And.intro hbg (And.intro hok (And.intro hlt h0))))))))
  clear hb hp hs hr ht o1 o2 o3 hbg hok hlt hx h
  go_enter Try.func22, Try.ntmps22
  go_wp2
  go_region_with (go_at_call 65; refine (hLay.out _ (below_drew (Below.refl _ _))).mono ?_; rintro e w1 ⟨rfl, hk1, hp1⟩)
  all_goals
    obtain ⟨hb, hp, ht, o1, o2, hbg, hok, hlt, h0⟩ := H.out
    have hb1 := hk1.blk (blk_drew hb) hbg
    have h14 := blk_cell hb1 4
    have hf4 := blk_frozen hb1 4
    have HB1 := Lib.hid hb1
    have HK1 := Lib.hid hk1
    have HP1 := Lib.hid hp1
    clear hb hp ht o1 o2 hbg hok hlt h0 hb1 hk1 hp1
    go_wp2
    go_ret
    obtain ⟨hb, hp, ht, o1, o2, hbg, hok, hlt, h0⟩ := H.out
    have hkw : Kp own w w1 := (Kp.refl own w).drew.trans HK1.out (fun i hi => .inl (hi ▸ o2))
    have hks : Kp own w (w1.setCell ⟨b, 4, none⟩ (.slice none 0 0)) := hkw.setCell (.inl o1) _
    have hst : ∀ i, ok i → i < w1.heap.size → (w1.setCell ⟨b, 4, none⟩ (.slice none 0 0)).heap[i]? = w1.heap[i]? := fun i hi _ => Below.heap_setCell w1 _ _ i (fun h2 : i = b => hok i hi (h2 ▸ o1))
    refine ⟨rfl, hks, _, _, _, blk_put HB1.out 4 (.slice none 0 0) rfl, (OwnRow.set_ HP1.out HB1.out (by decide) 4 _).imp_ (fun _ _ hp => hp.step hst), OwnRow.none_ _ _ _ _ _,
      (ht.kp hkw hok).step hst, o1, (by rintro k ⟨⟩; exact o2), (by rintro k ⟨⟩), hok, fun k hk => Nat.lt_of_lt_of_le (hlt k hk) hks.size, (by simp), (by rw [layP_length]; exact h0)⟩

set_option maxHeartbeats 400000 in
theorem reboot_at (h : DiskAt w ok own b D) : Calls Try.prog 25 #[.pointer (some ⟨b, 0, none⟩)] w fun e w' =>
    e = .returned (.tuple #[]) ∧ Kp own w w' ∧ DiskAt w' ok own b { D with fallen := false } := by
  obtain ⟨pv, tv, sv, hb, hp, hs, ht, o1, o2, o3, hok, hlt, hx, h0⟩ := h
  refine (reboot_any b _ w (blk_cell hb 6) (blk_frozen hb 6)).mono ?_
  rintro e w' ⟨rfl, rfl⟩
  have hst : ∀ i, ok i → i < w.heap.size → (w.setCell ⟨b, 6, none⟩ (.bool false)).heap[i]? = w.heap[i]? := fun i hi _ => Below.heap_setCell w _ _ i (fun h2 : i = b => hok i hi (h2 ▸ o1))
  refine ⟨rfl, (Kp.refl _ _).setCell (.inl o1) _, _, _, _, blk_put hb 6 _ rfl, (OwnRow.set_ hp hb (by decide) 6 _).imp_ (fun _ _ hp => hp.step hst), (OwnRow.set_ hs hb (by decide) 6 _).imp_ (fun _ _ hp => hp.step hst),
    ht.step hst, o1, o2, o3, hok, fun k hk => by simpa [World.setCell] using hlt k hk, hx, h0⟩
end
end Go.Proofs.Ytigohpgdkpcdkaa.Dk
