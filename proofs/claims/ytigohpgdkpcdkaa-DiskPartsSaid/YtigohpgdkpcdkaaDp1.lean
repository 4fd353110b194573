/- The law DiskParts: its two disks. -/
import Derived.Test.YtigohpgdkpcdkaaDk11
set_option linter.unusedVariables false
set_option linter.unusedSimpArgs false
namespace Go.Proofs.Ytigohpgdkpcdkaa.Dk
open Go.RowKit Go.Proofs.YtigohpgdkpcdkaaW.PrintWords Go.Proofs.Ytigohpgdkpcdkaa.L

/-- Two disks alike, one of which has written. -/
def OneD (w1 w : World) (b1 b2 : Nat) (D1 D2 : DK) (w' : World) : Prop :=
  ∃ ok own1 own2, DiskAt w' ok own1 b1 D1 ∧ DiskAt w' ok own2 b2 D2 ∧ Below w1.heap.size w1 w' ∧ w.heap.size ≤ w'.heap.size ∧ (∀ i, own1 i → ¬ own2 i) ∧ (∀ i, own1 i → w1.heap.size ≤ i) ∧ (∀ i, own2 i → w1.heap.size ≤ i) ∧ (∀ i, i < w1.heap.size → ok i) ∧ (∀ i, ok i → i < w'.heap.size)
/-- What a call of one of two disks leaves of both. -/
theorem OneD.step {w1 w w' : World} {b1 b2 : Nat} {D1 D2 D1' : DK} {ok own1 own2 ok' own' : Nat → Prop} (h1 : DiskAt w ok own1 b1 D1) (h2 : DiskAt w ok own2 b2 D2) (hb : Below w1.heap.size w1 w) (hn : ∀ i, own1 i → ¬ own2 i) (o1 : ∀ i, own1 i → w1.heap.size ≤ i) (o2 : ∀ i, own2 i → w1.heap.size ≤ i) (hw : ∀ i, i < w1.heap.size → ok i)
    (hs : Stp ok own1 w ok' own' w') (hd : DiskAt w' ok' own' b1 D1') : OneD w1 w b1 b2 D1' D2 w' := by
  have hsz := hb.size
  have o1' : ∀ i, own' i → w1.heap.size ≤ i := fun i hi => by
    rcases hs.2.2.2.1 i hi with h | h
    · exact o1 i h
    · omega
  refine ⟨ok', own', own2, hd, h2.step hs.1 hn (fun i hi ho => h1.okn i ho hi) hs.2.1 (fun i hi ho => ?_), hb.trans (hs.1.below hsz o1), hs.1.size, fun i hi ho => ?_, o1', o2, fun i hi => hs.2.1 i (hw i hi), hs.2.2.2.2⟩
  · rcases hs.2.2.1 i hi with h | h
    · exact h2.okn i h ho
    · have := h2.ownlt i ho; omega
  · rcases hs.2.2.2.1 i hi with h | h
    · exact hn i h ho
    · have := h2.ownlt i ho; omega
theorem OneD.swap {w1 w w' : World} {b1 b2 : Nat} {D1 D2 : DK} (h : OneD w1 w b1 b2 D1 D2 w') : OneD w1 w b2 b1 D2 D1 w' := by
  obtain ⟨ok, own1, own2, h1, h2, h3, h4, h5, h6, h7, h8⟩ := h
  exact ⟨ok, own2, own1, h2, h1, h3, h4, fun i a b => h5 i b a, h7, h6, h8⟩
theorem OneD.weaken {w1 w w0 w' : World} {b1 b2 : Nat} {D1 D2 : DK} (h : OneD w1 w b1 b2 D1 D2 w') (hle : w0.heap.size ≤ w.heap.size) : OneD w1 w0 b1 b2 D1 D2 w' := by
  obtain ⟨ok, own1, own2, h1, h2, h3, h4, h5, h6, h7, h8⟩ := h
  exact ⟨ok, own1, own2, h1, h2, h3, by omega, h5, h6, h7, h8⟩
theorem OneD.at' {w1 w w' : World} {b1 b2 : Nat} {D1 D2 : DK} (h : OneD w1 w b1 b2 D1 D2 w') {w'' : World} (hb : Below w'.heap.size w' w'') : OneD w1 w b1 b2 D1 D2 w'' := by
  obtain ⟨ok, own1, own2, h1, h2, h3, h4, h5, h6, h7, h8, h9⟩ := h
  have := h3.size
  have := hb.size
  exact ⟨ok, own1, own2, h1.below hb, h2.below hb, h3.trans (hb.mono (by omega)), by omega, h5, h6, h7, h8, fun i hi => Nat.lt_of_lt_of_le (h9 i hi) hb.size⟩
theorem OneD.at_ {w1 w w' : World} {b1 b2 : Nat} {D1 D2 : DK} (h : OneD w1 w b1 b2 D1 D2 w') (w'' : World) (hb : Below w'.heap.size w' w'') : OneD w1 w'' b1 b2 D1 D2 w'' := by
  obtain ⟨ok, own1, own2, h1, h2, h3, h4, h5, h6, h7, h8, h9⟩ := h
  have := h3.size
  exact ⟨ok, own1, own2, h1.below hb, h2.below hb, h3.trans (hb.mono this), Nat.le_refl _, h5, h6, h7, h8, fun i hi => Nat.lt_of_lt_of_le (h9 i hi) hb.size⟩

/-- One part, laid down before, is written. -/
theorem write_blk {ok own : Nat → Prop} {b : Nat} {D : DK} {W : World} (h : DiskAt W ok own b D) (hd : D.fallen = false) (k : Int) (A2 : Option Addr) (n c2 : Nat) (xs : List Int) (hn : xs.length = n) (hby : By W ok (.slice A2 n c2) xs)
    (hsz : xs.length ≤ 1099511627776) (ht0 : 0 ≤ D.total) (ht1 : D.total ≤ 2305843009213693952) (hs1 : D.since.length ≤ 1099511627776) (hst : D.stays.length ≤ 1000000) (hpl : D.plat.length ≤ 1000000) (hok : ∀ i, ok i → i < W.heap.size) (s : Nat)
    (hs : W.heap[s]? = some (.cells #[.slice A2 n c2] 22 (0, 0))) :
    Calls Try.prog 14 #[.pointer (some ⟨b, 0, none⟩), .int .i64 k, .slice (some ⟨s, 0, none⟩) 1 1] W (Post W ok own b (writeP D k xs)) := by
  subst hn
  have hf : [xs].flatten = xs := by simp
  have h2 := write_at h hd k (some ⟨s, 0, none⟩) 1 [xs] ⟨rfl, by simp, fun _ => ⟨_, rfl, fun j p hj => ?_⟩⟩ (Nat.le_refl _) (by rw [hf]; exact hsz) ht0 ht1 hs1 hst hpl hok
  · rw [hf] at h2
    exact h2
  · match j, hj with
    | 0, hj =>
      obtain rfl : xs = p := by simpa using hj
      refine ⟨[.slice A2 xs.length c2], rfl, ⟨_, rfl, hby⟩, fun i u hu => ?_⟩
      rw [show (0 * 1 + i) = i by omega, add_plain, blk_cell hs]
      simpa using hu
theorem parts_go {w1 w2 w3 : World} {m c : Nat} {cut : Int} {A A2 : Option Addr} {bs : List Int} {w : World} (hc0 : 0 ≤ cut) (hc1 : cut ≤ bs.length) (hb : (Kd.int .u8).C w A bs.length bs)
    (hcut : ∀ (w : World) (ok : Nat → Prop), Sl (Kd.int .u8) w ok (.slice A bs.length c) bs → Sl (Kd.int .u8) w ok (.slice A2 (bs.drop cut.toNat).length (c - cut.toNat)) (bs.drop cut.toNat)) (hc : bs.length ≤ c) (hcl : (bs.drop cut.toNat).length ≤ c - cut.toNat)
    (hb1 : Below w.heap.size w w1) (hb2 : Below w1.heap.size w1 w2) (hb3 : Below w2.heap.size w2 w3) (hs2 : w2.heap.size = w1.heap.size + 2) (hs3 : w3.heap.size = w2.heap.size + 2)
    (hd2 : DiskAt w2 (fun i => i < w1.heap.size) (fun i => i = w1.heap.size ∨ i = w1.heap.size + 1) (w1.heap.size + 1) (D0 m)) (hd3 : DiskAt w3 (fun i => i < w1.heap.size) (fun i => i = w2.heap.size ∨ i = w2.heap.size + 1) (w2.heap.size + 1) (D0 m))
    (hm : m ≤ 60) (hl : bs.length ≤ 30000) (k : Int) :
    (∀ (W : World) (s : Nat), Below w3.heap.size w3 W → W.heap[s]? = some (.cells #[.slice A cut.toNat c, .slice A2 (bs.length - cut.toNat) (c - cut.toNat)] 22 (0, 0)) →
      Calls Try.prog 14 #[.pointer (some ⟨w1.heap.size + 1, 0, none⟩), .int .i64 k, .slice (some ⟨s, 0, none⟩) 2 2] W (fun e w' => ∃ q, q = (writeP (D0 m) k bs).2 ∧ e = .returned (.int .i64 q) ∧ OneD w1 w3 (w1.heap.size + 1) (w2.heap.size + 1) (writeP (D0 m) k bs).1 (D0 m) w' ∧
        ∀ x o, W.heap[x]? = some o → w3.heap.size ≤ x → w'.heap[x]? = some o)) ∧
    (∀ (W : World) (D1 : DK) (s : Nat), OneD w1 w3 (w1.heap.size + 1) (w2.heap.size + 1) D1 (D0 m) W → W.heap[s]? = some (.cells #[.slice A bs.length c] 22 (0, 0)) →
      Calls Try.prog 14 #[.pointer (some ⟨w2.heap.size + 1, 0, none⟩), .int .i64 k, .slice (some ⟨s, 0, none⟩) 1 1] W (fun e w' => ∃ q, q = (writeP (D0 m) k bs).2 ∧ e = .returned (.int .i64 q) ∧ OneD w1 w3 (w1.heap.size + 1) (w2.heap.size + 1) D1 (writeP (D0 m) k bs).1 w')) := by
  have hbs : ∀ W, Below w1.heap.size w1 W → By W (fun i => i < w1.heap.size) (.slice A bs.length c) bs := fun W hW => ⟨A, c, rfl, hc, (Kd.C_F (Kd.heap_int .u8) (Kd.C_below hb hb1)).step (fun i hi _ => hW.block i hi)⟩
  have hb13 : Below w1.heap.size w1 w3 := hb2.trans (hb3.mono (by omega))
  have hD2' := hd2.below hb3
  have hlen : (bs.drop cut.toNat).length = bs.length - cut.toNat := List.length_drop
  refine ⟨?_, ?_⟩
  · intro W s hbel hsW
    have hfl : [bs.take cut.toNat, bs.drop cut.toNat].flatten = bs := by simp
    have hBB := hbs _ (hb13.trans (hbel.mono (by omega)))
    have hc3 := hcut _ _ hBB
    rw [hlen] at hc3
    refine (write_at (parts := [bs.take cut.toNat, bs.drop cut.toNat]) (hD2'.below hbel) rfl k (some ⟨s, 0, none⟩) 2 ⟨rfl, by simp, fun _ => ⟨_, rfl, fun j p hj => ?_⟩⟩ (Nat.le_refl _) (by rw [hfl]; omega) (by simp [D0]) (by simp [D0]) (by simp [D0]) (by simp [D0]) (by simp [D0]; omega) (fun i hi => by have := hbel.size; omega)).mono ?_
    · have hcell : ∀ x, W.cell? ⟨s, x, none⟩ = (#[.slice A cut.toNat c, .slice A2 (bs.length - cut.toNat) (c - cut.toNat)] : Array Value)[x]? := fun x => blk_cell hsW x
      match j, hj with
      | 0, hj =>
        obtain rfl : bs.take cut.toNat = p := by simpa using hj
        refine ⟨[.slice A cut.toNat c], rfl, ⟨_, rfl, hBB.take cut.toNat (by omega) (by omega)⟩, fun i u hu => ?_⟩
        rw [show (0 * 1 + i) = i by omega, add_plain, hcell]
        match i, hu with
        | 0, hu => exact hu
      | 1, hj =>
        obtain rfl : bs.drop cut.toNat = p := by simpa using hj
        refine ⟨[.slice A2 (bs.length - cut.toNat) (c - cut.toNat)], rfl, ⟨_, rfl, hc3⟩, fun i u hu => ?_⟩
        rw [show (1 * 1 + i) = 1 + i by omega, add_plain, hcell]
        match i, hu with
        | 0, hu => exact hu
    · rintro e w' hp
      rw [hfl] at hp
      have hpk := hp
      obtain ⟨_, _, _, hst0, _⟩ := hpk
      obtain ⟨rfl, ok', own', hst, hd⟩ := hp.lower hbel
      refine ⟨_, rfl, rfl, OneD.step hD2' hd3 hb13 (fun i h1 h2 => by omega) (fun i hi => by omega) (fun i hi => by omega) (fun i hi => hi) hst hd, fun x o hx hle => hst0.1.blk hx (fun h => by omega)⟩
  · intro W D1 s hO hs
    obtain ⟨ok, own1, own2, h1, h2, h3, h4, h5, h6, h7, h8, h9⟩ := hO
    refine (write_blk h2 rfl k A bs.length c bs rfl ((hbs W h3).mono h8) (by omega) (by simp [D0]) (by simp [D0]) (by simp [D0]) (by simp [D0]) (by simp [D0]; omega) h9 s hs).mono ?_
    rintro e w' ⟨rfl, ok', own', hst, hd⟩
    exact ⟨_, rfl, rfl, ((OneD.step h2 h1 h3 (fun i a b => h5 i b a) h7 h6 h8 hst hd).swap).weaken h4⟩
end Go.Proofs.Ytigohpgdkpcdkaa.Dk
