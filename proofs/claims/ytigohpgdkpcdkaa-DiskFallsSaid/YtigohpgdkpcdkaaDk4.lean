/- The disk's state and what only reads it. -/
import Derived.Test.YtigohpgdkpcdkaaDk3
set_option linter.unusedVariables false
set_option linter.unusedSimpArgs false
namespace Go.Proofs.Ytigohpgdkpcdkaa.Dk
open Go.RowKit Go.Proofs.YtigohpgdkpcdkaaW.PrintWords Go.Proofs.Ytigohpgdkpcdkaa.L

structure DK where
  plat : List (List Int)
  since : List (Nat × List Int)
  total : Int
  fallen : Bool
  set : Bool
  count : Int
  stays : List Int

/-- The disk at block b: its own blocks are own, the bytes that it holds lie in ok. -/
def DiskAt (w : World) (ok own : Nat → Prop) (b : Nat) (D : DK) : Prop := ∃ pv tv sv,
  w.heap[b]? = some (.cells #[pv, .bool D.set, .int .i64 D.count, tv, sv, .int .i64 D.total, .bool D.fallen] 136 (0, 0)) ∧
  OwnRow (PlR w ok) 22 1 w 0 pv D.plat ∧ OwnRow (PutR w ok) 138 2 w 0 sv D.since ∧ By w ok tv D.stays ∧
  own b ∧ (∀ k, pv.ownBlock = some k → own k) ∧ (∀ k, sv.ownBlock = some k → own k) ∧
  (∀ k, ok k → ¬ own k) ∧ (∀ k, own k → k < w.heap.size) ∧ (∀ x ∈ D.since, x.1 < D.plat.length) ∧ 0 < D.plat.length

/-- A row that is not empty lies in a block. -/
theorem own_some {α : Type} {R : α → List Value → Prop} {e : TypeId} {size : Nat} {w : World} {base : Nat} {v : Value} {ps : List α} (h : OwnRow R e size w base v ps) (h0 : 0 < ps.length) :
    ∃ g cp, v = .slice (some ⟨g, 0, none⟩) ps.length cp ∧ ps.length ≤ cp ∧ ∃ cells, w.heap[g]? = some (.cells cells e (0, 0)) := by
  obtain ⟨inner, ⟨hl, ho⟩, _⟩ := h
  rcases ho with ⟨_, h1⟩ | ⟨g, cap, cur, rfl, _, hh, hn, _⟩
  · omega
  · exact ⟨g, cap, rfl, hn, cur, hh⟩

/-- The cells of the disk, as the walks read them. -/
theorem DiskAt.open {w : World} {ok own : Nat → Prop} {b : Nat} {D : DK} (h : DiskAt w ok own b D) : ∃ g cp A c tA tc,
    w.heap[b]? = some (.cells #[.slice (some ⟨g, 0, none⟩) D.plat.length cp, .bool D.set, .int .i64 D.count, .slice tA D.stays.length tc, .slice A D.since.length c, .int .i64 D.total, .bool D.fallen] 136 (0, 0)) ∧
    OwnRow (PlR w ok) 22 1 w 0 (.slice (some ⟨g, 0, none⟩) D.plat.length cp) D.plat ∧ OwnRow (PutR w ok) 138 2 w 0 (.slice A D.since.length c) D.since ∧
    D.since.length ≤ c ∧ ReadsRow (PutR w ok) 2 w A D.since.length D.since ∧
    By w ok (.slice tA D.stays.length tc) D.stays ∧ own b ∧ own g ∧ (∀ a, A = some a → own a.block ∧ a.block ≠ g ∧ a.block ≠ b) ∧ b ≠ g ∧ D.plat.length ≤ cp ∧
    (∀ k, ok k → ¬ own k) ∧ (∀ k, own k → k < w.heap.size) ∧ (∀ x ∈ D.since, x.1 < D.plat.length) ∧ 0 < D.plat.length := by
  obtain ⟨pv, tv, sv, hb, hp, hs, ht, o1, o2, o3, hok, hlt, hx, h0⟩ := h
  obtain ⟨g, cp, rfl, hcp, cells, hg⟩ := own_some hp h0
  obtain ⟨tA, tc, rfl, htc, hf⟩ := ht
  obtain ⟨A, c, rfl, hc, hr⟩ := hs.reads
  refine ⟨g, cp, A, c, tA, tc, hb, hp, hs, hc, hr, ⟨tA, tc, rfl, htc, hf⟩, o1, o2 g rfl, fun a ha => ?_, blk_ne hb hg (by decide), hcp, hok, hlt, hx, h0⟩
  subst ha
  have hne : ∀ {x t cells}, w.heap[x]? = some (.cells cells t (0, 0)) → 138 ≠ t → a.block ≠ x := fun hx ht he => (hs.ne_block hx ht) (by rw [he.symm]; rfl)
  exact ⟨o3 _ rfl, hne hg (by decide), hne hb (by decide)⟩

/-- What another's call has left. -/
theorem DiskAt.step {w w1 : World} {ok ok' own S : Nat → Prop} {b : Nat} {D : DK} (h : DiskAt w ok own b D) (hk : Kp S w w1) (hs : ∀ k, S k → ¬ own k) (hso : ∀ k, S k → ¬ ok k) (hoo : ∀ k, ok k → ok' k) (hon : ∀ k, ok' k → ¬ own k) : DiskAt w1 ok' own b D := by
  obtain ⟨pv, tv, sv, hb, hp, hs1, ht, o1, o2, o3, hok, hlt, hx, h0⟩ := h
  have st : ∀ k, ok k → k < w.heap.size → w1.heap[k]? = w.heap[k]? := fun k h1 h2 => hk.block k h2 (fun h3 => hso k h3 h1)
  have mv : ∀ {α : Type} {R : α → List Value → Prop} {e size : Nat} {v : Value} {ps : List α}, OwnRow R e size w 0 v ps → (∀ k, v.ownBlock = some k → own k) → OwnRow R e size w1 0 v ps := fun h2 h3 => by
    obtain ⟨inner, ho, hr⟩ := h2
    exact ⟨inner, own_move ho (fun k h4 => hk.block k (hlt k (h3 k h4)) (fun h5 => hs k h5 (h3 k h4))), hr⟩
  refine ⟨pv, tv, sv, hk.blk hb (fun h2 => hs _ h2 o1), (mv hp o2).imp_ (fun _ _ hp => ?_), (mv hs1 o3).imp_ (fun _ _ hp => ?_), (ht.step st).mono hoo, o1, o2, o3, hon, fun k h2 => Nat.lt_of_lt_of_le (hlt k h2) hk.size, hx, h0⟩
  · obtain ⟨v, e, hb⟩ := hp.step st
    exact ⟨v, e, hb.mono hoo⟩
  · obtain ⟨v, e, hb⟩ := hp.step st
    exact ⟨v, e, hb.mono hoo⟩
theorem DiskAt.below {w w1 : World} {ok own : Nat → Prop} {b : Nat} {D : DK} (h : DiskAt w ok own b D) (hb : Below w.heap.size w w1) : DiskAt w1 ok own b D :=
  h.step (Kp.of_below (fun _ => False) hb) (fun _ h => h.elim) (fun _ h => h.elim) (fun _ h => h) (by obtain ⟨_, _, _, _, _, _, _, _, _, _, hok, _⟩ := h; exact hok)

section
variable {ok own : Nat → Prop} {b : Nat} {D : DK} {w : World}
set_option maxHeartbeats 400000 in
theorem sectors_at (h : DiskAt w ok own b D) : Calls Try.prog 64 #[.pointer (some ⟨b, 0, none⟩)] w fun e w' => e = .returned (.int .i64 D.plat.length) ∧ w = w' := by
  obtain ⟨g, cp, A, c, tA, tc, hb, _⟩ := h.open
  exact sectors_any b _ _ cp w (blk_cell hb 0)
set_option maxHeartbeats 400000 in
theorem up_at (h : DiskAt w ok own b D) : Calls Try.prog 26 #[.pointer (some ⟨b, 0, none⟩)] w fun e w' => e = .returned (.bool !D.fallen) ∧ w = w' := by
  obtain ⟨g, cp, A, c, tA, tc, hb, _⟩ := h.open
  have h6 := blk_cell hb 6
  clear hb
  go_enter Try.func26, Try.ntmps26
  go_wp2
  go_ret
  exact ⟨rfl, rfl⟩
set_option maxHeartbeats 400000 in
theorem writes_at (h : DiskAt w ok own b D) : Calls Try.prog 17 #[.pointer (some ⟨b, 0, none⟩)] w fun e w' => e = .returned (.int .i64 D.total) ∧ w = w' := by
  obtain ⟨g, cp, A, c, tA, tc, hb, _⟩ := h.open
  have h5 := blk_cell hb 5
  clear hb
  go_enter Try.func17, Try.ntmps17
  go_wp2
  go_ret
  exact ⟨rfl, rfl⟩
set_option maxHeartbeats 400000 in
theorem pending_at (h : DiskAt w ok own b D) : Calls Try.prog 18 #[.pointer (some ⟨b, 0, none⟩)] w fun e w' => e = .returned (.int .i64 D.since.length) ∧ w = w' := by
  obtain ⟨g, cp, A, c, tA, tc, hb, _⟩ := h.open
  have h4 := blk_cell hb 4
  clear hb
  go_enter Try.func18, Try.ntmps18
  go_wp2
  go_ret
  exact ⟨rfl, rfl⟩
set_option maxHeartbeats 400000 in
theorem read_down (h : DiskAt w ok own b D) (k : Int) (hd : D.fallen = true) : Calls Try.prog 28 #[.pointer (some ⟨b, 0, none⟩), .int .i64 k] w fun e w' =>
    e = .returned (.tuple #[.slice none 0 0, .int .i64 9]) ∧ w = w' := by
  obtain ⟨g, cp, A, c, tA, tc, hb, _⟩ := h.open
  have h6 : w.cell? ⟨b, 6, none⟩ = some (.bool true) := (blk_cell hb 6).trans (by rw [hd]; rfl)
  clear hb
  go_enter Try.func28, Try.ntmps28
  go_wp2
  go_ret2
  exact ⟨rfl, rfl⟩
set_option maxHeartbeats 400000 in
theorem read_ok (h : DiskAt w ok own b D) (k : Nat) (hd : D.fallen = false) (hk : k < D.plat.length) : Calls Try.prog 28 #[.pointer (some ⟨b, 0, none⟩), .int .i64 (k : Int)] w fun e w' =>
    e = .returned (.tuple #[.slice (some ⟨w.heap.size, 0, none⟩) 256 256, .int .i64 0]) ∧ Below w.heap.size w w' ∧ Bk w' w.heap.size (showsP D.plat D.since k) := by
  have HD := Lib.hid h
  obtain ⟨g, cp, A, c, tA, tc, hb, hp, hs, hc, hr, _⟩ := h.open
  have h6 : w.cell? ⟨b, 6, none⟩ = some (.bool false) := (blk_cell hb 6).trans (by rw [hd]; rfl)
  have HSh := Lib.hid (shows_any b k D.plat.length cp D.since.length c (some ⟨g, 0, none⟩) A ok D.plat D.since w (blk_cell hb 0) (blk_cell hb 4) hp hr rfl hk)
  clear hb hp hs hr h
  go_enter Try.func28, Try.ntmps28
  go_wp2_with (first | (go_at_call 64; refine (sectors_at HD.out).mono ?_; rintro e w' ⟨rfl, rfl⟩) | (go_at_call 66; refine HSh.out.mono ?_; rintro e w' ⟨rfl, hb1, hk1⟩))
  go_ret2
  exact ⟨rfl, hb1, hk1⟩
end
end Go.Proofs.Ytigohpgdkpcdkaa.Dk
