/- Write of the disk: the plain side. -/
import Derived.Test.YtigohpgdkpcdkaaDk6
set_option linter.unusedVariables false
set_option linter.unusedSimpArgs false
namespace Go.Proofs.Ytigohpgdkpcdkaa.Dk
open Go.RowKit Go.Proofs.YtigohpgdkpcdkaaW.PrintWords Go.Proofs.Ytigohpgdkpcdkaa.L

/-- Filled up to whole sectors. -/
def padP (xs : List Int) : List Int := xs ++ List.replicate ((256 - xs.length % 256) % 256) 0
theorem padP_step (xs : List Int) (h : 0 < xs.length % 256) : padP (xs ++ [0]) = padP xs := by
  unfold padP
  rw [List.append_assoc]
  congr 1
  have h1 : (256 - xs.length % 256) % 256 = (256 - (xs ++ [(0 : Int)]).length % 256) % 256 + 1 := by
    simp only [List.length_append, List.length_cons, List.length_nil]; omega
  rw [h1, List.replicate_succ]
  rfl
theorem padP_done (xs : List Int) (h : xs.length % 256 = 0) : padP xs = xs := by
  unfold padP
  rw [h]
  simp
theorem padP_length (xs : List Int) : (padP xs).length % 256 = 0 ∧ (padP xs).length < xs.length + 256 ∧ xs.length ≤ (padP xs).length := by
  unfold padP
  simp only [List.length_append, List.length_replicate]
  omega
/-- Bytes as sectors. -/
def sects : Nat → List Int → List (List Int)
  | 0, _ => []
  | n + 1, xs => xs.take 256 :: sects n (xs.drop 256)
theorem sects_length (n : Nat) (xs : List Int) : (sects n xs).length = n := by
  induction n generalizing xs with
  | zero => rfl
  | succ n ih => simp [sects, ih]
theorem sects_flat (n : Nat) (xs : List Int) (h : xs.length = 256 * n) : (sects n xs).flatten = xs ∧ ∀ s ∈ sects n xs, s.length = 256 := by
  induction n generalizing xs with
  | zero => exact ⟨by simp [sects]; exact List.eq_nil_of_length_eq_zero (by omega), by simp [sects]⟩
  | succ n ih =>
    obtain ⟨h1, h2⟩ := ih (xs.drop 256) (by rw [List.length_drop]; omega)
    refine ⟨by rw [sects, List.flatten_cons, h1, List.take_append_drop], fun s hs => ?_⟩
    rcases List.mem_cons.1 hs with rfl | hs
    · rw [List.length_take]; omega
    · exact h2 s hs
/-- Sectors written one behind the other. -/
def writeL : DK → Nat → List (List Int) → DK × Int
  | D, _, [] => (D, 0)
  | D, k, s :: r =>
    let D1 : DK := { D with since := D.since ++ [(k, s)], total := D.total + 1 }
    if D1.set && D1.total == D1.count then ({ D1 with plat := layP D1.plat (crashL D1.stays D1.since), since := [], fallen := true }, 9) else writeL D1 (k + 1) r
def writeP (D : DK) (k : Int) (xs : List Int) : DK × Int :=
  if D.fallen then (D, 9)
  else if k < 0 ∨ (D.plat.length : Int) < k ∨ (D.plat.length : Int) - k < ((padP xs).length / 256 : Nat) then (D, 1)
  else writeL D k.toNat (sects ((padP xs).length / 256) (padP xs))


/-- A put laid behind the others, and counted. -/
theorem put_at {W w1 : World} {ok own : Nat → Prop} {b : Nat} {D : DK} {pv tv sv v1 : Value} {x : Nat × List Int} (hb : W.heap[b]? = some (.cells #[pv, .bool D.set, .int .i64 D.count, tv, sv, .int .i64 D.total, .bool D.fallen] 136 (0, 0)))
    (hP : OwnRow (PlR W ok) 22 1 W 0 pv D.plat) (hS : OwnRow (PutR W ok) 138 2 W 0 sv D.since) (hS1 : OwnRow (PutR W ok) 138 2 w1 0 v1 (D.since ++ [x])) (hT : By W ok tv D.stays)
    (o1 : own b) (o2 : ∀ k, pv.ownBlock = some k → own k) (o3 : ∀ k, sv.ownBlock = some k → own k) (hok : ∀ k, ok k → ¬ own k) (hlt : ∀ k, own k → k < W.heap.size) (hokl : ∀ k, ok k → k < W.heap.size)
    (hx : ∀ y ∈ D.since, y.1 < D.plat.length) (h0 : 0 < D.plat.length) (hx1 : x.1 < D.plat.length)
    (hg : W.grownBy w1 sv.ownBlock) (hat : v1.ownBlock = sv.ownBlock ∨ ∃ i, v1.ownBlock = some i ∧ W.heap.size ≤ i) :
    Kp own W ((w1.setCell ⟨b, 4, none⟩ v1).setCell ⟨b, 5, none⟩ (.int .i64 (D.total + 1))) ∧
      DiskAt ((w1.setCell ⟨b, 4, none⟩ v1).setCell ⟨b, 5, none⟩ (.int .i64 (D.total + 1))) ok (fun i => own i ∨ v1.ownBlock = some i) b { D with since := D.since ++ [x], total := D.total + 1 } := by
  have hsb : some b ≠ sv.ownBlock := hS.ne_block hb (by decide)
  have hb1 : w1.heap[b]? = _ := blk_grown hb hg hsb
  have hkw : Kp own W w1 := (Kp.refl own W).grown hg (fun k hk => .inl (o3 k hk))
  have hks : Kp own W ((w1.setCell ⟨b, 4, none⟩ v1).setCell ⟨b, 5, none⟩ (.int .i64 (D.total + 1))) := (hkw.setCell (.inl o1) _).setCell (.inl o1) _
  have hb2 := blk_put hb1 4 v1 rfl
  have hst : ∀ i, ok i → i < W.heap.size → ((w1.setCell ⟨b, 4, none⟩ v1).setCell ⟨b, 5, none⟩ (.int .i64 (D.total + 1))).heap[i]? = W.heap[i]? := fun i hi hl => hks.block i hl (hok i hi)
  have hP1 : OwnRow (PlR W ok) 22 1 w1 0 pv D.plat := hP.other hg (by
    rcases hS with ⟨i1, ⟨_, hs1⟩, _⟩
    cases hpv : pv.ownBlock with
    | none => exact .inl rfl
    | some k =>
      refine .inr (fun he => ?_)
      obtain ⟨i2, ho2, _⟩ := hP
      obtain ⟨c2, hc2⟩ := own_typed ho2 k hpv
      rcases hs1 with ⟨rfl, _⟩ | ⟨g3, _, c3, rfl, _, hc3, _⟩
      · simp [Value.ownBlock] at he
      · have : k = g3 := by simpa [Value.ownBlock] using he
        subst this
        rw [hc2] at hc3
        injection hc3 with hc3
        injection hc3 with _ hc3
        exact absurd hc3 (by decide))
  refine ⟨hks, _, _, _, blk_put hb2 5 (.int .i64 (D.total + 1)) rfl, ((OwnRow.set_ (OwnRow.set_ hP1 hb1 (by decide) 4 v1) hb2 (by decide) 5 _)).imp_ (fun _ _ hp => hp.step hst),
    ((OwnRow.set_ (OwnRow.set_ hS1 hb1 (by decide) 4 v1) hb2 (by decide) 5 _)).imp_ (fun _ _ hp => hp.step hst), hT.step hst, .inl o1, fun k hk => .inl (o2 k hk), fun k hk => .inr hk, ?_, ?_, ?_, h0⟩
  · rintro i hi (h2 | h2)
    · exact hok i hi h2
    · rcases hat with hat | ⟨j, hj, hle⟩
      · exact hok i hi (o3 i (hat ▸ h2))
      · rw [hj] at h2
        have := Option.some.inj h2
        have := hokl i hi
        omega
  · rintro i (h2 | h2)
    · exact Nat.lt_of_lt_of_le (hlt i h2) hks.size
    · obtain ⟨i1, ho1, _⟩ := hS1
      have := own_lt ho1 i h2
      simpa [World.setCell] using this
  · intro y hy
    rcases List.mem_append.1 hy with hy | hy
    · exact hx y hy
    · obtain rfl := List.mem_singleton.1 hy
      exact hx1
end Go.Proofs.Ytigohpgdkpcdkaa.Dk
