/- The disk's state; laying sectors on the platter. -/
import Derived.Test.YtigohpgdkpcdkaaDk1
set_option linter.unusedVariables false
set_option linter.unusedSimpArgs false
namespace Go.Proofs.Ytigohpgdkpcdkaa.Dk
open Go.RowKit Go.Proofs.YtigohpgdkpcdkaaW.PrintWords Go.Proofs.Ytigohpgdkpcdkaa.L

/-- A sector's bytes as a value's one cell; a put's two cells. -/
def PlR (w : World) (ok : Nat → Prop) (xs : List Int) (c : List Value) : Prop := ∃ v, c = [v] ∧ By w ok v xs
def PutR (w : World) (ok : Nat → Prop) (p : Nat × List Int) (c : List Value) : Prop := ∃ v, c = [.int .i64 (p.1 : Int), v] ∧ By w ok v p.2
theorem PlR.step {w w1 : World} {ok : Nat → Prop} {xs : List Int} {c : List Value} (h : PlR w ok xs c) (hm : ∀ k, ok k → k < w.heap.size → w1.heap[k]? = w.heap[k]?) : PlR w1 ok xs c := by
  obtain ⟨v, e, hb⟩ := h
  exact ⟨v, e, hb.step hm⟩
theorem PutR.step {w w1 : World} {ok : Nat → Prop} {p : Nat × List Int} {c : List Value} (h : PutR w ok p c) (hm : ∀ k, ok k → k < w.heap.size → w1.heap[k]? = w.heap[k]?) : PutR w1 ok p c := by
  obtain ⟨v, e, hb⟩ := h
  exact ⟨v, e, hb.step hm⟩

/-- A platter behind puts. -/
def layP (plat : List (List Int)) (l : List (Nat × List Int)) : List (List Int) := l.foldl (fun p x => p.set x.1 x.2) plat
theorem layP_length (plat : List (List Int)) (l : List (Nat × List Int)) : (layP plat l).length = plat.length := by
  induction l generalizing plat with
  | nil => rfl
  | cons x l ih => simp only [layP, List.foldl_cons] at ih ⊢; rw [ih]; simp

theorem info138 : (Try.prog.info? 138).map (fun i => (i.zero, i.size, i.bytes)) = some (some (.agg #[.int .i64 0, .slice none 0 0]), 2, 32) := by kernel_rfl

set_option maxHeartbeats 1000000 in
theorem lay_any (g cp n c : Nat) (pc : Array Value) (A : Option Addr) (ok : Nat → Prop) (plat : List (List Int)) (l : List (Nat × List Int)) (w : World)
    (hP : OwnRow (PlR w ok) 22 1 w 0 (.slice (some ⟨g, 0, none⟩) n cp) plat) (hL : ReadsRow (PutR w ok) 2 w A l.length l) (hc : l.length ≤ c)
    (hg : ¬ ok g) (hA : ∀ a, A = some a → a.block ≠ g) (hn : plat.length = n) (hpl : ∀ x ∈ l, x.1 < n) :
    Calls Try.prog 65 #[.slice (some ⟨g, 0, none⟩) n cp, .slice A l.length c] w fun e w' =>
      e = .returned (.tuple #[]) ∧ Kp (fun k => k = g) w w' ∧ OwnRow (PlR w' ok) 22 1 w' 0 (.slice (some ⟨g, 0, none⟩) n cp) (layP plat l) := by
  have HP := Lib.hid hP
  have HL := Lib.hid hL
  have HA := Lib.hid hA
  have HN := Lib.hid hn
  have HPL := Lib.hid hpl
  have hlm : l.length ≤ 9223372036854775807 := hL.2.1
  clear hP hL hA hn hpl
  go_enter Try.func65, Try.ntmps65
  go_wp2
  go_loopg [8] l.length (fun m i wr => ∃ k : Nat, i = .int .i64 (k : Int) ∧ Hid (k + m = l.length ∧ Kp (fun k => k = g) w wr ∧ OwnRow (PlR wr ok) 22 1 wr 0 (.slice (some ⟨g, 0, none⟩) n cp) (layP plat (l.take k))))
  case atStart => exact ⟨0, rfl, by simp, Kp.refl _ _, by simpa [layP] using HP.out⟩
  case round =>
    obtain ⟨k, rfl, HI⟩ := hrel
    obtain ⟨hkm, hkp, hO⟩ := HI.out
    have HKP := Lib.hid hkp
    have HO := Lib.hid hO
    have HKM := Lib.hid hkm
    clear hkp hO hkm
    by_cases hlt : k < l.length
    · obtain ⟨ad, v0, v1, rfl, ⟨v, hv, hby⟩, hc0, hc1⟩ := reads_two HL.out k hlt
      simp only [List.cons.injEq, and_true] at hv
      obtain ⟨rfl, rfl⟩ := hv
      have hne : ¬ (ad.add (k * 2)).block = g := by rw [add_block]; exact HA.out ad rfl
      have hd0 := HKP.out.cell hc0 hne
      have hd1 := HKP.out.cell hc1 (show ¬ (ad.add (k * 2)).block = g from hne)
      have hx := HPL.out l[k] (List.getElem_mem hlt)
      obtain ⟨u, hu, -, hf, -, -, -⟩ := own_at HO.out l[k].1 (by rw [layP_length, HN.out]; exact hx)
      have hgl : g < wr.heap.size := World.block_lt_of_cell? wr _ hu
      have HBY := Lib.hid hby
      obtain ⟨A1, c1, rfl, _, _⟩ := id hby
      have HNE := Lib.hid hne
      clear hc0 hc1 hby hne
      go_wp2
      go_roundg (l.length - (k + 1))
      case measure => have := HKM.out; omega
      case rel =>
        have hst : ∀ u : Value, ∀ i, ok i → i < wr.heap.size → (wr.setCell ⟨g, l[k].1, none⟩ u).heap[i]? = wr.heap[i]? := fun u i ho hi =>
          Below.heap_setCell wr ⟨g, l[k].1, none⟩ u i (fun h2 : i = g => hg (h2 ▸ ho))
        have hW := HKP.out.setCell (p := ⟨g, l[k].1, none⟩) (.inl rfl) (.slice A1 l[k].2.length c1)
        have hO := own_put (HO.out.imp_ (fun _ _ hp => PlR.step hp (hst (.slice A1 l[k].2.length c1)))) l[k].1 _ l[k].2 ⟨_, rfl, (HBY.out.kp HKP.out (fun i ho (h2 : i = g) => hg (h2 ▸ ho))).step (hst _)⟩
        refine ⟨k + 1, by go_num, by have := HKM.out; omega, hW.alloc _, ?_⟩
        rw [List.take_succ_eq_append_getElem hlt, layP, List.foldl_append]
        exact (hO.imp_ (fun _ _ hp => PlR.step hp (fun i _ hi => Below.heap_alloc _ _ _ hi))).below (below_alloc (Below.refl _ _) _)
    · go_wp2
      go_end0
      have hk : k = l.length := by have := HKM.out; omega
      subst hk
      exact ⟨rfl, HKP.out, by simpa using HO.out⟩
end Go.Proofs.Ytigohpgdkpcdkaa.Dk
