/- A library of small lemmas for this seat's walks: what a call keeps (Kp), bytes that are read (By), over any program. -/
import Derived.Test.YtigohpgdkpcdkaaProg
import Derived.Test.YtigohpgdkpcdkaaWShare
import Derived.Test.YtigohpgdkpcdkaaWMore
import Derived.WalkKit
import Derived.WalkSpells
import Derived.WalkLawsBesides
import Derived.Laws.IdiomCopy
import Derived.Lib.Hide
set_option linter.unusedVariables false
set_option linter.unusedSimpArgs false
namespace Go.Proofs.Ytigohpgdkpcdkaa.L
open Go.RowKit Go.Proofs.YtigohpgdkpcdkaaW.PrintWords

/-- What a call keeps: all but the blocks of S and what is new. -/
structure Kp (S : Nat → Prop) (w w' : World) : Prop where
  os : w'.os = w.os
  tape : w'.tape = w.tape
  output : w'.output = w.output
  size : w.heap.size ≤ w'.heap.size
  block : ∀ k, k < w.heap.size → ¬ S k → w'.heap[k]? = w.heap[k]?
namespace Kp
variable {S S' : Nat → Prop} {w w1 w2 : World}
theorem refl (S : Nat → Prop) (w : World) : Kp S w w := ⟨rfl, rfl, rfl, Nat.le_refl _, fun _ _ _ => rfl⟩
theorem trans (h : Kp S w w1) (k : Kp S' w1 w2) (hs : ∀ i, S' i → S i ∨ w.heap.size ≤ i) : Kp S w w2 :=
  ⟨k.os.trans h.os, k.tape.trans h.tape, k.output.trans h.output, Nat.le_trans h.size k.size, fun i hi hn =>
    (k.block i (Nat.lt_of_lt_of_le hi h.size) (fun h2 => (hs i h2).elim hn (fun h3 => by omega))).trans (h.block i hi hn)⟩
theorem trans' (h : Kp S w w1) (k : Kp S w1 w2) : Kp S w w2 := h.trans k (fun _ h => .inl h)
theorem mono (h : Kp S w w1) (hs : ∀ i, S i → S' i) : Kp S' w w1 := ⟨h.os, h.tape, h.output, h.size, fun i hi hn => h.block i hi (fun h2 => hn (hs i h2))⟩
theorem of_below (S : Nat → Prop) (h : Below w.heap.size w w1) : Kp S w w1 := ⟨h.os, h.tape, h.output, h.size, fun i hi _ => h.block i hi⟩
theorem then_below (h : Kp S w w1) (k : Below w1.heap.size w1 w2) : Kp S w w2 := h.trans' (of_below S k)
theorem below {B : Nat} (h : Kp S w w1) (hB : B ≤ w.heap.size) (hs : ∀ i, S i → B ≤ i) : Below B w w1 :=
  ⟨h.os, h.tape, h.output, h.size, fun i hi => h.block i (by omega) (fun h2 => by have := hs i h2; omega)⟩
theorem below_none (h : Kp (fun _ => False) w w1) : Below w.heap.size w w1 := h.below (Nat.le_refl _) (fun _ h => h.elim)
theorem drew (h : Kp S w w1) : Kp S w w1.drew := ⟨h.os, h.tape, h.output, h.size, h.block⟩
theorem drewN (h : Kp S w w1) (n : Nat) : Kp S w (w1.drewN n) := ⟨h.os, h.tape, h.output, h.size, h.block⟩
theorem alloc (h : Kp S w w1) (o : Obj) : Kp S w (w1.alloc o) := h.then_below ((Below.refl _ _).alloc (Nat.le_refl _) o)
theorem setCell (h : Kp S w w1) {p : Addr} (hp : S p.block ∨ w.heap.size ≤ p.block) (u : Value) : Kp S w (w1.setCell p u) :=
  h.trans (S' := fun k => k = p.block) ⟨rfl, rfl, rfl, by simp [World.setCell], fun i _ hn => Below.heap_setCell w1 p u i hn⟩ (fun i hi => by rw [hi]; exact hp)
theorem grown (h : Kp S w w1) {row : Option Nat} (hg : w1.grownBy w2 row) (hr : ∀ k, row = some k → S k ∨ w.heap.size ≤ k) : Kp S w w2 :=
  h.trans (S' := fun k => row = some k) ⟨hg.os, hg.tape, hg.output, hg.size, fun i hi hn => hg.block i hi (fun he => hn he.symm)⟩ hr
theorem kept (h : Kp S w w1) : Kept w w1 S := ⟨h.size, h.block⟩
theorem cell (h : Kp S w w1) {a : Addr} {v : Value} (hc : w.cell? a = some v) (hn : ¬ S a.block) : w1.cell? a = some v := cell_kept hc h.kept hn
theorem blk (h : Kp S w w1) {g : Nat} {o : Obj} (hb : w.heap[g]? = some o) (hn : ¬ S g) : w1.heap[g]? = some o := blk_kept hb h.kept hn
end Kp

/-- A slice value that reads as xs, out of blocks of ok alone. -/
def Sl {α : Type} (d : Kd α) (w : World) (ok : Nat → Prop) (v : Value) (xs : List α) : Prop := ∃ A c, v = .slice A xs.length c ∧ xs.length ≤ c ∧ d.F w ok A xs.length xs
/-- A slice of bytes. -/
abbrev By (w : World) (ok : Nat → Prop) (v : Value) (xs : List Int) : Prop := Sl (Kd.int .u8) w ok v xs
namespace Sl
variable {α : Type} {d : Kd α} {ok ok' S : Nat → Prop} {w w1 : World} {v : Value} {xs : List α}
theorem mono (h : Sl d w ok v xs) (hok : ∀ k, ok k → ok' k) : Sl d w ok' v xs := by
  obtain ⟨A, c, e, hl, hf⟩ := h
  exact ⟨A, c, e, hl, Kd.F_mono hf hok⟩
theorem bound (h : Sl d w ok v xs) : Sl d w (fun k => ok k ∧ k < w.heap.size) v xs := by
  obtain ⟨A, c, e, hl, hf⟩ := h
  exact ⟨A, c, e, hl, Kd.F_bound hf⟩
theorem step (h : Sl d w ok v xs) (hm : ∀ k, ok k → k < w.heap.size → w1.heap[k]? = w.heap[k]?) : Sl d w1 ok v xs := by
  obtain ⟨A, c, e, hl, hf⟩ := h
  exact ⟨A, c, e, hl, Kd.F_step hf hm⟩
theorem kp (h : Sl d w ok v xs) (hk : Kp S w w1) (hn : ∀ k, ok k → ¬ S k) : Sl d w1 ok v xs := h.step (fun k ho hlt => hk.block k hlt (hn k ho))
theorem below (h : Sl d w ok v xs) (hb : Below w.heap.size w w1) : Sl d w1 ok v xs := h.step (fun k _ hlt => hb.block k hlt)
theorem nil (d : Kd α) (w : World) (ok : Nat → Prop) : Sl d w ok (.slice none 0 0) [] := ⟨none, 0, rfl, Nat.le_refl _, Kd.F_nil d w ok⟩
theorem of_R {e base : Nat} (h : d.R e w base ok v xs) : Sl d w ok v xs := by
  obtain ⟨A, c, rfl, hl, _⟩ := Kd.R_reads h
  exact ⟨A, c, rfl, hl, Kd.R_F h⟩
/-- What came in. -/
theorem of_C (hd : Kd.Heap d) {A : Option Addr} {c : Nat} (hl : xs.length ≤ c) (h : d.C w A xs.length xs) : Sl d w (fun k => k < w.heap.size) (.slice A xs.length c) xs := ⟨A, c, rfl, hl, Kd.C_F hd h⟩
end Sl

/-- One element of a row of the call's own is written. -/
theorem own_put {α : Type} {R : α → List Value → Prop} {e : TypeId} {w : World} {base g n cp : Nat} {ps : List α} (h : OwnRow R e 1 w base (.slice (some ⟨g, 0, none⟩) n cp) ps) (j : Nat) (v : Value) (p : α) (hv : R p [v]) :
    OwnRow R e 1 (w.setCell ⟨g, j, none⟩ v) base (.slice (some ⟨g, 0, none⟩) n cp) (ps.set j p) := by
  obtain ⟨inner, ⟨hlen, ho⟩, hr⟩ := h
  rcases ho with ⟨he, _⟩ | ⟨g', cap, cur, he, hb, hh, hn, hm, hs, ht⟩
  · simp at he
  · simp only [Value.slice.injEq, Option.some.injEq, Addr.mk.injEq, and_true] at he
    obtain ⟨rfl, rfl, rfl⟩ := he
    refine ⟨inner.set j v, ⟨by simpa using hlen, .inr ⟨g, cp, cur.setIfInBounds j v, by simp, hb, blk_set hh j v, by simpa using hn, hm, by simpa using hs, ?_⟩⟩, ?_⟩
    · rw [Array.toList_setIfInBounds, List.take_set, List.length_set, ht]
    · refine ⟨by simpa using hr.1, fun i q hq => ?_⟩
      have hcs : inner.length = ps.length := by simpa using hr.1
      rw [List.getElem?_set] at hq
      by_cases hij : j = i
      · subst hij
        simp only [if_true] at hq
        split at hq
        · rename_i hlt
          obtain rfl : p = q := by simpa using hq
          have : ((inner.set j v).drop (j * 1)).take 1 = [v] := by
            rw [Nat.mul_one, List.drop_eq_getElem_cons (by simp; omega)]
            simp
          rw [this]
          exact hv
        · simp at hq
      · rw [if_neg hij] at hq
        have h2 := hr.2 i q hq
        have : ((inner.set j v).drop (i * 1)).take 1 = (inner.drop (i * 1)).take 1 := by
          apply List.ext_getElem?
          intro m
          rw [List.getElem?_take, List.getElem?_take, List.getElem?_drop, List.getElem?_drop]
          by_cases hm : m < 1
          · rw [if_pos hm, if_pos hm, List.getElem?_set_ne (by omega)]
          · rw [if_neg hm, if_neg hm]
        rw [this]
        exact h2
/-- What a row of the call's own holds at a place. -/
theorem own_at {α : Type} {R : α → List Value → Prop} {e : TypeId} {w : World} {base g n cp : Nat} {ps : List α} (h : OwnRow R e 1 w base (.slice (some ⟨g, 0, none⟩) n cp) ps) (j : Nat) (hj : j < ps.length) :
    ∃ v, w.cell? ⟨g, j, none⟩ = some v ∧ R ps[j] [v] ∧ w.frozen? ⟨g, j, none⟩ = false ∧ n = ps.length ∧ n ≤ cp ∧ cp ≤ maxLen := by
  obtain ⟨inner, ⟨hlen, ho⟩, hr⟩ := h
  rcases ho with ⟨he, _⟩ | ⟨g', cap, cur, he, hb, hh, hn, hm, hs, ht⟩
  · simp at he
  · simp only [Value.slice.injEq, Option.some.injEq, Addr.mk.injEq, and_true] at he
    obtain ⟨rfl, rfl, rfl⟩ := he
    have hcs : inner.length = ps.length := by simpa using hr.1
    have h1 := hr.2 j _ (List.getElem?_eq_getElem hj)
    have hji : j < inner.length := by omega
    have h2 : (inner.drop (j * 1)).take 1 = [inner[j]] := by
      rw [Nat.mul_one, List.drop_eq_getElem_cons hji, List.take_succ_cons, List.take_zero]
    rw [h2] at h1
    have h3 : cur[j]? = some inner[j] := by
      have h4 : (cur.toList.take (ps.length * 1))[j]? = inner[j]? := by rw [ht]
      rw [List.getElem?_take, if_pos (by omega), List.getElem?_eq_getElem hji] at h4
      rw [← Array.getElem?_toList]
      exact h4
    exact ⟨inner[j], (blk_cell hh j).trans h3, h1, blk_frozen hh j, rfl, hn, hm⟩
/-- What a row that is read holds at a place: an element of two cells. -/
theorem reads_two {α : Type} {R : α → List Value → Prop} {w : World} {A : Option Addr} {n : Nat} {ps : List α} (h : ReadsRow R 2 w A n ps) (k : Nat) (hk : k < ps.length) :
    ∃ ad v0 v1, A = some ad ∧ R ps[k] [v0, v1] ∧ w.cell? (ad.add (k * 2)) = some v0 ∧ w.cell? ⟨(ad.add (k * 2)).block, (ad.add (k * 2)).off + 1, none⟩ = some v1 := by
  obtain ⟨ad, rfl, hc⟩ := h.2.2 (by have := h.1; omega)
  obtain ⟨c, hcl, hr, hcell⟩ := hc k _ (List.getElem?_eq_getElem hk)
  match c, hcl with
  | [v0, v1], _ => exact ⟨ad, v0, v1, rfl, hr, hcell 0 _ rfl, by rw [← add_field _ _ 1 (by omega)]; exact hcell 1 _ rfl⟩

theorem cut_low {P : Program} (t e : TypeId) (kl : IntKind) {i : TypeInfo} (ht : P.underlying t = some (.slice e)) (hi : P.info? e = some i) (size : Nat) (hsz : i.size = size) (A : Option Addr) (n c : Nat) (lo : Int) (h0 : 0 ≤ lo) (h1 : lo ≤ n) (hc : n ≤ c) :
    ∀ W : World, (Instr.slice t (.slice A n c) (some (.int kl lo)) none none).run P W = .ok (.slice (if c = lo.toNat then A else A.map (·.add (lo.toNat * size))) (n - lo.toNat) (c - lo.toNat)) W := by
  intro W
  have hel : P.elem t = e := by simp [Program.elem, ht]
  have hu : P.underlying t = some (.slice (P.elem t)) := by rw [hel]; exact ht
  rw [run_slice_l W t A n c hu kl lo h0 h1, hel]
  simp [sizeOf, typeInfo, hi, hsz, sliced, Result.andThen]
/-- xs[m:], of a slice that is read. -/
theorem Sl.cut {P : Program} {α : Type} (d : Kd α) (t e : TypeId) (ht : P.underlying t = some (.slice e)) (hinfo : (P.info? e).map (·.size) = some d.sz) (A : Option Addr) (c : Nat) (xs : List α) (m : Int) (h0 : 0 ≤ m) (hm : m ≤ xs.length) (hc : xs.length ≤ c) :
    ∃ A' : Option Addr, (∀ W : World, (Instr.slice t (.slice A xs.length c) (some (.int .i64 m)) none none).run P W = .ok (.slice A' (xs.drop m.toNat).length (c - m.toNat)) W) ∧
      (∀ (w : World) (ok : Nat → Prop), Sl d w ok (.slice A xs.length c) xs → Sl d w ok (.slice A' (xs.drop m.toNat).length (c - m.toNat)) (xs.drop m.toNat)) ∧ (xs.drop m.toNat).length ≤ c - m.toNat := by
  obtain ⟨i, hi, hsz⟩ := Option.map_eq_some_iff.1 hinfo
  have hl : (xs.drop m.toNat).length ≤ c - m.toNat := by rw [List.length_drop]; omega
  refine ⟨if c = m.toNat then A else A.map (·.add (m.toNat * d.sz)), fun W => ?_, fun w ok h => ⟨_, _, rfl, hl, ?_⟩, hl⟩
  · rw [cut_low t e .i64 ht hi d.sz hsz A xs.length c m h0 hm hc W, List.length_drop]
  · obtain ⟨A2, c2, he, _, hf⟩ := h
    simp only [Value.slice.injEq] at he
    obtain ⟨rfl, -, rfl⟩ := he
    exact Kd.F_cut hf (by omega) hc
/-- xs[:m], of a slice that is read; whatever the capacity. -/
theorem Sl.take {α : Type} {d : Kd α} {A : Option Addr} {n c c' : Nat} {xs : List α} {w : World} {ok : Nat → Prop} (h : Sl d w ok (.slice A n c) xs) (m : Nat) (hm : m ≤ xs.length) (hc : m ≤ c') : Sl d w ok (.slice A m c') (xs.take m) := by
  obtain ⟨A2, c2, he, _, hf⟩ := h
  simp only [Value.slice.injEq] at he
  obtain ⟨rfl, -, rfl⟩ := he
  have hl : (xs.take m).length = m := by rw [List.length_take]; omega
  exact ⟨A, c', by rw [hl], by omega, Kd.F_take hf hm⟩
/-- A slice value that reads as a list. -/
theorem Sl.form {α : Type} {d : Kd α} {v : Value} {xs : List α} {w : World} {ok : Nat → Prop} (h : Sl d w ok v xs) : ∃ A c, v = .slice A xs.length c ∧ xs.length ≤ c ∧ xs.length ≤ 9223372036854775807 := by
  obtain ⟨A, c, rfl, hl, hf⟩ := h
  exact ⟨A, c, rfl, hl, Kd.F_max hf⟩

end Go.Proofs.Ytigohpgdkpcdkaa.L
