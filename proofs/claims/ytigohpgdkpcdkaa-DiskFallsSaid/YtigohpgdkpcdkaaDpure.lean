/- The plain side of writing without a trap. -/
import Derived.Test.YtigohpgdkpcdkaaDk10
set_option linter.unusedVariables false
set_option linter.unusedSimpArgs false
namespace Go.Proofs.Ytigohpgdkpcdkaa.Dk
open Go.RowKit Go.Proofs.YtigohpgdkpcdkaaW.PrintWords Go.Proofs.Ytigohpgdkpcdkaa.L

def putsL : Nat → List (List Int) → List (Nat × List Int)
  | _, [] => []
  | k, s :: r => (k, s) :: putsL (k + 1) r
theorem putsL_length (k : Nat) (ss : List (List Int)) : (putsL k ss).length = ss.length := by
  induction ss generalizing k with
  | nil => rfl
  | cons s r ih => simp [putsL, ih]
theorem writeL_plain (D : DK) (k : Nat) (ss : List (List Int)) (h : D.set = false) : writeL D k ss = ({ D with since := D.since ++ putsL k ss, total := D.total + ss.length }, 0) := by
  obtain ⟨pl, si, tt, fa, se, co, st⟩ := D
  obtain rfl : se = false := h
  induction ss generalizing k si tt with
  | nil => simp [writeL, putsL]
  | cons s r ih =>
    unfold writeL
    simp only [Bool.false_and]
    rw [if_neg (by decide), ih]
    simp [putsL]
    omega
/-- Writing without a trap: what comes of it. -/
theorem writeP_plain (D : DK) (k : Int) (xs : List Int) (h : D.set = false) (hf : D.fallen = false) :
    writeP D k xs = if k < 0 ∨ (D.plat.length : Int) < k ∨ (D.plat.length : Int) - k < ((padP xs).length / 256 : Nat) then (D, 1)
      else ({ D with since := D.since ++ putsL k.toNat (sects ((padP xs).length / 256) (padP xs)), total := D.total + ((padP xs).length / 256 : Nat) }, 0) := by
  obtain ⟨pl, si, tt, fa, se, co, st⟩ := D
  obtain rfl : se = false := h
  obtain rfl : fa = false := hf
  unfold writeP
  rw [if_neg (by simp)]
  split
  · rfl
  · rw [writeL_plain _ _ _ rfl, sects_length]
theorem padP_div (xs : List Int) : (padP xs).length / 256 = (xs.length + 255) / 256 := by
  unfold padP
  simp only [List.length_append, List.length_replicate]
  omega
/-- Copying a sector's bytes out of the middle of bytes. -/
theorem sect_at (n : Nat) (xs : List Int) (h : xs.length = 256 * n) (i : Nat) (hi : i < n) : (sects n xs)[i]? = some ((xs.drop (256 * i)).take 256) := by
  induction n generalizing xs i with
  | zero => omega
  | succ n ih =>
    cases i with
    | zero => simp [sects]
    | succ i =>
      rw [sects, List.getElem?_cons_succ, ih _ (by rw [List.length_drop]; omega) i (by omega), List.drop_drop]
      congr 3
      omega
theorem over_zs (xs : List Int) (m : Nat) (hm : m < xs.length) : over zs (xs.drop m) = ((padP xs).drop m).take 256 ∨ m % 256 ≠ 0 := by
  by_cases hmod : m % 256 = 0
  · left
    unfold over padP
    rw [zs_length]
    apply List.ext_getElem?
    intro j
    have hL := (padP_length xs)
    unfold padP at hL
    simp only [List.length_append, List.length_replicate] at hL
    by_cases hj : j < 256
    · have hR : (((xs ++ List.replicate ((256 - xs.length % 256) % 256) 0).drop m).take 256)[j]? = (xs ++ List.replicate ((256 - xs.length % 256) % 256) 0)[m + j]? := by
        rw [List.getElem?_take, if_pos hj, List.getElem?_drop]
      have hlt : ((xs.drop m).take 256).length = min 256 (xs.length - m) := by rw [List.length_take, List.length_drop]
      rw [hR]
      by_cases h2 : m + j < xs.length
      · have hA : (xs ++ List.replicate ((256 - xs.length % 256) % 256) (0 : Int))[m + j]? = xs[m + j]? := List.getElem?_append_left h2
        rw [hA, List.getElem?_append_left (by rw [hlt]; omega), List.getElem?_take, if_pos hj, List.getElem?_drop]
      · have hA : (xs ++ List.replicate ((256 - xs.length % 256) % 256) (0 : Int))[m + j]? = some 0 := by
          rw [List.getElem?_append_right (by omega), List.getElem?_replicate, if_pos (by omega)]
        rw [hA, List.getElem?_append_right (by rw [hlt]; omega), hlt]
        unfold zs
        rw [List.drop_replicate, List.getElem?_replicate, List.length_drop, if_pos (by omega)]
    · rw [List.getElem?_eq_none (by simp [zs_length]; omega), List.getElem?_eq_none (by simp; omega)]
  · exact .inr hmod
theorem over_zs' (xs : List Int) (q : Nat) (hm : 256 * q < xs.length) : over zs (xs.drop (256 * q)) = ((padP xs).drop (256 * q)).take 256 := by
  rcases over_zs xs (256 * q) hm with h | h
  · exact h
  · omega
theorem over_full (b xs : List Int) (h : xs.length = b.length) : over b xs = xs := by
  unfold over
  rw [← h, List.take_length, h, List.drop_of_length_le (Nat.le_refl _), List.append_nil]
theorem over_nil (b : List Int) : over b [] = b := by simp [over]
/-- What a sector reads as behind puts that rise. -/
theorem shows_puts (plat : List (List Int)) (k : Nat) (ss : List (List Int)) (h : ∀ s ∈ ss, s.length = 256) (i : Nat) :
    showsP plat (putsL k ss) i = if k ≤ i ∧ i < k + ss.length then (ss[i - k]?.getD []) else over zs (plat[i]?.getD []) := by
  unfold showsP
  suffices H : ∀ (ss : List (List Int)) (k : Nat) (o : List Int), o.length = 256 → (∀ s ∈ ss, s.length = 256) → (putsL k ss).foldl (showStep i) o = if k ≤ i ∧ i < k + ss.length then (ss[i - k]?.getD []) else o from
    H ss k _ (by rw [over_length, zs_length]) h
  intro ss
  induction ss with
  | nil => intro k o _ _; simp [putsL]; omega
  | cons s r ih =>
    intro k o ho hs
    rw [putsL, List.foldl_cons]
    have h1 : (showStep i o (k, s)).length = 256 := by unfold showStep; split <;> simp [over_length, ho]
    rw [ih (k + 1) _ h1 (fun x hx => hs x (List.mem_cons_of_mem _ hx))]
    simp only [List.length_cons]
    by_cases hki : k = i
    · subst hki
      rw [if_neg (by omega), if_pos (by omega), Nat.sub_self]
      unfold showStep
      rw [if_pos rfl, over_full _ _ ((hs s List.mem_cons_self).trans ho.symm)]
      rfl
    · have hst : showStep i o (k, s) = o := by unfold showStep; rw [if_neg hki]
      rw [hst]
      by_cases hc : k + 1 ≤ i ∧ i < k + 1 + r.length
      · rw [if_pos hc, if_pos (by omega), show i - k = (i - (k + 1)) + 1 by omega, List.getElem?_cons_succ]
      · rw [if_neg hc, if_neg (by omega)]
theorem sl_now {α : Type} {d : Kd α} {w : World} {ok : Nat → Prop} {A : Option Addr} {n c : Nat} {xs : List α} (h : Sl d w ok (.slice A n c) xs) : d.C w A n xs := by
  obtain ⟨A2, c2, he, _, hf⟩ := h
  simp only [Value.slice.injEq] at he
  obtain ⟨rfl, rfl, rfl⟩ := he
  exact Kd.F_now hf
theorem bytes_same' (A B : Option Addr) (n c d : Nat) (xs : List Int) (w : World) (hn : xs.length = n) (ha : (Kd.int .u8).C w A xs.length xs) (hb : (Kd.int .u8).C w B xs.length xs) :
    Calls Try.prog 19 #[.slice A n c, .slice B n d] w fun e w' => e = .returned (.bool true) ∧ w = w' := by
  subst hn
  exact bytes_same A B c d xs w ha hb
theorem Bk.C {w : World} {g : Nat} {xs : List Int} (h : Bk w g xs) (hl : xs.length ≤ 1000000) : (Kd.int .u8).C w (some ⟨g, 0, none⟩) xs.length xs := by
  obtain ⟨A, c, he, _, hf⟩ := h.By (ok := fun _ => True) hl trivial
  simp only [Value.slice.injEq] at he
  obtain ⟨rfl, -, -⟩ := he
  exact Kd.F_now hf
theorem parts_at {ls : List (List Int)} {D1 : DK} {m k0 : Nat} {bs : List Int} (hls : ls = allP D1) (hs : D1.since = putsL k0 (sects ((bs.length + 255) / 256) (padP bs))) (hp : D1.plat = List.replicate m []) (hl : D1.plat.length = m) :
    Hid (∀ i, i < m → ls[i]? = some (if k0 ≤ i ∧ i < k0 + (bs.length + 255) / 256 then over zs (bs.drop (256 * (i - k0))) else zs)) := by
  have key : ∀ i, i < m → ls[i]? = some (if k0 ≤ i ∧ i < k0 + (bs.length + 255) / 256 then over zs (bs.drop (256 * (i - k0))) else zs) := by
    intro i hi
    have hpl := padP_length bs
    have hdv := padP_div bs
    have hflat := (sects_flat ((bs.length + 255) / 256) (padP bs) (by omega)).2
    rw [hls, allP, List.getElem?_map, List.getElem?_range (by omega), Option.map_some, hs, shows_puts _ _ _ hflat, sects_length]
    by_cases hc : k0 ≤ i ∧ i < k0 + (bs.length + 255) / 256
    · rw [if_pos hc, if_pos hc, sect_at _ _ (by omega) _ (by omega), over_zs' bs (i - k0) (by omega)]
      rfl
    · rw [if_neg hc, if_neg hc, hp, List.getElem?_replicate, if_pos hi]
      rw [Option.getD_some, over_nil]
  exact key
end Go.Proofs.Ytigohpgdkpcdkaa.Dk
