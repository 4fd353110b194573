/- The law DiskFalls: the plain side. -/
import Derived.Test.YtigohpgdkpcdkaaDk12
set_option linter.unusedVariables false
set_option linter.unusedSimpArgs false
namespace Go.Proofs.Ytigohpgdkpcdkaa.Dk
open Go.RowKit Go.Proofs.YtigohpgdkpcdkaaW.PrintWords Go.Proofs.Ytigohpgdkpcdkaa.L

/-- A sector with one byte at its head. -/
def sec1 (x : Int) : List Int := padP [x]
theorem pad1 (x : Int) : padP [x] = [x] ++ List.replicate 255 0 := rfl
theorem sec1_length (x : Int) : (sec1 x).length = 256 := by unfold sec1; rw [pad1, List.length_append, List.length_replicate]; rfl
theorem sec1_head (x : Int) : (sec1 x)[0]? = some x := by unfold sec1; rw [pad1]; rfl
theorem writeL_no (D : DK) (k : Nat) (s : List Int) (h : (D.set && D.total + 1 == D.count) = false) : writeL D k [s] = ({ D with since := D.since ++ [(k, s)], total := D.total + 1 }, 0) := by
  unfold writeL
  simp only [h]
  rfl
theorem writeL_yes (D : DK) (k : Nat) (s : List Int) (h : (D.set && D.total + 1 == D.count) = true) : writeL D k [s] = ({ D with plat := layP D.plat (crashL D.stays (D.since ++ [(k, s)])), since := [], total := D.total + 1, fallen := true }, 9) := by
  unfold writeL
  simp only [h]
  rfl
def putM (n j : Nat) : Nat × List Int := (j % n, sec1 ((j : Int) + 1))
def putsM (n : Nat) : Nat → List (Nat × List Int)
  | 0 => []
  | j + 1 => putsM n j ++ [putM n j]
theorem putsM_length (n j : Nat) : (putsM n j).length = j := by
  induction j with
  | zero => rfl
  | succ j ih => simp [putsM, ih]
theorem putsM_mem (n j : Nat) (hn : 0 < n) : ∀ x ∈ putsM n j, x.1 < n ∧ x.2.length = 256 := by
  induction j with
  | zero => simp [putsM]
  | succ j ih =>
    intro x hx
    rcases List.mem_append.1 hx with hx | hx
    · exact ih x hx
    · obtain rfl := List.mem_singleton.1 hx
      exact ⟨Nat.mod_lt _ hn, sec1_length _⟩
def DD (n : Nat) (s : Bool) (c : Int) (st : List Int) (j : Nat) : DK := { plat := List.replicate n [], since := putsM n j, total := j, fallen := false, set := s, count := c, stays := st }
theorem sects_one (x : Int) : sects 1 (padP [x]) = [sec1 x] := by
  unfold sects sects
  rw [List.take_of_length_le (by rw [show (padP [x]).length = 256 from sec1_length x]; exact Nat.le_refl _)]
  rfl
theorem pad_one (x : Int) : (padP [x]).length / 256 = 1 := by rw [show (padP [x]).length = 256 from sec1_length x]
theorem write_one_eq (D : DK) (n j : Nat) (x : Int) (hf : D.fallen = false) (hl : D.plat.length = n) (hn : 0 < n) : writeP D ((j % n : Nat) : Int) [x] = writeL D (j % n) [sec1 x] := by
  have hm := Nat.mod_lt j hn
  unfold writeP
  rw [hf, if_neg (by decide), pad_one, if_neg (by omega), sects_one, Int.toNat_natCast]
theorem write_DD (n : Nat) (s : Bool) (c : Int) (st : List Int) (j : Nat) (hn : 0 < n) (h : (s && (j : Int) + 1 == c) = false) : writeP (DD n s c st j) ((j % n : Nat) : Int) [(j : Int) + 1] = (DD n s c st (j + 1), 0) := by
  rw [write_one_eq _ n j _ rfl List.length_replicate hn, writeL_no _ _ _ h]
  rfl
def mask7 : List Int := [255, 255, 255, 255, 255, 255, 255]
theorem bits_all : ∀ j, j < 56 → bitB mask7 j = true := by decide +kernel
theorem crashL_all (l : List (Nat × List Int)) (h : l.length ≤ 56) : crashL mask7 l = l := by
  unfold crashL
  rw [List.filter_eq_self.2, List.zipIdx_map_fst]
  intro p hp
  exact bits_all _ (by have := List.snd_lt_of_mem_zipIdx hp; omega)
theorem crash_DD (n : Nat) (c : Int) (j : Nat) (hn : 0 < n) (hj : j ≤ 50) (h : (j : Int) + 1 = c) : writeP (DD n true c mask7 j) ((j % n : Nat) : Int) [(j : Int) + 1] =
    ({ DD n true c mask7 (j + 1) with plat := layP (List.replicate n []) (putsM n (j + 1)), since := [], fallen := true }, 9) := by
  rw [write_one_eq _ n j _ rfl List.length_replicate hn, writeL_yes _ _ _ (by show (true && (j : Int) + 1 == c) = true; rw [h]; simp)]
  have e : crashL mask7 (putsM n j ++ [(j % n, sec1 ((j : Int) + 1))]) = putsM n (j + 1) := by
    rw [show putsM n j ++ [(j % n, sec1 ((j : Int) + 1))] = putsM n (j + 1) from rfl]
    exact crashL_all _ (by rw [putsM_length]; omega)
  show (({ plat := layP (List.replicate n []) (crashL mask7 (putsM n j ++ [(j % n, sec1 ((j : Int) + 1))])), since := [], total := _, fallen := true, set := true, count := c, stays := mask7 } : DK), (9 : Int)) = _
  rw [e]
  rfl
/-- Full sectors: as they lie on the platter, so they read behind it. -/
theorem shows_lay (plat : List (List Int)) (l : List (Nat × List Int)) (hl : ∀ x ∈ l, x.1 < plat.length ∧ x.2.length = 256) (k : Nat) (hk : k < plat.length) : showsP (layP plat l) [] k = showsP plat l k := by
  show over zs ((layP plat l)[k]?.getD []) = showsP plat l k
  unfold showsP
  generalize ho : over zs (plat[k]?.getD []) = o
  induction l generalizing plat o with
  | nil => exact ho
  | cons x l ih =>
    obtain ⟨h1, h2⟩ := hl x List.mem_cons_self
    have hol : o.length = 256 := by rw [← ho, over_length, zs_length]
    rw [List.foldl_cons]
    refine ih (plat.set x.1 x.2) (fun y hy => ?_) (by simpa using hk) _ ?_
    · obtain ⟨h3, h4⟩ := hl y (List.mem_cons_of_mem _ hy)
      exact ⟨by simpa using h3, h4⟩
    · unfold showStep
      rw [List.getElem?_set]
      by_cases h : x.1 = k
      · rw [if_pos h, if_pos h1, if_pos h, Option.getD_some, over_full _ _ (by rw [h2, zs_length]), over_full _ _ (by rw [h2, hol])]
      · rw [if_neg h, if_neg h]
        exact ho
theorem shows_M (n : Nat) (plat : List (List Int)) (hn : 0 < n) : ∀ m i, i < m → m ≤ i + n → showsP plat (putsM n m) (i % n) = sec1 ((i : Int) + 1) := by
  intro m
  induction m with
  | zero => intro i h; omega
  | succ m ih =>
    intro i h1 h2
    rw [putsM, showsP_snoc]
    by_cases h : i = m
    · subst h
      rw [if_pos (show (putM n i).1 = i % n from rfl), over_full _ _ (by rw [showsP_length]; exact sec1_length _)]
      rfl
    · have hne : ¬ (putM n m).1 = i % n := by
        show ¬ m % n = i % n
        intro he
        have h3 : (m - i) % n = 0 := Nat.sub_mod_eq_zero_of_mod_eq he
        have h4 : (m - i) % n = m - i := Nat.mod_eq_of_lt (by omega)
        omega
      rw [if_neg hne]
      exact ih i (by omega) (by omega)
end Go.Proofs.Ytigohpgdkpcdkaa.Dk
