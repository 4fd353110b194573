/- What a sector of the disk reads as. -/
import Derived.Test.YtigohpgdkpcdkaaDk2
import Derived.Laws.CopyOwn
set_option linter.unusedVariables false
set_option linter.unusedSimpArgs false
namespace Go.Proofs.Ytigohpgdkpcdkaa.Dk
open Go.RowKit Go.Proofs.YtigohpgdkpcdkaaW.PrintWords Go.Proofs.Ytigohpgdkpcdkaa.L

/-- Bytes copied onto others. -/
def over (b xs : List Int) : List Int := xs.take b.length ++ b.drop xs.length
theorem over_length (b xs : List Int) : (over b xs).length = b.length := by simp [over]; omega
def zs : List Int := List.replicate 256 0
theorem zs_length : zs.length = 256 := by unfold zs; exact List.length_replicate ..
def showStep (k : Nat) (o : List Int) (x : Nat × List Int) : List Int := if x.1 = k then over o x.2 else o
def showsP (plat : List (List Int)) (l : List (Nat × List Int)) (k : Nat) : List Int := l.foldl (showStep k) (over zs (plat[k]?.getD []))
theorem showsP_snoc (plat : List (List Int)) (l : List (Nat × List Int)) (x : Nat × List Int) (k : Nat) : showsP plat (l ++ [x]) k = if x.1 = k then over (showsP plat l k) x.2 else showsP plat l k := by
  unfold showsP; rw [List.foldl_append]; rfl
theorem showsP_length (plat : List (List Int)) (l : List (Nat × List Int)) (k : Nat) : (showsP plat l k).length = 256 := by
  suffices h : ∀ (l : List (Nat × List Int)) (o : List Int), o.length = 256 → (l.foldl (showStep k) o).length = 256 from h l _ (by rw [over_length]; exact zs_length)
  intro l
  induction l with
  | nil => exact fun o h => h
  | cons x l ih => intro o h; rw [List.foldl_cons]; apply ih; unfold showStep; split <;> simp [over_length, h]
theorem info5 : (Try.prog.info? 5).map (fun i => (i.zero, i.size, i.bytes)) = some (some (.int .u8 0), 1, 1) := by kernel_rfl
theorem size5 : (Try.prog.info? 5).map (·.size) = some 1 := by kernel_rfl

/-- A block of bytes, whole. -/
def Bk (w : World) (g : Nat) (xs : List Int) : Prop := w.heap[g]? = some (.cells (nums .u8 xs).toArray 5 (0, 0))
theorem nums_take (k : IntKind) (xs : List Int) (n : Nat) : (nums k xs).take n = nums k (xs.take n) := by simp [nums]
theorem nums_drop (k : IntKind) (xs : List Int) (n : Nat) : (nums k xs).drop n = nums k (xs.drop n) := by simp [nums]
theorem splice_over (b xs : List Int) : splice (nums .u8 b) 0 (nums .u8 (xs.take b.length)) = nums .u8 (over b xs) := by
  unfold splice over
  rw [nums_append, nums_length, nums_drop, List.take_zero, List.nil_append, Nat.zero_add]
  congr 2
  rcases Nat.le_total xs.length b.length with h | h
  · rw [List.take_of_length_le h]
  · rw [List.length_take, Nat.min_eq_left h, List.drop_of_length_le (Nat.le_refl _), List.drop_of_length_le h]
theorem made_bytes : madeCells #[.int .u8 0] 256 = (nums .u8 zs).toArray := by
  apply Array.toList_inj.1
  rw [toList_madeCells_one]
  unfold nums zs
  rw [List.map_replicate]
/-- Bytes copied onto a block of bytes of the call's own. -/
theorem wpList_copy_bk {w : World} {ops : Array Oper} {rest : List Oper} {o : Oper} {a : Act} {Q : Exit → Act → World → Prop} (hgd : o.guard = none) (d s : Operand)
    (ho : o.op = .call { callee := .builtin .copy, args := #[d, s], argTypes := #[22, 22] }) (g dn dc : Nat) (sp : Option Addr) (sc : Nat) (b xs : List Int)
    (hd : a.eval d = .slice (some ⟨g, 0, none⟩) dn dc) (hs : a.eval s = .slice sp xs.length sc) (hbn : b.length = dn) (hk : Hid (Bk w g b)) (hx : Hid ((Kd.int .u8).C w sp xs.length xs)) (B : Nat) (w0 : World) (hb : Below B w0 w) (hBg : B ≤ g)
    (h : ∀ w', Hid (Bk w' g (over b xs)) → Below B w0 w' → wpList Try.prog ops Q rest (a.put o.dst (goInt (nums .u8 (xs.take b.length)).length)) w') :
    wpList Try.prog ops Q (o :: rest) a w := by
  refine wpList_copy_splice hgd d s _ _ ho 5 Try.underlying22 size5 (some ⟨g, 0, none⟩) sp dn dc xs.length sc hd hs g 0 (nums .u8 b) 5 hk.out (nums .u8 (xs.take b.length))
    (by rw [nums_length, List.length_take, hbn, Nat.min_comm]) (fun hpos => ⟨rfl, ?_⟩) (by rw [nums_length, nums_length, List.length_take]; omega) (fun v hv => ?_) B w0 hb hBg (fun w' hw hb' => h w' ?_ hb')
  · rw [nums_length, List.length_take] at hpos
    obtain ⟨ad, e, hc⟩ := hx.out.2.2 (by omega)
    refine ⟨ad, e, fun j v hj => ?_⟩
    rw [← nums_take, List.getElem?_take] at hj
    split at hj
    · rw [nums, List.getElem?_map] at hj
      obtain ⟨y, hy, rfl⟩ := Option.map_eq_some_iff.1 hj
      obtain ⟨c, hcl, hr, hcell⟩ := hc j y hy
      obtain rfl : c = [.int .u8 y] := hr
      have := hcell 0 _ rfl
      rwa [show (Kd.int .u8).sz = 1 from rfl, Nat.mul_one, Nat.add_zero] at this
    · simp at hj
  · simp only [nums, List.mem_map] at hv
    obtain ⟨y, _, rfl⟩ := hv
    rfl
  · rw [splice_over] at hw
    exact hw
set_option maxHeartbeats 1000000 in
set_option maxRecDepth 100000 in
theorem shows_any (b k n cp m c : Nat) (pv : Option Addr) (A : Option Addr) (ok : Nat → Prop) (plat : List (List Int)) (l : List (Nat × List Int)) (w : World)
    (h0 : w.cell? ⟨b, 0, none⟩ = some (.slice pv n cp)) (h4 : w.cell? ⟨b, 4, none⟩ = some (.slice A m c))
    (hP : OwnRow (PlR w ok) 22 1 w 0 (.slice pv n cp) plat) (hL : ReadsRow (PutR w ok) 2 w A m l) (hn : plat.length = n) (hk : k < n) :
    Calls Try.prog 66 #[.pointer (some ⟨b, 0, none⟩), .int .i64 k] w fun e w' =>
      e = .returned (.slice (some ⟨w.heap.size, 0, none⟩) 256 256) ∧ Below w.heap.size w w' ∧ Bk w' w.heap.size (showsP plat l k) := by
  have HP := Lib.hid hP
  have HL := Lib.hid hL
  have HN := Lib.hid hn
  have hmk : ∀ W : World, (Instr.makeSlice 22 (.int .i64 256) (.int .i64 256)).run Try.prog W = .ok (.slice (some ⟨W.heap.size, 0, none⟩) 256 256) (W.alloc (.cells (madeCells #[.int .u8 0] 256) 5)) := fun W =>
    run_make_row' (P := Try.prog) 22 5 (.int .u8 0) 1 Try.underlying22 info5 rfl .i64 .i64 256 (by omega) (by omega) W
  obtain ⟨g, rfl⟩ : ∃ g, pv = some ⟨g, 0, none⟩ := by
    obtain ⟨inner, ⟨_, ho⟩, _⟩ := hP
    rcases ho with ⟨he, h0⟩ | ⟨g, _, _, he, _⟩
    · omega
    · simp only [Value.slice.injEq] at he; exact ⟨g, he.1⟩
  obtain ⟨x, hx⟩ : ∃ x, plat[k]? = some x := ⟨_, List.getElem?_eq_getElem (by omega)⟩
  obtain ⟨u, hu, hr, -, -, -, -⟩ := own_at hP k (by omega)
  rw [(List.getElem?_eq_some_iff.1 hx).2] at hr
  obtain ⟨v, hv, A1, c1, hv1, hc1, hf1⟩ := hr
  simp only [List.cons.injEq, and_true] at hv
  subst hv
  subst hv1
  have HX := Lib.hid hx
  clear hx
  have hlm : m ≤ 9223372036854775807 := hL.2.1
  clear hP hL hn
  have HF1 := Lib.hid hf1
  have HU := Lib.hid hu
  clear hf1
  have hbl : b < w.heap.size := World.block_lt_of_cell? w _ h0
  have hgl : g < w.heap.size := World.block_lt_of_cell? w _ hu
  go_enter Try.func66, Try.ntmps66
  go_wp2_with (with_reducible refine wpList_copy_bk rfl (.tmp 9) (.tmp 16) rfl w.heap.size 256 256 A1 c1 zs x ?hd ?hs zs_length ?hk ?hx w.heap.size w ?hb (Nat.le_refl _) ?_)
  try (case hd => rfl)
  try (case hs => rfl)
  case hk => exact (show Bk _ _ _ by unfold Bk; rw [blk_new, made_bytes])
  case hx => exact Kd.C_below (Kd.F_now HF1.out) (below_alloc (Below.refl _ _) _)
  case hb => exact below_alloc (Below.refl _ _) _
  intro w1 hk1 hb1
  have hd4 : w1.cell? ⟨b, 4, none⟩ = some (.slice A m c) := (hb1.cell hbl).trans h4
  have HB1 := Lib.hid hb1
  clear h0 h4 hu hb1
  go_wp2
  go_loopg [23] l.length (fun r i wr => ∃ j : Nat, i = .int .i64 (j : Int) ∧ Hid (j + r = l.length ∧ Below w.heap.size w wr ∧ Bk wr w.heap.size (showsP plat (l.take j) k)))
  case atStart => exact ⟨0, rfl, by simp, HB1.out, by rw [List.take_zero, showsP, HX.out]; exact hk1.out⟩
  case round =>
    obtain ⟨j, rfl, HI⟩ := hrel
    obtain ⟨hjm, hkp, hO⟩ := HI.out
    have HKP := Lib.hid hkp
    have HO := Lib.hid hO
    have HKM := Lib.hid hjm
    have hml := HL.out.1
    have hsz : w.heap.size < wr.heap.size := blk_lt hO
    clear hkp hO hjm HI
    by_cases hlt : j < l.length
    · obtain ⟨ad, v0, v1, rfl, ⟨v, hv, A2, c2, hv2, hc2, hf2⟩, hq0, hq1⟩ := reads_two HL.out j hlt
      simp only [List.cons.injEq, and_true] at hv
      obtain ⟨rfl, rfl⟩ := hv
      subst hv2
      have hd0 := cell_kept hq0 (Kept.of_below (HKP.out) (fun _ => False)) id
      have hd1 := cell_kept hq1 (Kept.of_below (HKP.out) (fun _ => False)) id
      have hal := World.block_lt_of_cell? wr _ hd0
      have hal' := World.block_lt_of_cell? wr _ hd1
      have HF2 := Lib.hid hf2
      clear hq0 hq1 hf2
      have hjlt : j < m := by omega
      have HML := Lib.hid hml
      clear hml
      by_cases he : l[j].1 = k
      · have HE := Lib.hid he
        have heq : ((l[j].1 : Int) == (k : Int)) = true := by simp [he]
        clear he
        go_wp2_with (with_reducible refine wpList_copy_bk rfl (.tmp 31) (.tmp 33) rfl w.heap.size 256 256 A2 c2 (showsP plat (l.take j) k) l[j].2 ?hd ?hs (showsP_length _ _ _) ?hk ?hx w.heap.size w ?hb (Nat.le_refl _) ?_)
        try (case hd => rfl)
        try (case hs => rfl)
        case hk => exact blk_alloc HO.out _
        case hx => exact Kd.C_below (Kd.F_now HF2.out) (below_alloc (HKP.out) _)
        case hb => exact below_alloc HKP.out _
        intro w2 hk2 hb2
        go_wp2
        go_roundg (l.length - (j + 1))
        case measure => have := HKM.out; have := HML.out; omega
        case rel =>
          refine ⟨j + 1, by go_num, by have := HML.out; omega, hb2, ?_⟩
          rw [List.take_succ_eq_append_getElem (by have := HML.out; omega), showsP_snoc, if_pos HE.out]
          exact hk2.out
      · have HE := Lib.hid he
        have heq : ((l[j].1 : Int) == (k : Int)) = false := by simp; omega
        clear he
        go_wp2
        go_roundg (l.length - (j + 1))
        case measure => have := HKM.out; have := HML.out; omega
        case rel =>
          refine ⟨j + 1, by go_num, by have := HML.out; omega, below_alloc HKP.out _, ?_⟩
          rw [List.take_succ_eq_append_getElem (by have := HML.out; omega), showsP_snoc, if_neg HE.out]
          exact blk_alloc HO.out _
    · have hjm : ¬ j < m := by omega
      have hj : j = l.length := by have := HKM.out; omega
      have HJ := Lib.hid hj
      clear hj hml
      go_wp2
      go_ret
      refine ⟨rfl, HKP.out, ?_⟩
      have := HO.out
      rw [HJ.out, List.take_length] at this
      exact this
end Go.Proofs.Ytigohpgdkpcdkaa.Dk
