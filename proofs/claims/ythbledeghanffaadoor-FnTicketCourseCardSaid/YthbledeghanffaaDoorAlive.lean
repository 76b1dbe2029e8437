/- The fixed answer that every law of laws.go checks: ItemText of two items. -/
import Derived.Test.YthbledeghanffaaDoorShelf
import Derived.Test.YthbledeghanffaaDoorMem
import Derived.ProofKit
set_option linter.unusedVariables false
set_option linter.unusedSimpArgs false
namespace Go.Proofs.YthbledeghanffaaDoor
open Go.ChangeShapes Go.WideShapes Go.ChangeAt Go.RowKit

set_option maxHeartbeats 1000000 in
theorem formatInt_c (i : Nat) (h : i < 10) (w : World) : Calls Tryd.prog 79 #[.int .i64 i, .int .i64 10] w fun e w' => e = .returned (.string ⟨(Lib.decDigits i).toArray⟩) ∧ w = w' := by
  have h1 : (0 : Int) ≤ (i : Int) := by omega
  have h2 : (i : Int) < 100 := by omega
  have h3 : decide (i < 100) = true := decide_eq_true (by omega)
  go_enter Tryd.func79, Tryd.ntmps79
  go_wp2_with (go_at_call 80; refine (smallNum i (by omega) _).mono ?_; rintro e w' ⟨rfl, rfl⟩)
  go_ret
  exact ⟨rfl, rfl⟩
set_option maxHeartbeats 1000000 in
theorem itoa_c (i : Nat) (h : i < 10) (w : World) : Calls Tryd.prog 71 #[.int .i64 i] w fun e w' => e = .returned (.string ⟨(Lib.decDigits i).toArray⟩) ∧ w = w' := by
  have h1 : Calls Tryd.prog 77 #[.int .i64 i] w fun e w' => e = .returned (.string ⟨(Lib.decDigits i).toArray⟩) ∧ w = w' := by
    go_enter Tryd.func77, Tryd.ntmps77
    go_wp2_with (go_at_call 79; refine (formatInt_c i h _).mono ?_; rintro e w' ⟨rfl, rfl⟩)
    go_ret
    exact ⟨rfl, rfl⟩
  have H1 := Lib.hid h1
  clear h1
  go_enter Tryd.func71, Tryd.ntmps71
  go_wp2_with (go_at_call 77; refine H1.out.mono ?_; rintro e w' ⟨rfl, rfl⟩)
  go_ret
  exact ⟨rfl, rfl⟩
theorem dig_c (i : Nat) (h : i < 10) : Lib.decDigits i = [UInt8.ofNat (48 + i)] := by rw [Lib.decDigits, dif_pos h]
theorem itoa4 (w : World) : Calls Tryd.prog 71 #[.int .i64 4] w fun e w' => e = .returned (.string ⟨#[52]⟩) ∧ w = w' := by
  have := itoa_c 4 (by omega) w; rw [dig_c 4 (by omega)] at this; exact this
theorem itoa0 (w : World) : Calls Tryd.prog 71 #[.int .i64 0] w fun e w' => e = .returned (.string ⟨#[48]⟩) ∧ w = w' := by
  have := itoa_c 0 (by omega) w; rw [dig_c 0 (by omega)] at this; exact this
theorem itoa2 (w : World) : Calls Tryd.prog 71 #[.int .i64 2] w fun e w' => e = .returned (.string ⟨#[50]⟩) ∧ w = w' := by
  have := itoa_c 2 (by omega) w; rw [dig_c 2 (by omega)] at this; exact this
theorem itoa3 (w : World) : Calls Tryd.prog 71 #[.int .i64 3] w fun e w' => e = .returned (.string ⟨#[51]⟩) ∧ w = w' := by
  have := itoa_c 3 (by omega) w; rw [dig_c 3 (by omega)] at this; exact this

set_option maxHeartbeats 1000000 in
theorem partsValid_c (pb : Nat) (w : World) (h0 : w.cell? ⟨pb, 0, none⟩ = some (.int .i64 0)) (h1 : w.cell? ⟨pb, 1, none⟩ = some (.int .i64 2)) (hb : pb < w.heap.size) :
    Calls Tryd.prog 75 #[.slice (some ⟨pb, 0, none⟩) 1 1, .int .i64 5] w fun e w' => e = .returned (.bool true) ∧ Below w.heap.size w w' := by
  go_enter Tryd.func75, Tryd.ntmps75
  go_wp2
  refine wp_loop_rounds 2 ?_
  rw [rounds_succ]
  go_wp2
  rw [rounds_succ]
  go_wp2
  go_ret
  exact ⟨rfl, below_al (Below.refl _ _) _⟩
set_option maxHeartbeats 1000000 in
theorem itemValid_c (pb : Nat) (w : World) (h0 : w.cell? ⟨pb, 0, none⟩ = some (.int .i64 0)) (h1 : w.cell? ⟨pb, 1, none⟩ = some (.int .i64 2)) (hb : pb < w.heap.size) :
    Calls Tryd.prog 69 #[.agg #[.int .i64 4, .slice (some ⟨pb, 0, none⟩) 1 1, .int .i64 3], .int .i64 5] w fun e w' => e = .returned (.bool true) ∧ Below w.heap.size w w' := by
  have H := Lib.hid (fun o => partsValid_c pb (w.alloc o) (by rw [World.cell?_alloc_lt _ _ _ hb]; exact h0) (by rw [World.cell?_alloc_lt _ _ _ hb]; exact h1) (by simp; omega))
  go_enter Tryd.func69, Tryd.ntmps69
  go_wp2_with (go_at_call 75; refine (H.out _).mono ?_; rintro e w1 ⟨rfl, b1⟩)
  go_ret
  exact ⟨rfl, below_step (below_al (Below.refl _ _) _) b1⟩
set_option maxHeartbeats 1000000 in
theorem itemText_no (w : World) :
    Calls Tryd.prog 57 #[.agg #[.int .i64 (-1), .slice none 0 0, .int .i64 0]] w fun e w' => e = .returned (.string ⟨#[]⟩) ∧ Below w.heap.size w w' := by
  have hv : ∀ W : World, Calls Tryd.prog 69 #[.agg #[.int .i64 (-1), .slice none 0 0, .int .i64 0], .int .i64 5] W fun e w' => e = .returned (.bool false) ∧ Below W.heap.size W w' := by
    intro W
    go_enter Tryd.func69, Tryd.ntmps69
    go_wp2
    go_ret
    exact ⟨rfl, below_al (Below.refl _ _) _⟩
  have HV := Lib.hid hv
  clear hv
  go_enter Tryd.func57, Tryd.ntmps57
  go_wp2_with (go_at_call 69; refine (HV.out _).mono ?_; rintro e w1 ⟨rfl, b1⟩)
  go_ret
  exact ⟨rfl, below_step (below_al (Below.refl _ _) _) b1⟩
theorem kept_blk {w w' : World} {b g : Nat} {t : TypeId} {cs : List Value} (k : Lib.OthersKept 5 (some b) w w') (h : Blk w g t cs) (hb : g ≠ b) (ht : t ≠ 5) : Blk w' g t cs :=
  k g _ h (fun e => hb (Option.some.inj e)) (fun c fz e => by injection e with _ e _; exact ht e)

set_option maxHeartbeats 16000000 in
theorem itemText_yes (pb : Nat) (w : World) (h0 : Blk w pb 62 [.int .i64 0, .int .i64 2]) :
    Calls Tryd.prog 57 #[.agg #[.int .i64 4, .slice (some ⟨pb, 0, none⟩) 1 1, .int .i64 3]] w fun e w' => e = .returned (.string ⟨#[52, 61, 48, 42, 50, 33, 51]⟩) ∧ Below w.heap.size w w' := by
  have hpb := h0.lt
  have HV := Lib.hid (fun o => itemValid_c pb (w.alloc o) ((h0.alloc o).cell 0 (by simp)) ((h0.alloc o).cell 1 (by simp)) (by simp; omega))
  have HX := Lib.hid (Blk.new w 65 #[.int .i64 4, .slice (some ⟨pb, 0, none⟩) 1 1, .int .i64 3])
  have HP := Lib.hid h0
  clear h0
  go_enter Tryd.func57, Tryd.ntmps57
  go_wp2_with fail
  refine (HV.out _).mono ?_
  rintro e w1 ⟨rfl, b1⟩
  have bel := below_step (below_al (Below.refl w.heap.size w) _) b1
  have HX1 := Lib.hid (HX.out.below b1 HX.out.lt)
  have HP1 := Lib.hid (HP.out.below bel hpb)
  have hx0 : w1.cell? ⟨w.heap.size, 0, none⟩ = some (.int .i64 4) := HX1.out.cell 0 (by simp)
  have hxl := HX1.out.lt
  have hB0 : Lib.IsBuilderF 81 5 w1.heap.size w1.heap.size [] (w1.alloc (.cells #[.pointer none, .slice none 0 0] 81)) := Lib.IsBuilderF.of (Lib.fresh_isBuilder 81 5 w1)
  have bB := below_al bel (.cells #[.pointer none, .slice none 0 0] 81)
  have HXB := Lib.hid (HX1.out.alloc (.cells #[.pointer none, .slice none 0 0] 81))
  have HPB := Lib.hid (HP1.out.alloc (.cells #[.pointer none, .slice none 0 0] 81))
  have hbs := bel.size
  go_wp2_with (go_at_call 71; refine (itoa4 _).mono ?_; rintro e w' ⟨rfl, rfl⟩)
  refine (bWriteString w1.heap.size w1.heap.size [] _ _ hB0 (by decide) (by simp)).mono ?_
  rintro e w2 ⟨rfl, h2, c2, k2⟩
  have bel2 : Below w.heap.size w w2 := bB.trans (c2.mono bel.size)
  have z2 : w1.heap.size < w2.heap.size := h2.lt
  have HX2 := Lib.hid (HXB.out.below c2 hxl)
  have HP2 := Lib.hid (HPB.out.below c2 (by omega))
  go_wp2_with fail
  refine (bWriteByte w1.heap.size w1.heap.size _ _ _ (.inr h2) (by decide) (by omega)).mono ?_
  rintro e w3 ⟨rfl, h3, c3, k3⟩
  have bel3 : Below w.heap.size w w3 := bel2.trans (c3.mono bel.size)
  have z3 : w1.heap.size < w3.heap.size := h3.lt
  have HX3 := Lib.hid (HX2.out.below c3 hxl)
  have HP3 := Lib.hid (HP2.out.below c3 (by omega))
  have hx1 : w3.cell? ⟨w.heap.size, 1, none⟩ = some (.slice (some ⟨pb, 0, none⟩) 1 1) := HX3.out.cell 1 (by simp)
  have hp0 : w3.cell? ⟨pb, 0, none⟩ = some (.int .i64 0) := HP3.out.cell 0 (by simp)
  have hp1 : w3.cell? ⟨pb, 1, none⟩ = some (.int .i64 2) := HP3.out.cell 1 (by simp)
  clear h2 HX1 HP1 HX2 HP2 HXB HPB bB hx0
  go_wp2
  refine wp_loop_rounds 2 ?_
  rw [rounds_succ]
  go_wp2_with (go_at_call 71; refine (itoa0 _).mono ?_; rintro e w' ⟨rfl, rfl⟩)
  have h3a := h3.alloc (.cells #[.int .i64 0, .int .i64 2] 62)
  have HQ0 := Lib.hid (Blk.new w3 62 #[.int .i64 0, .int .i64 2])
  have bel3a := below_al bel3 (.cells #[.int .i64 0, .int .i64 2] 62)
  have HX3a := Lib.hid (HX3.out.alloc (.cells #[.int .i64 0, .int .i64 2] 62))
  refine (bWriteString w1.heap.size w1.heap.size _ _ _ (.inr h3a) (by decide) (by simp; omega)).mono ?_
  rintro e w4 ⟨rfl, h4, c4, k4⟩
  have bel4 : Below w.heap.size w w4 := bel3a.trans (c4.mono bel.size)
  have z4 : w1.heap.size < w4.heap.size := h4.lt
  have HQ4 := Lib.hid (kept_blk k4 HQ0.out (by omega) (by decide))
  have HX4 := Lib.hid (HX3a.out.below c4 hxl)
  clear h3 h3a hp0 hp1 hx1 bel3a
  go_wp2_with fail
  refine (bWriteByte w1.heap.size w1.heap.size _ _ _ (.inr h4) (by decide) (by omega)).mono ?_
  rintro e w5 ⟨rfl, h5, c5, k5⟩
  have bel5 : Below w.heap.size w w5 := bel4.trans (c5.mono bel.size)
  have z5 : w1.heap.size < w5.heap.size := h5.lt
  have HQ5 := Lib.hid (kept_blk k5 HQ4.out (by omega) (by decide))
  have HX5 := Lib.hid (HX4.out.below c5 hxl)
  have hq1 : w5.cell? ⟨w3.heap.size, 1, none⟩ = some (.int .i64 2) := HQ5.out.cell 1 (by simp)
  clear h4
  go_wp2_with (go_at_call 71; refine (itoa2 _).mono ?_; rintro e w' ⟨rfl, rfl⟩)
  refine (bWriteString w1.heap.size w1.heap.size _ _ _ (.inr h5) (by decide) (by omega)).mono ?_
  rintro e w6 ⟨rfl, h6, c6, k6⟩
  have bel6 : Below w.heap.size w w6 := bel5.trans (c6.mono bel.size)
  have z6 : w1.heap.size < w6.heap.size := h6.lt
  have HX6 := Lib.hid (HX5.out.below c6 hxl)
  clear h5 hq1
  go_wp2
  rw [rounds_succ]
  go_wp2_with fail
  refine (bWriteByte w1.heap.size w1.heap.size _ _ _ (.inr h6) (by decide) (by omega)).mono ?_
  rintro e w7 ⟨rfl, h7, c7, k7⟩
  have bel7 : Below w.heap.size w w7 := bel6.trans (c7.mono bel.size)
  have z7 : w1.heap.size < w7.heap.size := h7.lt
  have HX7 := Lib.hid (HX6.out.below c7 hxl)
  have hx2 : w7.cell? ⟨w.heap.size, 2, none⟩ = some (.int .i64 3) := HX7.out.cell 2 (by simp)
  clear h6
  go_wp2_with (go_at_call 71; refine (itoa3 _).mono ?_; rintro e w' ⟨rfl, rfl⟩)
  refine (bWriteString w1.heap.size w1.heap.size _ _ _ (.inr h7) (by decide) (by omega)).mono ?_
  rintro e w8 ⟨rfl, h8, c8, k8⟩
  have bel8 : Below w.heap.size w w8 := bel7.trans (c8.mono bel.size)
  have h8' : Lib.IsBuilderF 81 5 w1.heap.size w1.heap.size (Lib.byteCells [52, 61, 48, 42, 50, 33, 51]) w8 := .inr h8
  clear h7 h8 hx2
  go_wp2_with fail
  refine (bString w1.heap.size w1.heap.size [52, 61, 48, 42, 50, 33, 51] _ h8' (by simp)).mono ?_
  rintro e w9 ⟨rfl, c9⟩
  go_wp2
  go_ret
  exact ⟨rfl, bel8.trans (c9.mono bel.size)⟩
set_option maxHeartbeats 4000000 in
theorem alive_any (w : World) : Calls Tryd.prog 18 #[] w fun e w' => e = .returned (.bool true) ∧ Below w.heap.size w w' := by
  have HT := Lib.hid (itemText_yes w.heap.size _ (Blk.new w 62 #[.int .i64 0, .int .i64 2]))
  have bel := below_al (Below.refl w.heap.size w) (.cells #[.int .i64 0, .int .i64 2] 62)
  go_enter Tryd.func18, Tryd.ntmps18
  go_wp2_with fail
  refine HT.out.mono ?_
  rintro e w1 ⟨rfl, b1⟩
  have hq : ((⟨#[52, 61, 48, 42, 50, 33, 51]⟩ : ByteArray) == ⟨#[52, 61, 48, 42, 50, 33, 51]⟩) = true := by decide
  go_wp2_with fail
  refine (itemText_no _).mono ?_
  rintro e w2 ⟨rfl, b2⟩
  go_wp2
  go_ret
  exact ⟨rfl, below_step (below_step bel b1) b2⟩
end Go.Proofs.YthbledeghanffaaDoor
