/- Contracts of the small functions over slices of dishes (two numbers each). -/
import Derived.Test.YtnehedcelfpegaaDoorRows
import Derived.Test.YtnehedcelfpegaaDoorMem
import Derived.Test.YtnehedcelfpegaaDoorInts
import Derived.StillTailTactics
set_option linter.unusedVariables false
set_option linter.unusedSimpArgs false
namespace Go.Proofs.YtnehedcelfpegaaDoor
open Go.ChangeShapes Go.WideShapes Go.ChangeAt Go.RowKit

abbrev Dsh := Int × Int
def encD (o : Dsh) : List Value := [.int .i64 o.1, .int .i64 o.2]
theorem encD_len : ∀ o : Dsh, (encD o).length = 2 := fun _ => rfl
def dishes (os : List Dsh) : List Value := flat encD os
theorem dishes_length (os : List Dsh) : (dishes os).length = os.length * 2 := flat_length encD_len os
theorem dishes_one (os : List Dsh) : ∀ u ∈ dishes os, u.oneCell' = true := by
  intro u hu
  simp only [dishes, flat, List.mem_flatMap] at hu
  obtain ⟨o, _, h⟩ := hu
  simp [encD] at h
  rcases h with rfl | rfl <;> rfl
theorem dishes_take_succ (os : List Dsh) (k : Nat) (h : k < os.length) : dishes (os.take (k + 1)) = dishes (os.take k) ++ [.int .i64 os[k].1] ++ [.int .i64 os[k].2] := by
  rw [dishes, flat_take_succ os k h]; simp [dishes, encD]
def SD (w : World) (B : Nat) (A : Option Addr) (os : List Dsh) : Prop := RV w B A (dishes os)
section
variable {w w' : World} {B B' : Nat} {A : Option Addr} {os : List Dsh}
theorem SD.at_ (h : SD w B A os) (hp : 0 < os.length) : ∃ b off, A = some ⟨b, off, none⟩ ∧ b < B ∧
    ∀ j (h : j < os.length), w.cell? ⟨b, off + j * 2, none⟩ = some (.int .i64 os[j].1) ∧ w.cell? ⟨b, off + j * 2 + 1, none⟩ = some (.int .i64 os[j].2) := by
  obtain ⟨b, off, e, hb, hc⟩ := RV.flatAt encD_len h (by omega) hp
  refine ⟨b, off, e, hb, fun j hj => ⟨?_, ?_⟩⟩
  · have := hc j hj 0 _ rfl
    simpa using this
  · have := hc j hj 1 _ rfl
    rwa [← Nat.add_assoc] at this
theorem SD.nil (w : World) (B : Nat) (A : Option Addr) : SD w B A [] := RV.nil w B A
theorem SD.below (h : SD w B A os) (hb : Below B w w') : SD w' B A os := RV.below h hb
theorem SD.more (h : SD w B A os) (hB : B ≤ B') : SD w B' A os := RV.more h hB
theorem SD.tight (h : SD w B A os) : SD w w.heap.size A os := RV.tight h
theorem SD.grown (h : SD w B A os) {row : Option Nat} (hg : w.grownBy w' row) (hr : ∀ g, row = some g → B ≤ g) : SD w' B A os := RV.grown h hg hr
end
def OD (w : World) (base : Nat) (v : Value) (os : List Dsh) : Prop := w.ownsRow base 32 2 v os.length (dishes os)
section
variable {w w' : World} {base base' : Nat} {v : Value} {os : List Dsh}
theorem OD.nil (w : World) (base : Nat) : OD w base (.slice none 0 0) [] := World.ownsRow_nil w base _ 2
theorem OD.form (h : OD w base v os) : ∃ A c, v = .slice A os.length c ∧ SD w w.heap.size A os ∧ os.length ≤ c ∧ c ≤ maxLen ∧ (∀ ad, A = some ad → base ≤ ad.block ∧ ad.off = 0 ∧ ad.spot = none) := own_form h
theorem OD.below (h : OD w base v os) (hb : Below w.heap.size w w') : OD w' base v os := own_below h hb
theorem OD.mono (h : OD w base v os) (hb : base' ≤ base) : OD w base' v os := own_mono h hb
theorem OD.grown (h : OD w base v os) {row : Option Nat} (hg : w.grownBy w' row) (hne : v.ownBlock = none ∨ v.ownBlock ≠ row) : OD w' base v os := h.kept hg hne
theorem OD.lt (h : OD w base v os) : ∀ k, v.ownBlock = some k → base ≤ k ∧ k < w.heap.size := World.ownsRow.lt h
end
theorem Blk.ownD {w : World} {g base : Nat} {os : List Dsh} (h : Blk w g 32 (dishes os)) (hb : base ≤ g) (hm : os.length ≤ maxLen) : OD w base (.slice (some ⟨g, 0, none⟩) os.length os.length) os :=
  h.own hb (dishes_length os) hm
def RetD (w : World) (os : List Dsh) (e : Ending) (w' : World) : Prop := ∃ v, e = .returned v ∧ OD w' w.heap.size v os ∧ Below w.heap.size w w'

theorem dish_info : (Tryd.prog.info? 32).map (fun i => (i.zero, i.size, i.bytes)) = some (some (.agg #[.int .i64 0, .int .i64 0]), 2, 16) := by kernel_rfl


end Go.Proofs.YtnehedcelfpegaaDoor
