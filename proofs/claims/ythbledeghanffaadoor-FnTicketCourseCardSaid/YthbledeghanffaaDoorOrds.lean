/- Contracts of the small functions over slices of orders (two numbers each). -/
import Derived.Test.YthbledeghanffaaDoorRows
import Derived.Test.YthbledeghanffaaDoorMem
import Derived.Test.YthbledeghanffaaDoorInts
import Derived.StillTailTactics
set_option linter.unusedVariables false
set_option linter.unusedSimpArgs false
namespace Go.Proofs.YthbledeghanffaaDoor
open Go.ChangeShapes Go.WideShapes Go.ChangeAt Go.RowKit

abbrev Ord := Int × Int
def encO (o : Ord) : List Value := [.int .i64 o.1, .int .i64 o.2]
theorem encO_len : ∀ o : Ord, (encO o).length = 2 := fun _ => rfl
def ords (os : List Ord) : List Value := flat encO os
theorem ords_length (os : List Ord) : (ords os).length = os.length * 2 := flat_length encO_len os
theorem ords_one (os : List Ord) : ∀ u ∈ ords os, u.oneCell' = true := by
  intro u hu
  simp only [ords, flat, List.mem_flatMap] at hu
  obtain ⟨o, _, h⟩ := hu
  simp [encO] at h
  rcases h with rfl | rfl <;> rfl
theorem ords_take_succ (os : List Ord) (k : Nat) (h : k < os.length) : ords (os.take (k + 1)) = ords (os.take k) ++ [.int .i64 os[k].1] ++ [.int .i64 os[k].2] := by
  rw [ords, flat_take_succ os k h]; simp [ords, encO]
def SO (w : World) (B : Nat) (A : Option Addr) (os : List Ord) : Prop := RV w B A (ords os)
section
variable {w w' : World} {B B' : Nat} {A : Option Addr} {os : List Ord}
theorem SO.at_ (h : SO w B A os) (hp : 0 < os.length) : ∃ b off, A = some ⟨b, off, none⟩ ∧ b < B ∧
    ∀ j (h : j < os.length), w.cell? ⟨b, off + j * 2, none⟩ = some (.int .i64 os[j].1) ∧ w.cell? ⟨b, off + j * 2 + 1, none⟩ = some (.int .i64 os[j].2) := by
  obtain ⟨b, off, e, hb, hc⟩ := RV.flatAt encO_len h (by omega) hp
  refine ⟨b, off, e, hb, fun j hj => ⟨?_, ?_⟩⟩
  · have := hc j hj 0 _ rfl
    simpa using this
  · have := hc j hj 1 _ rfl
    rwa [← Nat.add_assoc] at this
theorem SO.nil (w : World) (B : Nat) (A : Option Addr) : SO w B A [] := RV.nil w B A
theorem SO.below (h : SO w B A os) (hb : Below B w w') : SO w' B A os := RV.below h hb
theorem SO.more (h : SO w B A os) (hB : B ≤ B') : SO w B' A os := RV.more h hB
theorem SO.tight (h : SO w B A os) : SO w w.heap.size A os := RV.tight h
theorem SO.grown (h : SO w B A os) {row : Option Nat} (hg : w.grownBy w' row) (hr : ∀ g, row = some g → B ≤ g) : SO w' B A os := RV.grown h hg hr
end
def OO (w : World) (base : Nat) (v : Value) (os : List Ord) : Prop := w.ownsRow base 30 2 v os.length (ords os)
section
variable {w w' : World} {base base' : Nat} {v : Value} {os : List Ord}
theorem OO.nil (w : World) (base : Nat) : OO w base (.slice none 0 0) [] := World.ownsRow_nil w base _ 2
theorem OO.form (h : OO w base v os) : ∃ A c, v = .slice A os.length c ∧ SO w w.heap.size A os ∧ os.length ≤ c ∧ c ≤ maxLen ∧ (∀ ad, A = some ad → base ≤ ad.block ∧ ad.off = 0 ∧ ad.spot = none) := own_form h
theorem OO.below (h : OO w base v os) (hb : Below w.heap.size w w') : OO w' base v os := own_below h hb
theorem OO.mono (h : OO w base v os) (hb : base' ≤ base) : OO w base' v os := own_mono h hb
theorem OO.grown (h : OO w base v os) {row : Option Nat} (hg : w.grownBy w' row) (hne : v.ownBlock = none ∨ v.ownBlock ≠ row) : OO w' base v os := h.kept hg hne
theorem OO.lt (h : OO w base v os) : ∀ k, v.ownBlock = some k → base ≤ k ∧ k < w.heap.size := World.ownsRow.lt h
end
theorem Blk.ownO {w : World} {g base : Nat} {os : List Ord} (h : Blk w g 30 (ords os)) (hb : base ≤ g) (hm : os.length ≤ maxLen) : OO w base (.slice (some ⟨g, 0, none⟩) os.length os.length) os :=
  h.own hb (ords_length os) hm
def RetO (w : World) (os : List Ord) (e : Ending) (w' : World) : Prop := ∃ v, e = .returned v ∧ OO w' w.heap.size v os ∧ Below w.heap.size w w'

theorem order_info : (Tryd.prog.info? 30).map (fun i => (i.zero, i.size, i.bytes)) = some (some (.agg #[.int .i64 0, .int .i64 0]), 2, 16) := by kernel_rfl


end Go.Proofs.YthbledeghanffaaDoor
