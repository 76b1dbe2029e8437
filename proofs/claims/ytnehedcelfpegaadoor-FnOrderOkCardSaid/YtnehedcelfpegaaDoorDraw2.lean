/- Draws that end in an append: plain lemmas. -/
import Derived.Test.YtnehedcelfpegaaDoorDraw1
import Derived.BigRegion
import Derived.Deep.RegionWith
set_option linter.unusedVariables false
set_option linter.unusedSimpArgs false
namespace Go.Proofs.YtnehedcelfpegaaDoor
open Go.ChangeShapes Go.WideShapes Go.ChangeAt Go.RowKit

theorem newG {base : Nat} (w : World) (T : TypeId) (cs : List Value) (s : Nat) (hs : cs.length = s) (h : base ≤ w.heap.size) : (w.alloc (.cells cs.toArray T)).ownsRow base T s (.slice (some ⟨w.heap.size, 0, none⟩) 1 1) 1 cs :=
  Blk.own (Blk.new w T cs.toArray) h (by simp [hs]) (by decide)
theorem newG2 {base : Nat} (w : World) (o : Obj) (T : TypeId) (cs : List Value) (s : Nat) (hs : cs.length = s) (h : base ≤ w.heap.size) : ((w.alloc o).alloc (.cells cs.toArray T)).ownsRow base T s (.slice (some ⟨w.heap.size + 1, 0, none⟩) 1 1) 1 cs := by
  have e : (w.alloc o).heap.size = w.heap.size + 1 := by simp
  have := newG (base := base) (w.alloc o) T cs s hs (by omega)
  rw [e] at this; exact this
theorem new_belowG2 {w0 w w' : World} {o : Obj} {T : TypeId} {cs : List Value} {s : Nat} (h : w0.heap.size ≤ w.heap.size) (hs : cs.length = s) (hg : ((w.alloc o).alloc (.cells cs.toArray T)).grownBy w' (Value.slice (some ⟨w.heap.size + 1, 0, none⟩) 1 1).ownBlock) : Below w0.heap.size w w' := by
  have := below_app' (w := w.alloc o) (by simp; omega) (newG2 w o T cs s hs h) hg
  exact ((Below.refl w0.heap.size w).alloc h _).trans this
theorem oi_someD {W : World} {base c : Nat} {A : Option Addr} {os : List Int} (h : OI W base (.slice A os.length c) os) (h1 : 1 ≤ os.length) : ∃ b, A = some ⟨b, 0, none⟩ ∧ os.length ≤ c := by
  obtain ⟨A', c', e, hr, hc, -, ha⟩ := own_form h
  injection e with e1 e2 e3
  subst e1 e3
  obtain ⟨b, off, rfl, -, -⟩ := hr (by rw [ints_length]; omega)
  obtain ⟨-, h2, -⟩ := ha _ rfl
  subst h2
  exact ⟨b, rfl, hc⟩
theorem oi_tailD {W : World} {base c b : Nat} {os : List Int} (h : OI W base (.slice (some ⟨b, 0, none⟩) os.length c) os) (h1 : 1 ≤ os.length) : RV W W.heap.size (some ⟨b, 1, none⟩) (ints (os.drop 1)) := by
  cases os with
  | nil => simp at h1
  | cons o t =>
    intro hp
    refine ⟨b, 1, rfl, (h.lt b rfl).2, fun j hj => ?_⟩
    have hj' : j < t.length := by simpa [ints_length] using hj
    rw [World.ownsRow.cellAt h (1 + j) (by simp; omega)]
    rw [show 1 + j = j + 1 by omega]
    have e : ints (o :: t) = .int .i64 o :: ints t := rfl
    rw [e]; simp
theorem oi_consD {W : World} {base n : Nat} {v : Value} {y : Int} {os : List Int} (h : W.ownsRow base 3 1 v n ([.int .i64 y] ++ ints os)) (hn : n = 1 + os.length := by first | rfl | (simp only [List.length_drop, List.length_cons, List.length_nil] <;> omega)) : OI W base v (y :: os) := by
  subst hn
  have e : ints (y :: os) = [.int .i64 y] ++ ints os := rfl
  unfold OI
  rw [e, List.length_cons, Nat.add_comm]; exact h
end Go.Proofs.YtnehedcelfpegaaDoor
