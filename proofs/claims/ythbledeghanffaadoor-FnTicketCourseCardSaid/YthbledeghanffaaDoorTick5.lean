/- TicketDo: what the program and the reference compute. -/
import Derived.Test.YthbledeghanffaaDoorTick4
set_option linter.unusedVariables false
set_option linter.unusedSimpArgs false
namespace Go.Proofs.YthbledeghanffaaDoor
open Go.ChangeShapes Go.WideShapes Go.ChangeAt Go.RowKit

def setSt (os : List Ord) (i : Nat) (s : Int) : List Ord := os.set i ((os.getD i (0, 0)).1, s)
theorem setSt_length (os : List Ord) (i : Nat) (s : Int) : (setSt os i s).length = os.length := by simp [setSt]
theorem ords_set (os : List Ord) (i : Nat) (s : Int) (h : i < os.length) : (ords os).set (i * 2 + 1) (.int .i64 s) = ords (os.set i (os[i].1, s)) := by
  induction os generalizing i with
  | nil => simp at h
  | cons o t ih =>
    have e : ords (o :: t) = .int .i64 o.1 :: .int .i64 o.2 :: ords t := by simp [ords, flat, encO]
    cases i with
    | zero => rw [e]; simp [ords, flat, encO]
    | succ i =>
      have := ih i (by simpa using h)
      rw [e, show (i + 1) * 2 + 1 = i * 2 + 1 + 1 + 1 by omega, List.set_cons_succ, List.set_cons_succ, this]
      simp [ords, flat, encO]
def doF (os : List Ord) (index event : Int) : List Ord × Bool :=
  if ticketB os = false then ([], false)
  else if index < 0 ∨ (os.length : Int) ≤ index then (os, false)
  else if nextF (os.getD index.toNat (0, 0)).2 event < 0 then (os, false)
  else if ticketB (setSt os index.toNat (nextF (os.getD index.toNat (0, 0)).2 event)) = true then (setSt os index.toNat (nextF (os.getD index.toNat (0, 0)).2 event), true)
  else (os, false)
theorem doF_len (os : List Ord) (index event : Int) (hl : os.length ≤ 1048576) : (doF os index event).1.length ≤ 1048576 := by
  unfold doF
  split
  · simp
  · split
    · exact hl
    · split
      · exact hl
      · split
        · rw [setSt_length]; exact hl
        · exact hl
theorem doF_1 {os : List Ord} (index event : Int) (h : ticketB os = false) : doF os index event = ([], false) := by simp [doF, h]
theorem doF_2 {os : List Ord} {index : Int} (event : Int) (h : ticketB os = true) (hi : index < 0 ∨ (os.length : Int) ≤ index) : doF os index event = (os, false) := by
  simp [doF, h, hi]
theorem doF_3 {os : List Ord} {i : Nat} {event : Int} (h : ticketB os = true) (hi : i < os.length) (hn : nextF os[i].2 event < 0) : doF os i event = (os, false) := by
  have hc : ¬ ((i : Int) < 0 ∨ (os.length : Int) ≤ (i : Int)) := by omega
  unfold doF
  rw [if_neg (by simp [h]), if_neg hc]
  simp [hi, hn]
theorem doF_4 {os : List Ord} {i : Nat} {event : Int} (h : ticketB os = true) (hi : i < os.length) (hn : ¬ nextF os[i].2 event < 0) (ht : ticketB (os.set i (os[i].1, nextF os[i].2 event)) = true) :
    doF os i event = (os.set i (os[i].1, nextF os[i].2 event), true) := by
  have hc : ¬ ((i : Int) < 0 ∨ (os.length : Int) ≤ (i : Int)) := by omega
  unfold doF
  rw [if_neg (by simp [h]), if_neg hc]
  have e : os.getD i (0, 0) = os[i] := by simp [hi]
  simp only [Int.toNat_natCast, setSt, e]
  rw [if_neg hn, if_pos ht]
theorem doF_5 {os : List Ord} {i : Nat} {event : Int} (h : ticketB os = true) (hi : i < os.length) (hn : ¬ nextF os[i].2 event < 0) (ht : ticketB (os.set i (os[i].1, nextF os[i].2 event)) = false) :
    doF os i event = (os, false) := by
  have hc : ¬ ((i : Int) < 0 ∨ (os.length : Int) ≤ (i : Int)) := by omega
  unfold doF
  rw [if_neg (by simp [h]), if_neg hc]
  have e : os.getD i (0, 0) = os[i] := by simp [hi]
  simp only [Int.toNat_natCast, setSt, e]
  rw [if_neg hn, if_neg (by rw [ht]; simp)]

/-- Made a slice and a truth. -/
def RetOB (w : World) (p : List Ord × Bool) (e : Ending) (w' : World) : Prop := ∃ v, e = .returned (.tuple #[v, .bool p.2]) ∧ OO w' w.heap.size v p.1 ∧ Below w.heap.size w w'
theorem RetOB.mk {w w' : World} {p : List Ord × Bool} {v : Value} {os : List Ord} {b : Bool} (hp : p = (os, b)) (ho : OO w' w.heap.size v os) (hb : Below w.heap.size w w') : RetOB w p (.returned (.tuple #[v, .bool b])) w' := by
  subst hp
  exact ⟨v, rfl, ho, hb⟩
/-- An owned row of orders that is not empty starts at a block's head. -/
theorem OO.block {w : World} {base : Nat} {A : Option Addr} {n c : Nat} {os : List Ord} (h : w.ownsRow base 30 2 (.slice A n c) n (ords os)) (hp : 0 < n) : ∃ g, A = some ⟨g, 0, none⟩ ∧ base ≤ g := by
  rcases h.2 with ⟨hv, hn⟩ | ⟨g, cap, cur, hv, hb, _⟩
  · omega
  · injection hv with h1 _ _
    exact ⟨g, h1, hb⟩

set_option maxHeartbeats 1000000 in
theorem copyTicket_any (A : Option Addr) (c : Nat) (os : List Ord) (w : World) (h : SO w w.heap.size A os) (hl : os.length ≤ 1048576) :
    Calls Tryd.prog 63 #[.slice A os.length c] w (RetO w os) := by
  by_cases hz : 0 < os.length
  · have hz1 : ((os.length : Int) == 0) = false := by simp; intro e; rw [e] at hz; simp at hz
    obtain ⟨b, off, rfl, hbl, hc⟩ := h (by rw [ords_length]; omega)
    have hmk := run_make_rowN (P := Tryd.prog) 25 30 #[.int .i64 0, .int .i64 0] 2 16 Tryd.underlying25 order_info .i64 .i64 os.length (by omega) (by omega)
    have hcp := run_copy_full (P := Tryd.prog) (w.alloc (.cells (madeCells #[.int .i64 0, .int .i64 0] (os.length * 2)) 30)) 25 25 3 30 w.heap.size os.length c 2 b off _ 30 (ords os) Tryd.underlying25 (by kernel_rfl) (heap_alloc_new _ _) (ords_length os) (by simp [size_madeCells])
      (fun j hj => by rw [World.cell?_alloc_lt _ _ _ (by simpa using hbl)]; exact hc j hj) (ords_one os)
    have hw := setRow_heap (w.alloc (.cells (madeCells #[.int .i64 0, .int .i64 0] (os.length * 2)) 30)) w.heap.size (madeCells #[.int .i64 0, .int .i64 0] (os.length * 2)) (ords os).toArray 30 (0, 0) (heap_alloc_new _ _)
    have hW := Lib.hid hw
    clear hw
    go_enter Tryd.func63, Tryd.ntmps63
    go_wp2
    go_ret
    refine ⟨_, rfl, Blk.ownO hW.out (Nat.le_refl _) (by simp [maxLen]; omega), ?_⟩
    exact below_row ((Below.refl _ _).alloc (Nat.le_refl _) _) (Nat.le_refl _) _
  · have hx : os = [] := List.eq_nil_of_length_eq_zero (by omega)
    subst hx
    go_enter Tryd.func63, Tryd.ntmps63
    go_wp2
    go_ret
    exact ⟨_, rfl, OO.nil _ _, Below.refl _ _⟩
end Go.Proofs.YthbledeghanffaaDoor
