/- Slices in memory: a slice that reads as a list; a slice that the call made itself. Plain lemmas, no program in sight. No condition. -/
import Derived.Below
import Derived.WalkKit
import Derived.OwnWalk
import Derived.Deep.OwnRows
import Derived.Deep.AppendLies
import Derived.Deep.Draws
import Derived.Lib.Hide
import Derived.OneCell
import Derived.WalkSmall
import Derived.Laws.CopyRow
import Derived.Maps.AppendAt
set_option linter.unusedVariables false
set_option linter.unusedSimpArgs false
namespace Go.Proofs.YthbledeghanffaaDoor
open Go Go.RowKit

theorem ret_int {k : IntKind} {a b : Int} (h : a = b) : Ending.returned (.int k a) = .returned (.int k b) := by rw [h]
theorem ret_bool {a b : Bool} (h : a = b) : Ending.returned (.bool a) = .returned (.bool b) := by rw [h]

/-- The slice with address A reads, in w, as the cells cs; it lies below block B. -/
def RV (w : World) (B : Nat) (A : Option Addr) (cs : List Value) : Prop :=
  0 < cs.length → ∃ b off, A = some ⟨b, off, none⟩ ∧ b < B ∧ ∀ j (h : j < cs.length), w.cell? ⟨b, off + j, none⟩ = some cs[j]

section
variable {w w' : World} {B B' : Nat} {A : Option Addr} {cs : List Value}
theorem RV.nil (w : World) (B : Nat) (A : Option Addr) : RV w B A [] := fun h => absurd h (by simp)
theorem RV.keep (h : RV w B A cs) (hk : ∀ p : Addr, p.block < B → w'.cell? p = w.cell? p) : RV w' B A cs := by
  intro hp
  obtain ⟨b, off, e, hb, hc⟩ := h hp
  exact ⟨b, off, e, hb, fun j hj => by rw [hk _ hb]; exact hc j hj⟩
theorem RV.below (h : RV w B A cs) (hb : Below B w w') : RV w' B A cs := h.keep fun _ hp => hb.cell hp
theorem RV.more (h : RV w B A cs) (hB : B ≤ B') : RV w B' A cs := by
  intro hp
  obtain ⟨b, off, e, hb, hc⟩ := h hp
  exact ⟨b, off, e, by omega, hc⟩
/-- Whatever reads lies in the heap. -/
theorem RV.tight (h : RV w B A cs) : RV w w.heap.size A cs := by
  intro hp
  obtain ⟨b, off, e, hb, hc⟩ := h hp
  exact ⟨b, off, e, World.block_lt_of_cell? w _ (hc 0 hp), hc⟩
theorem RV.grown (h : RV w B A cs) {row : Option Nat} (hg : w.grownBy w' row) (hr : ∀ g, row = some g → B ≤ g) : RV w' B A cs := by
  intro hp
  obtain ⟨b, off, e, hb, hc⟩ := h hp
  exact ⟨b, off, e, hb, fun j hj => hg.cell (hc j hj) (fun e => by have := hr b e.symm; omega)⟩
/-- What the call owns reads as what it holds. -/
theorem own_form {base n size : Nat} {e : TypeId} {v : Value} (h : w.ownsRow base e size v n cs) :
    ∃ A c, v = .slice A n c ∧ RV w w.heap.size A cs ∧ n ≤ c ∧ c ≤ maxLen ∧ (∀ ad, A = some ad → base ≤ ad.block ∧ ad.off = 0 ∧ ad.spot = none) := by
  have h0 := h
  have hl := h.1
  rcases h.2 with ⟨rfl, hn⟩ | ⟨g, cap, cur, rfl, hb, hg, hnc, hcm, hcs, htake⟩
  · subst hn
    exact ⟨none, 0, rfl, fun hp => absurd hp (by simp at hl; simp [hl]), by omega, by simp [maxLen], fun _ h => by cases h⟩
  · refine ⟨_, cap, rfl, fun hp => ⟨g, 0, rfl, (Array.getElem?_eq_some_iff.1 hg).1, fun j hj => ?_⟩, hnc, hcm, fun ad h => by cases h; exact ⟨hb, rfl, rfl⟩⟩
    have := World.ownsRow.cellAt (w := w) (g := g) (cap := cap) h0 j (by omega)
    simp only [Nat.zero_add]
    rw [this]
    simp [hj]
theorem own_below {base n size : Nat} {e : TypeId} {v : Value} (h : w.ownsRow base e size v n cs) (hb : Below w.heap.size w w') : w'.ownsRow base e size v n cs :=
  h.kept (w' := w') (row := none) ⟨hb.os, hb.tape, hb.output, hb.size, fun k hk _ => hb.block k hk⟩ (by cases hv : v.ownBlock <;> simp)
theorem own_mono {base base' n size : Nat} {e : TypeId} {v : Value} (h : w.ownsRow base e size v n cs) (hb : base' ≤ base) : w.ownsRow base' e size v n cs := by
  refine ⟨h.1, ?_⟩
  rcases h.2 with h0 | ⟨g, cap, cur, h1, h2, r⟩
  · exact .inl h0
  · exact .inr ⟨g, cap, cur, h1, by omega, r⟩
end

/-! ### a block that is known whole -/
def Blk (w : World) (g : Nat) (t : TypeId) (cs : List Value) : Prop := w.heap[g]? = some (.cells cs.toArray t (0, 0))
section
variable {w w' : World} {g : Nat} {t : TypeId} {cs : List Value}
theorem Blk.lt (h : Blk w g t cs) : g < w.heap.size := lt_of_block h
theorem Blk.cell (h : Blk w g t cs) (i : Nat) (hi : i < cs.length) : w.cell? ⟨g, i, none⟩ = some cs[i] := by
  rw [cell_of_row w g i _ t (0, 0) h]; simp [hi]
theorem Blk.frozen (h : Blk w g t cs) (i : Nat) : w.frozen? ⟨g, i, none⟩ = false := by
  unfold Blk at h
  simp [World.frozen?, h]
theorem Blk.new (w : World) (t : TypeId) (cs : Array Value) : Blk (w.alloc (.cells cs t)) w.heap.size t cs.toList := heap_alloc_new w _
theorem Blk.set_ (h : Blk w g t cs) (i : Nat) (u : Value) : Blk (w.setCell ⟨g, i, none⟩ u) g t (cs.set i u) := by
  unfold Blk at h ⊢
  simp [World.setCell, Array.getElem?_modify, h]
theorem Blk.far (h : Blk w g t cs) {p : Addr} (hp : g ≠ p.block) (u : Value) : Blk (w.setCell p u) g t cs := (Below.heap_setCell w p u g hp).trans h
theorem Blk.alloc (h : Blk w g t cs) (o : Obj) : Blk (w.alloc o) g t cs := (Below.heap_alloc w o g h.lt).trans h
theorem Blk.below {B : Nat} (h : Blk w g t cs) (hb : Below B w w') (hg : g < B) : Blk w' g t cs := (hb.block g hg).trans h
theorem Blk.grown {row : Option Nat} (h : Blk w g t cs) (hb : w.grownBy w' row) (hg : some g ≠ row) : Blk w' g t cs := (hb.block g h.lt hg).trans h
theorem Blk.own (h : Blk w g t cs) {base n size : Nat} (hb : base ≤ g) (hn : cs.length = n * size) (hm : n ≤ maxLen) : w.ownsRow base t size (.slice (some ⟨g, 0, none⟩) n n) n cs :=
  ⟨hn, .inr ⟨g, n, cs.toArray, rfl, hb, h, Nat.le_refl _, hm, by simpa using hn, by rw [List.take_of_length_le (by simp [hn])]⟩⟩
end

/-- A row of n cells, its first ones filled, the others z. -/
def filled (z : Value) (ys : List Value) (n : Nat) : List Value := ys ++ List.replicate (n - ys.length) z
theorem filled_nil (z : Value) (n : Nat) : filled z [] n = List.replicate n z := by simp [filled]
theorem filled_length (z : Value) (ys : List Value) (n : Nat) (h : ys.length ≤ n) : (filled z ys n).length = n := by simp [filled]; omega
theorem filled_all (z : Value) (ys : List Value) (n : Nat) (h : ys.length = n) : filled z ys n = ys := by simp [filled, h]
theorem filled_set (z u : Value) (ys : List Value) (n : Nat) (h : ys.length < n) : (filled z ys n).set ys.length u = filled z (ys ++ [u]) n := by
  obtain ⟨m, rfl⟩ : ∃ m, n = ys.length + 1 + m := ⟨n - ys.length - 1, by omega⟩
  simp only [filled, List.length_append, List.length_cons, List.length_nil, List.append_assoc]
  rw [show ys.length + 1 + m - ys.length = m + 1 by omega, show ys.length + 1 + m - (ys.length + (0 + 1)) = m by omega, List.set_append]
  simp [List.replicate_succ]
theorem filled_at (z : Value) (ys : List Value) (n : Nat) (h : ys.length < n) : (filled z ys n)[ys.length]? = some z := by
  simp [filled, List.getElem?_append, List.getElem?_replicate]; omega
theorem blk_made (w : World) (z : Value) (n : Nat) (t : TypeId) : Blk (w.alloc (.cells (madeCells #[z] n) t)) w.heap.size t (filled z [] n) := by
  have := Blk.new w t (madeCells #[z] n)
  rwa [toList_madeCells_one, ← filled_nil] at this
theorem Blk.fillAt {w : World} {g : Nat} {t : TypeId} {z : Value} {ys : List Value} {n : Nat} (h : Blk w g t (filled z ys n)) {k : Nat} (hk : ys.length = k) (hn : k < n) :
    w.cell? ⟨g, k, none⟩ = some z ∧ w.frozen? ⟨g, k, none⟩ = false := by
  subst hk
  refine ⟨?_, h.frozen _⟩
  have := filled_at z ys n hn
  rw [List.getElem?_eq_some_iff] at this
  obtain ⟨h1, h2⟩ := this
  rw [h.cell _ h1, h2]
theorem Blk.fill {w : World} {g : Nat} {t : TypeId} {z : Value} {ys : List Value} {n : Nat} (h : Blk w g t (filled z ys n)) {k : Nat} (hk : ys.length = k) (hn : k < n) (u : Value) :
    Blk (w.setCell ⟨g, k, none⟩ u) g t (filled z (ys ++ [u]) n) := by
  subst hk
  rw [← filled_set z u ys n hn]
  exact h.set_ _ u

/-! ### numbers -/
def ints (xs : List Int) : List Value := xs.map (.int .i64)
theorem ints_length (xs : List Int) : (ints xs).length = xs.length := by simp [ints]
theorem ints_take_succ (xs : List Int) (k : Nat) (h : k < xs.length) : ints (xs.take (k + 1)) = ints (xs.take k) ++ [.int .i64 xs[k]] := by
  simp only [ints]; rw [List.take_succ_eq_append_getElem h, List.map_append]; rfl
theorem ints_one (xs : List Int) : ∀ u ∈ ints xs, u.oneCell' = true := by
  intro u hu
  simp only [ints, List.mem_map] at hu
  obtain ⟨x, _, rfl⟩ := hu
  rfl
/-- The slice with address A (length xs.length) reads, in w, as the numbers xs; it lies below block B. -/
def IS (w : World) (B : Nat) (A : Option Addr) (xs : List Int) : Prop := RV w B A (ints xs)
section
variable {w w' : World} {B B' : Nat} {A : Option Addr} {xs : List Int}
theorem IS.at_ (h : IS w B A xs) (hp : 0 < xs.length) : ∃ b off, A = some ⟨b, off, none⟩ ∧ b < B ∧ ∀ j (h : j < xs.length), w.cell? ⟨b, off + j, none⟩ = some (.int .i64 xs[j]) := by
  obtain ⟨b, off, e, hb, hc⟩ := h (by simpa [ints] using hp)
  exact ⟨b, off, e, hb, fun j hj => by rw [hc j (by simpa [ints] using hj)]; simp [ints]⟩
theorem IS.mk (h : 0 < xs.length → ∃ b off, A = some ⟨b, off, none⟩ ∧ b < B ∧ ∀ j (h : j < xs.length), w.cell? ⟨b, off + j, none⟩ = some (.int .i64 xs[j])) : IS w B A xs := by
  intro hp
  obtain ⟨b, off, e, hb, hc⟩ := h (by simpa [ints] using hp)
  exact ⟨b, off, e, hb, fun j hj => by rw [hc j (by simpa [ints] using hj)]; simp [ints]⟩
theorem IS.nil (w : World) (B : Nat) (A : Option Addr) : IS w B A [] := RV.nil w B A
theorem IS.below (h : IS w B A xs) (hb : Below B w w') : IS w' B A xs := RV.below h hb
theorem IS.more (h : IS w B A xs) (hB : B ≤ B') : IS w B' A xs := RV.more h hB
theorem IS.tight (h : IS w B A xs) : IS w w.heap.size A xs := RV.tight h
theorem IS.grown (h : IS w B A xs) {row : Option Nat} (hg : w.grownBy w' row) (hr : ∀ g, row = some g → B ≤ g) : IS w' B A xs := RV.grown h hg hr
end

/-- The slice value v, made by the call itself (from block 'base' on), holds the numbers xs. -/
def OI (w : World) (base : Nat) (v : Value) (xs : List Int) : Prop := w.ownsRow base 3 1 v xs.length (ints xs)
section
variable {w w' : World} {base base' : Nat} {v : Value} {xs : List Int}
theorem OI.nil (w : World) (base : Nat) : OI w base (.slice none 0 0) [] := World.ownsRow_nil w base _ 1
theorem OI.form (h : OI w base v xs) : ∃ A c, v = .slice A xs.length c ∧ IS w w.heap.size A xs ∧ xs.length ≤ c ∧ c ≤ maxLen ∧ (∀ ad, A = some ad → base ≤ ad.block ∧ ad.off = 0 ∧ ad.spot = none) := own_form h
theorem OI.below (h : OI w base v xs) (hb : Below w.heap.size w w') : OI w' base v xs := own_below h hb
theorem OI.mono (h : OI w base v xs) (hb : base' ≤ base) : OI w base' v xs := own_mono h hb
theorem OI.grown (h : OI w base v xs) {row : Option Nat} (hg : w.grownBy w' row) (hne : v.ownBlock = none ∨ v.ownBlock ≠ row) : OI w' base v xs := h.kept hg hne
/-- What is owned from one base on lies apart from what lies below that base. -/
theorem OI.lt (h : OI w base v xs) : ∀ k, v.ownBlock = some k → base ≤ k ∧ k < w.heap.size := World.ownsRow.lt h
end
theorem Blk.ownI {w : World} {g base : Nat} {xs : List Int} (h : Blk w g 3 (ints xs)) (hb : base ≤ g) (hm : xs.length ≤ maxLen) : OI w base (.slice (some ⟨g, 0, none⟩) xs.length xs.length) xs :=
  h.own hb (by simp [ints]) hm

theorem below_of_grown {w w' : World} {row : Option Nat} {B : Nat} (hg : w.grownBy w' row) (hB : B ≤ w.heap.size) (hr : ∀ k, row = some k → B ≤ k) : Below B w w' :=
  (Below.refl B w).grown hg hB hr
theorem grown_of_below {w w' : World} (hb : Below w.heap.size w w') (row : Option Nat) : w.grownBy w' row :=
  ⟨hb.os, hb.tape, hb.output, hb.size, fun k hk _ => hb.block k hk⟩
theorem grown_trans {w w1 w2 : World} {row : Option Nat} (h : w.grownBy w1 row) (k : w1.grownBy w2 row) : w.grownBy w2 row :=
  ⟨k.os.trans h.os, k.tape.trans h.tape, k.output.trans h.output, Nat.le_trans h.size k.size, fun i hi hn => (k.block i (Nat.lt_of_lt_of_le hi h.size) hn).trans (h.block i hi hn)⟩
theorem below_n {w : World} (n : Nat) : Below w.heap.size w (w.drewN n) := below_drewN (Below.refl _ _) n
theorem below_al {w w1 : World} (h : Below w.heap.size w w1) (o : Obj) : Below w.heap.size w (w1.alloc o) := h.alloc h.size o
theorem below_sc {w w1 : World} (h : Below w.heap.size w w1) {p : Addr} (hp : w.heap.size ≤ p.block) (u : Value) : Below w.heap.size w (w1.setCell p u) := h.setCell hp u
theorem below_step {w w1 w2 : World} (h : Below w.heap.size w w1) (k : Below w1.heap.size w1 w2) : Below w.heap.size w w2 := h.trans (k.mono h.size)
theorem bcell {W w1 : World} {B : Nat} (hb : Below B W w1) : (∀ b o, b < B → w1.cell? ⟨b, o, none⟩ = W.cell? ⟨b, o, none⟩) ∧ (∀ b o, b < B → w1.frozen? ⟨b, o, none⟩ = W.frozen? ⟨b, o, none⟩) :=
  ⟨fun b o h => hb.cell (p := ⟨b, o, none⟩) h, fun b o h => hb.frozen (p := ⟨b, o, none⟩) h⟩

/-! ### sums -/
theorem take_sum_succ (xs : List Int) (k : Nat) (h : k < xs.length) : (xs.take (k + 1)).sum = (xs.take k).sum + xs[k] := by
  rw [List.take_succ_eq_append_getElem h, List.sum_append]; simp
theorem sum_bound (xs : List Int) (M : Int) (hM : 0 ≤ M) (hb : ∀ x ∈ xs, -M ≤ x ∧ x ≤ M) : -(M * xs.length) ≤ xs.sum ∧ xs.sum ≤ M * xs.length := by
  induction xs with
  | nil => simp
  | cons x t ih =>
    have h1 := hb x (by simp)
    have h2 := ih (fun y hy => hb y (by simp [hy]))
    simp only [List.sum_cons, List.length_cons]
    have e : M * ((t.length + 1 : Nat) : Int) = M * t.length + M := by rw [Int.natCast_add, Int.mul_add]; simp
    rw [e]
    omega
theorem take_sum_bound (xs : List Int) (k : Nat) (L : Nat) (hl : xs.length ≤ L) (M : Int) (hM : 0 ≤ M) (hb : ∀ x ∈ xs, -M ≤ x ∧ x ≤ M) : -(M * L) ≤ (xs.take k).sum ∧ (xs.take k).sum ≤ M * L := by
  have h := sum_bound (xs.take k) M hM (fun x hx => hb x (List.mem_of_mem_take hx))
  have hl2 : ((xs.take k).length : Int) ≤ L := by
    have : (xs.take k).length ≤ xs.length := by rw [List.length_take]; omega
    omega
  have := Int.mul_le_mul_of_nonneg_left hl2 hM
  omega

/-! ### copy over a whole row -/
theorem run_copy_full {P : Program} (w : World) (dT sT ty elem : TypeId) (g n c size : Nat) (b off : Nat) (cur : Array Value) (t : TypeId) (cs : List Value)
    (hu : P.underlying dT = some (.slice elem)) (hs : (P.info? elem).map (·.size) = some size) (hg : w.heap[g]? = some (.cells cur t (0, 0))) (hn : cs.length = n * size) (hcur : cur.size = n * size)
    (hsrc : ∀ j (h : j < cs.length), w.cell? ⟨b, off + j, none⟩ = some cs[j]) (h1 : ∀ v ∈ cs, v.oneCell' = true) :
    (Builtin.copy_ #[dT, sT] ty #[.slice (some ⟨g, 0, none⟩) n n, .slice (some ⟨b, off, none⟩) n c]).run P w = .ok (goInt n) (w.setRow g cs.toArray) := by
  have hsrc' : ∀ j v, cs[j]? = some v → w.cell? ((⟨b, off, none⟩ : Addr).add j) = some v := by
    intro j v hv
    obtain ⟨hj, hv⟩ := List.getElem?_eq_some_iff.1 hv
    have e : (⟨b, off, none⟩ : Addr).add j = ⟨b, off + j, none⟩ := by unfold Addr.add; split <;> simp_all
    rw [e, hsrc j hj, hv]
  have hl := run_loadCells_list (P := P) w ⟨b, off, none⟩ cs hsrc'
  have hst := run_storeCells_at P g 0 t cs 0 cur w hg (by omega) h1
  have e : (cur.toList.take (0 + 0) ++ cs ++ cur.toList.drop (0 + 0 + cs.length)).toArray = cs.toArray := by
    rw [List.drop_of_length_le (by rw [Array.length_toList]; omega)]; simp
  rw [e] at hst
  cases hq : P.info? elem with
  | none => simp [hq] at hs
  | some i =>
    have hi : i.size = size := by simpa [hq] using hs
    have hm : Nat.min n n = n := Nat.min_self n
    simp [Builtin.copy_, run_underlying hu, Builtin.lenOf, Builtin.firstCells, sizeOf, typeInfo, hq, hi, ← hn, hl, hst]
theorem below_row {B g : Nat} {w0 w : World} (hb : Below B w0 w) (hBg : B ≤ g) (cs : Array Value) : Below B w0 (w.setRow g cs) :=
  hb.trans ⟨rfl, rfl, rfl, by simp [World.setRow], fun k hk => setRow_other w g k cs (by omega)⟩

/-! ### marks -/
def marks (m : Int) (n : Nat) : List Int := (List.range n).map fun j : Nat => m + (j : Int)
theorem marks_length (m : Int) (n : Nat) : (marks m n).length = n := by simp [marks]
theorem marks_get (m : Int) (n k : Nat) (h : k < (marks m n).length) : (marks m n)[k] = m + k := by simp [marks]
theorem marks_succ (m : Int) (k : Nat) : marks m (k + 1) = marks m k ++ [m + k] := by simp [marks, List.range_succ]
theorem marks_set (m : Int) (xs : List Int) (k : Nat) (h : k < xs.length) : (ints (marks m k ++ xs.drop k)).set k (.int .i64 (m + k)) = ints (marks m (k + 1) ++ xs.drop (k + 1)) := by
  rw [List.drop_eq_getElem_cons h, marks_succ]
  simp only [ints, List.map_append, List.map_cons, List.set_append, List.length_map, marks_length]
  simp
def idx (n : Nat) : List Int := (List.range n).map fun j : Nat => (j : Int)
theorem idx_length (n : Nat) : (idx n).length = n := by simp [idx]
theorem idx_succ (k : Nat) : idx (k + 1) = idx k ++ [(k : Int)] := by simp [idx, List.range_succ]
theorem idx_get (n k : Nat) (h : k < (idx n).length) : (idx n)[k] = k := by simp [idx]
theorem ints_append (xs ys : List Int) : ints (xs ++ ys) = ints xs ++ ints ys := by simp [ints]

/-! ### searches -/
theorem all_take_succ {α : Type} (p : α → Bool) (xs : List α) (k : Nat) (h : k < xs.length) : (xs.take (k + 1)).all p = ((xs.take k).all p && p xs[k]) := by
  rw [List.take_succ_eq_append_getElem h, List.all_append]; simp
theorem all_take_end {α : Type} (p : α → Bool) (xs : List α) (k : Nat) (h : xs.length ≤ k) : (xs.take k).all p = xs.all p := by rw [List.take_of_length_le h]
theorem all_false {α : Type} (p : α → Bool) (xs : List α) (k : Nat) (h : k < xs.length) (hp : p xs[k] = false) : xs.all p = false :=
  List.all_eq_false.2 ⟨xs[k], List.getElem_mem h, by simp [hp]⟩
theorem any_take_succ {α : Type} (p : α → Bool) (xs : List α) (k : Nat) (h : k < xs.length) : (xs.take (k + 1)).any p = ((xs.take k).any p || p xs[k]) := by
  rw [List.take_succ_eq_append_getElem h, List.any_append]; simp
theorem any_true {α : Type} (p : α → Bool) (xs : List α) (k : Nat) (h : k < xs.length) (hp : p xs[k] = true) : xs.any p = true :=
  List.any_eq_true.2 ⟨xs[k], List.getElem_mem h, hp⟩

/-! ### elements of several cells -/
def flat {α : Type} (enc : α → List Value) (xs : List α) : List Value := xs.flatMap enc
section
variable {α : Type} {enc : α → List Value} {s : Nat}
theorem flat_length (hs : ∀ x, (enc x).length = s) (xs : List α) : (flat enc xs).length = xs.length * s := by
  induction xs with
  | nil => simp [flat]
  | cons x t ih => simp only [flat, List.flatMap_cons, List.length_append, hs, List.length_cons] at ih ⊢; rw [ih, Nat.add_mul]; omega
theorem flat_append (xs ys : List α) : flat enc (xs ++ ys) = flat enc xs ++ flat enc ys := by simp [flat]
theorem flat_take_succ (xs : List α) (k : Nat) (h : k < xs.length) : flat enc (xs.take (k + 1)) = flat enc (xs.take k) ++ enc xs[k] := by
  rw [List.take_succ_eq_append_getElem h, flat_append]; simp [flat]
theorem flat_get (hs : ∀ x, (enc x).length = s) (xs : List α) (k i : Nat) (hk : k < xs.length) (hi : i < s) : (flat enc xs)[k * s + i]? = (enc xs[k])[i]? := by
  induction xs generalizing k with
  | nil => simp at hk
  | cons x t ih =>
    simp only [flat, List.flatMap_cons] at ih ⊢
    cases k with
    | zero => rw [List.getElem?_append_left (by rw [hs]; omega)]; simp
    | succ k =>
      rw [List.getElem?_append_right (by rw [hs, Nat.add_mul]; omega), hs]
      rw [show (k + 1) * s + i - s = k * s + i by rw [Nat.add_mul]; omega]
      rw [ih k (by simpa using hk)]
      simp
theorem RV.flatAt {w : World} {B : Nat} {A : Option Addr} (hs : ∀ x, (enc x).length = s) {xs : List α} (h : RV w B A (flat enc xs)) (h0 : 0 < s) (hp : 0 < xs.length) :
    ∃ b off, A = some ⟨b, off, none⟩ ∧ b < B ∧ ∀ j (h : j < xs.length) i u, (enc xs[j])[i]? = some u → w.cell? ⟨b, off + (j * s + i), none⟩ = some u := by
  obtain ⟨b, off, e, hb, hc⟩ := h (by rw [flat_length hs]; exact Nat.mul_pos hp h0)
  refine ⟨b, off, e, hb, fun j hj i u hu => ?_⟩
  have hi : i < s := by
    have := (List.getElem?_eq_some_iff.1 hu).1
    rw [hs] at this
    exact this
  rw [← flat_get hs xs j i hj hi] at hu
  obtain ⟨h1, h2⟩ := List.getElem?_eq_some_iff.1 hu
  rw [hc _ h1, h2]
end

theorem RV.of_flat {α : Type} {enc : α → List Value} {s : Nat} {w : World} {B : Nat} {A : Option Addr} (hs : ∀ x, (enc x).length = s) (h0 : 0 < s) (xs : List α)
    (h : 0 < xs.length → ∃ b off, A = some ⟨b, off, none⟩ ∧ b < B ∧ ∀ k (hk : k < xs.length) i u, (enc xs[k])[i]? = some u → w.cell? ⟨b, off + (k * s + i), none⟩ = some u) : RV w B A (flat enc xs) := by
  intro hp
  rw [flat_length hs] at hp
  have hp2 : 0 < xs.length := by
    rcases Nat.eq_zero_or_pos xs.length with e | e
    · rw [e] at hp; simp at hp
    · exact e
  obtain ⟨b, off, e, hb, hc⟩ := h hp2
  refine ⟨b, off, e, hb, fun j hj => ?_⟩
  rw [flat_length hs] at hj
  have hk : j / s < xs.length := Nat.div_lt_of_lt_mul (by rw [Nat.mul_comm]; exact hj)
  have hi : j % s < s := Nat.mod_lt _ h0
  have hjj : j / s * s + j % s = j := by rw [Nat.mul_comm]; exact Nat.div_add_mod j s
  have hg := flat_get hs xs (j / s) (j % s) hk hi
  rw [hjj] at hg
  have hlt : j < (flat enc xs).length := by rw [flat_length hs]; exact hj
  rw [List.getElem?_eq_getElem hlt] at hg
  have := hc (j / s) hk (j % s) _ hg.symm
  rw [hjj] at this
  exact this

theorem toList_madeCells_two (z : Value) (n : Nat) : (madeCells #[z, z] n).toList = List.replicate n z := by
  apply List.ext_getElem?
  intro j
  by_cases hj : j < n
  · have h2 : (#[z, z] : Array Value)[j % 2]! = z := by
      rcases Nat.mod_two_eq_zero_or_one j with e | e <;> rw [e] <;> rfl
    have h3 : (madeCells #[z, z] n).toList[j]? = some ((#[z, z] : Array Value)[j % 2]!) := by simp [madeCells, hj]
    rw [h3, h2]; simp [hj]
  · simp [madeCells, hj]
theorem toList_madeCells_three (z : Value) (n : Nat) : (madeCells #[z, z, z] n).toList = List.replicate n z := by
  apply List.ext_getElem?
  intro j
  by_cases hj : j < n
  · have h2 : (#[z, z, z] : Array Value)[j % 3]! = z := by
      have : j % 3 = 0 ∨ j % 3 = 1 ∨ j % 3 = 2 := by omega
      rcases this with e | e | e <;> rw [e] <;> rfl
    have h3 : (madeCells #[z, z, z] n).toList[j]? = some ((#[z, z, z] : Array Value)[j % 3]!) := by simp [madeCells, hj]
    rw [h3, h2]; simp [hj]
  · simp [madeCells, hj]
theorem blk_made2 (w : World) (z : Value) (n : Nat) (t : TypeId) : Blk (w.alloc (.cells (madeCells #[z, z] n) t)) w.heap.size t (filled z [] n) := by
  have := Blk.new w t (madeCells #[z, z] n)
  rwa [toList_madeCells_two, ← filled_nil] at this
theorem blk_made3 (w : World) (z : Value) (n : Nat) (t : TypeId) : Blk (w.alloc (.cells (madeCells #[z, z, z] n) t)) w.heap.size t (filled z [] n) := by
  have := Blk.new w t (madeCells #[z, z, z] n)
  rwa [toList_madeCells_three, ← filled_nil] at this

/-- make with a variable size, elements of whatever number of cells, for every world. -/
theorem run_make_rowN {P : Program} (t e : TypeId) (zs : Array Value) (size bytes : Nat) (ht : P.underlying t = some (.slice e)) (hinfo : (P.info? e).map (fun i => (i.zero, i.size, i.bytes)) = some (some (.agg zs), size, bytes))
    (kl kc : IntKind) (n : Nat) (hbytes : bytes * n ≤ 281474976710656) (h63 : n ≤ 9223372036854775807) (w : World) :
    (Instr.makeSlice t (.int kl (n : Int)) (.int kc (n : Int))).run P w = .ok (.slice (some ⟨w.heap.size, 0, none⟩) n n) (w.alloc (.cells (madeCells zs (n * size)) e)) := by
  obtain ⟨i, hi, hzz⟩ := Option.map_eq_some_iff.1 hinfo
  simp only [Prod.mk.injEq] at hzz
  obtain ⟨hz, hs, hb⟩ := hzz
  have hb2 : (i.bytes : Int) * (n : Int) ≤ 281474976710656 := by
    have h : ((i.bytes * n : Nat) : Int) ≤ 281474976710656 := by rw [hb]; omega
    rwa [Int.natCast_mul] at h
  have hr := run_make (P := P) w t e i (.agg zs) ht hi hz kl kc n n (by omega) (Int.le_refl _) hb2 (by omega)
  simp only [Int.toNat_natCast, hs] at hr
  exact hr

/-! ### what a call made lies in a range of blocks; what changes lies in a range of blocks -/
structure Chg (lo hi : Nat) (w w' : World) : Prop where
  os : w'.os = w.os
  tape : w'.tape = w.tape
  output : w'.output = w.output
  size : w.heap.size ≤ w'.heap.size
  block : ∀ k, k < w.heap.size → (k < lo ∨ hi ≤ k) → w'.heap[k]? = w.heap[k]?
theorem Chg.of_below {lo hi : Nat} {w w' : World} (h : Below w.heap.size w w') : Chg lo hi w w' := ⟨h.os, h.tape, h.output, h.size, fun k hk _ => h.block k hk⟩
theorem Chg.refl (lo hi : Nat) (w : World) : Chg lo hi w w := Chg.of_below (Below.refl _ _)
theorem Chg.trans {lo hi : Nat} {a b c : World} (h : Chg lo hi a b) (k : Chg lo hi b c) : Chg lo hi a c :=
  ⟨k.os.trans h.os, k.tape.trans h.tape, k.output.trans h.output, Nat.le_trans h.size k.size, fun i hi hr => (k.block i (Nat.lt_of_lt_of_le hi h.size) hr).trans (h.block i hi hr)⟩
theorem Chg.of_grown {lo hi : Nat} {w w' : World} {row : Option Nat} (h : w.grownBy w' row) (hr : ∀ g, row = some g → lo ≤ g ∧ g < hi) : Chg lo hi w w' :=
  ⟨h.os, h.tape, h.output, h.size, fun k hk ho => h.block k hk (fun e => by have := hr k e.symm; omega)⟩
theorem Chg.wide {lo hi lo' hi' : Nat} {w w' : World} (h : Chg lo hi w w') (h1 : lo' ≤ lo) (h2 : hi ≤ hi') : Chg lo' hi' w w' :=
  ⟨h.os, h.tape, h.output, h.size, fun k hk ho => h.block k hk (by omega)⟩
theorem Below.chg {w w1 w2 : World} {lo hi : Nat} (h : Below w.heap.size w w1) (c : Chg lo hi w1 w2) (hl : w.heap.size ≤ lo) : Below w.heap.size w w2 :=
  h.trans ⟨c.os, c.tape, c.output, c.size, fun k hk => c.block k (Nat.lt_of_lt_of_le hk h.size) (.inl (by omega))⟩
/-- Owned cells that lie in blocks lo .. hi - 1. -/
def OwnR (w : World) (lo hi : Nat) (e : TypeId) (size : Nat) (v : Value) (n : Nat) (cs : List Value) : Prop := w.ownsRow lo e size v n cs ∧ ∀ k, v.ownBlock = some k → k < hi
section
variable {w w' : World} {lo hi lo' hi' : Nat} {e : TypeId} {size n : Nat} {v : Value} {cs : List Value}
theorem OwnR.mk (h : w.ownsRow lo e size v n cs) : OwnR w lo w.heap.size e size v n cs := ⟨h, fun k hk => (World.ownsRow.lt h k hk).2⟩
theorem OwnR.below (h : OwnR w lo hi e size v n cs) (b : Below w.heap.size w w') : OwnR w' lo hi e size v n cs := ⟨own_below h.1 b, h.2⟩
theorem OwnR.chg (h : OwnR w lo hi e size v n cs) (c : Chg lo' hi' w w') (ha : hi ≤ lo' ∨ hi' ≤ lo) : OwnR w' lo hi e size v n cs := by
  refine ⟨⟨h.1.1, ?_⟩, h.2⟩
  rcases h.1.2 with h0 | ⟨g, cap, cur, rfl, hb, hg, r⟩
  · exact .inl h0
  · have := h.2 g rfl
    exact .inr ⟨g, cap, cur, rfl, hb, by rw [c.block g (Array.getElem?_eq_some_iff.1 hg).1 (by omega)]; exact hg, r⟩
theorem RV.chg {B : Nat} {A : Option Addr} (h : RV w B A cs) (c : Chg lo hi w w') (hB : B ≤ lo) : RV w' B A cs := by
  intro hp
  obtain ⟨b, off, e, hb, hc⟩ := h hp
  refine ⟨b, off, e, hb, fun j hj => ?_⟩
  have hlt : b < w.heap.size := World.block_lt_of_cell? w _ (hc j hj)
  rw [World.cell?_of_block (c.block b hlt (.inl (by omega)))]
  exact hc j hj
theorem RV.step {A : Option Addr} (h : RV w w.heap.size A cs) (b : Below w.heap.size w w') : RV w' w'.heap.size A cs := (h.below b).more b.size
end
theorem OwnR.reads {w : World} {lo hi : Nat} {e : TypeId} {size n c : Nat} {A : Option Addr} {cs : List Value} (h : OwnR w lo hi e size (.slice A n c) n cs) : RV w w.heap.size A cs := by
  obtain ⟨A', c', hv, hr, _⟩ := own_form h.1
  injection hv with h1 _ _
  subst h1
  exact hr
theorem own_cell {w : World} {base n size cap g : Nat} {e : TypeId} {cs : List Value} (h : w.ownsRow base e size (.slice (some ⟨g, 0, none⟩) n cap) n cs) (j : Nat) (hj : j < n * size) : ∃ u, w.cell? ⟨g, j, none⟩ = some u :=
  ⟨_, by rw [h.cellAt j hj, List.getElem?_eq_getElem (by rw [h.1]; exact hj)]⟩
/-- The call marked the slice's cells with m, m + 1, ..; nothing else has changed. -/
def MarkP (w : World) (lo hi : Nat) (e : TypeId) (s : Nat) (A : Option Addr) (c n : Nat) (m : Int) (x : Ending) (w' : World) : Prop :=
  x = .returned (.int .i64 (m + (s : Int) * n)) ∧ OwnR w' lo hi e s (.slice A n c) n (ints (marks m (s * n))) ∧ Chg lo hi w w'
def RetE (w : World) (e : Ending) (w' : World) : Prop := e = .returned (.bool true) ∧ Below w.heap.size w w'
theorem marks_cells_set (m : Int) (cs : List Value) (k : Nat) (h : k < cs.length) : (ints (marks m k) ++ cs.drop k).set k (.int .i64 (m + k)) = ints (marks m (k + 1)) ++ cs.drop (k + 1) := by
  rw [List.drop_eq_getElem_cons h, marks_succ, ints_append, List.set_append_right _ _ (by rw [ints_length, marks_length]; exact Nat.le_refl _), ints_length, marks_length, Nat.sub_self, List.set_cons_zero, List.append_assoc]
  rfl
def szR (left : Int) (n : Nat) : Int := if left < n then -1 else left - n

/-! ### append, whatever the source -/
def EI (P : Program) (t e : TypeId) (size bytes : Nat) : Prop :=
  P.underlying t = some (.slice e) ∧ ∃ i z, P.info? e = some i ∧ i.zero = some z ∧ i.size = size ∧ i.bytes = bytes ∧ z.cells.size = size ∧ 0 < size
theorem EI.mk {P : Program} {t e : TypeId} {z : Value} {size bytes : Nat} (h : P.underlying t = some (.slice e)) (hi : (P.info? e).map (fun i => (i.zero, i.size, i.bytes)) = some (some z, size, bytes)) (hz : z.cells.size = size) (h0 : 0 < size) : EI P t e size bytes := by
  obtain ⟨i, h1, h2, h3, h4⟩ := info_parts hi
  exact ⟨h, i, z, h1, h2, h3, h4, hz, h0⟩
theorem add_off (b off j : Nat) : (⟨b, off, none⟩ : Addr).add j = ⟨b, off + j, none⟩ := by unfold Addr.add; split <;> simp_all
theorem run_app {P : Program} (w : World) (t ty : TypeId) {e : TypeId} {size bytes : Nat} (hE : EI P t e size bytes) (base : Nat) (v : Value) (n : Nat) (xs : List Value) (hown : w.ownsRow base e size v n xs)
    (A : Option Addr) (m c : Nat) (news : List Value) (hl : news.length = m * size) {B : Nat} (hr : RV w B A news) (h1 : ∀ u ∈ news, u.oneCell' = true) (h63 : n + m ≤ maxLen) (hb : (n + m) * bytes ≤ 140737488355328) (hbase : base ≤ w.heap.size) :
    ∃ v' w', (Builtin.append_ #[t, t] ty #[v, .slice A m c]).run P w = .ok v' w' ∧ w'.ownsRow base e size v' (n + m) (xs ++ news) ∧ w.grownBy w' v.ownBlock ∧ (v'.ownBlock = v.ownBlock ∨ v'.ownBlock = some w.heap.size) := by
  obtain ⟨ht, i, z, hi, hz, hs, hby, hzs, h0⟩ := hE
  cases A with
  | none =>
    have hn : news = [] := by
      rcases Nat.eq_zero_or_pos news.length with h | h
      · exact List.eq_nil_of_length_eq_zero h
      · obtain ⟨b, off, e, _⟩ := hr h
        cases e
    subst hn
    have hm : m = 0 := by
      rcases Nat.eq_zero_or_pos m with h | h
      · exact h
      · have := Nat.mul_pos h h0
        simp at hl
        omega
    subst hm
    refine ⟨v, w, ?_, by simpa using hown, World.grownBy.refl w _, .inl rfl⟩
    rcases hown.2 with ⟨rfl, rfl⟩ | ⟨g, cap, cur, rfl, _, _, hnc, _⟩
    · simp [Builtin.append_, run_underlying ht, sizeOf, typeInfo, hi, Builtin.lenOf, Builtin.firstCells]
    · simp [Builtin.append_, run_underlying ht, sizeOf, typeInfo, hi, Builtin.lenOf, Builtin.firstCells, hnc, storeCells]
  | some ad =>
    have hcells : ∀ j u, news[j]? = some u → w.cell? (ad.add j) = some u := by
      intro j u hu
      obtain ⟨hj, hu'⟩ := List.getElem?_eq_some_iff.1 hu
      obtain ⟨b, off, e, _, hc⟩ := hr (by omega)
      injection e with e
      subst e
      rw [add_off, hc j hj, hu']
    obtain ⟨v', w', hrun, h2, h3, _, h5⟩ := run_append_own_at (P := P) w base t ty e i z size bytes ht hi hz hs hby hzs h0 v n xs hown ad m c news hl hcells h1 h63 hb hbase
    exact ⟨v', w', hrun, h2, h3, h5⟩
theorem wpList_app {P : Program} (w : World) {ops : Array Oper} {rest : List Oper} {o : Oper} {a : Act} {Q : Exit → Act → World → Prop} (hgd : o.guard = none) (s x : Operand) (t : TypeId)
    (ho : o.op = .call { callee := .builtin .append, args := #[s, x], argTypes := #[t, t] }) {e : TypeId} {size bytes : Nat} (hE : EI P t e size bytes) (base : Nat) (v : Value) (n : Nat) (xs : List Value) (hs : a.eval s = v) (hown : w.ownsRow base e size v n xs)
    (A : Option Addr) (m c : Nat) (news : List Value) (hx : a.eval x = .slice A m c) (hl : news.length = m * size) {B : Nat} (hr : RV w B A news) (h1 : ∀ u ∈ news, u.oneCell' = true) (h63 : n + m ≤ maxLen) (hb : (n + m) * bytes ≤ 140737488355328) (hbase : base ≤ w.heap.size)
    (h : ∀ v' w', w'.ownsRow base e size v' (n + m) (xs ++ news) → w.grownBy w' v.ownBlock → (v'.ownBlock = v.ownBlock ∨ v'.ownBlock = some w.heap.size) → wpList P ops Q rest (a.put o.dst v') w') : wpList P ops Q (o :: rest) a w := by
  refine wpList_plain hgd fun K hK => ?_
  obtain ⟨v', w', hrun, h2, h3, h4⟩ := run_app (P := P) w t o.type hE base v n xs hown A m c news hl hr h1 h63 hb hbase
  unfold Oper.wp execOp
  simp only [ho, resolve, invoke, builtin, Sem.run_bind, Sem.run_pure, Result.andThen_ok, List.map_toArray, List.map_cons, List.map_nil, hs, hx, hrun]
  exact hK _ _ (h v' w' h2 h3 h4)
theorem rv_new (w : World) (cs : Array Value) (t : TypeId) : RV (w.alloc (.cells cs t)) (w.heap.size + 1) (some ⟨w.heap.size, 0, none⟩) cs.toList := by
  intro _
  refine ⟨_, 0, rfl, Nat.lt_succ_self _, fun j hj => ?_⟩
  rw [cell_of_row _ _ _ cs t (0, 0) (heap_alloc_new w _)]
  simp at hj
  simp [hj]
theorem below_gr {w w1 w2 : World} {row : Option Nat} (h : Below w.heap.size w w1) (hg : w1.grownBy w2 row) (hr : ∀ g, row = some g → w.heap.size ≤ g) : Below w.heap.size w w2 := h.grown hg h.size hr
theorem below_app {w w1 w2 : World} {e : TypeId} {size n : Nat} {v : Value} {xs : List Value} (h : Below w.heap.size w w1) (ho : w1.ownsRow w.heap.size e size v n xs) (hg : w1.grownBy w2 v.ownBlock) : Below w.heap.size w w2 :=
  below_gr h hg fun g hg => (World.ownsRow.lt ho g hg).1
theorem own_empty' (w : World) (t : TypeId) (size base : Nat) {g : Nat} (hg : g = w.heap.size) (hb : base ≤ g) : (w.alloc (.cells #[] t)).ownsRow base t size (.slice (some ⟨g, 0, none⟩) 0 0) 0 [] := by
  subst hg
  exact World.ownsRow_made w #[] 0 hb (by simp [maxLen]) (by simp)
theorem own_empty (w : World) (t : TypeId) (size base : Nat) (hb : base ≤ w.heap.size) : (w.alloc (.cells #[] t)).ownsRow base t size (.slice (some ⟨w.heap.size, 0, none⟩) 0 0) 0 [] :=
  World.ownsRow_made w #[] 0 hb (by simp [maxLen]) (by simp)
theorem one1 (a : Int) : ∀ u ∈ [Value.int .i64 a], u.oneCell' = true := by intro u hu; simp at hu; subst hu; rfl
theorem one2 (a b : Int) : ∀ u ∈ [Value.int .i64 a, Value.int .i64 b], u.oneCell' = true := by intro u hu; simp at hu; rcases hu with rfl | rfl <;> rfl
theorem one3 (a b c : Int) : ∀ u ∈ [Value.int .i64 a, Value.int .i64 b, Value.int .i64 c], u.oneCell' = true := by intro u hu; simp at hu; rcases hu with rfl | rfl | rfl <;> rfl
theorem one_slice (A : Option Addr) (n c : Nat) : ∀ u ∈ [Value.slice A n c], u.oneCell' = true := by intro u hu; simp at hu; subst hu; rfl
theorem le_max {n : Nat} (h : n ≤ 1000000000) : n ≤ maxLen := by simp [maxLen]; omega
end Go.Proofs.YthbledeghanffaaDoor
