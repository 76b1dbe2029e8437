/- Draws: what changes; odd; lists of drawn numbers. -/
import Derived.Test.YthbledeghanffaaDoorDraw0
import Derived.Test.YthbledeghanffaaDoorInts
set_option linter.unusedVariables false
set_option linter.unusedSimpArgs false
namespace Go.Proofs.YthbledeghanffaaDoor
open Go.ChangeShapes Go.WideShapes Go.ChangeAt Go.RowKit

theorem Chg.and_below {lo hi : Nat} {w0 w w' : World} (h : Chg lo hi w0 w) (b : Below w0.heap.size w w') : Chg lo hi w0 w' :=
  ⟨b.os.trans h.os, b.tape.trans h.tape, b.output.trans h.output, Nat.le_trans h.size b.size, fun k hk ho => (b.block k hk).trans (h.block k hk ho)⟩
theorem Chg.and_al {lo hi : Nat} {w0 w : World} (h : Chg lo hi w0 w) (o : Obj) : Chg lo hi w0 (w.alloc o) := h.and_below ((Below.refl _ _).alloc h.size o)
theorem Chg.and_step {lo hi : Nat} {w0 w w' : World} (h : Chg lo hi w0 w) (b : Below w.heap.size w w') : Chg lo hi w0 w' := h.and_below (b.mono h.size)
theorem own_chg {w w' : World} {lo n size g : Nat} {e : TypeId} {v : Value} {cs : List Value} (h : w.ownsRow lo e size v n cs) (c : Chg g (g + 1) w w') (hg : g < lo) : w'.ownsRow lo e size v n cs := by
  refine ⟨h.1, ?_⟩
  rcases h.2 with h0 | ⟨g', cap, cur, rfl, hb, hh, r⟩
  · exact .inl h0
  · exact .inr ⟨g', cap, cur, rfl, hb, by rw [c.block g' (lt_of_block hh) (by omega)]; exact hh, r⟩
theorem blk_chg {w w' : World} {g k : Nat} {t : TypeId} {cs : List Value} (h : Blk w k t cs) (c : Chg g (g + 1) w w') (hg : k ≠ g) : Blk w' k t cs := by
  unfold Blk at *
  rw [c.block k (lt_of_block h) (by omega)]; exact h
theorem Rd.belowB {w w' : World} {base g M B : Nat} (h : Rd w base g M) (b : Below B w w') (hg : g < B) : Rd w' base g M := by
  obtain ⟨A, c, xs, p, h1, h2, h3, h4⟩ := h
  exact ⟨A, c, xs, p, h1.below b hg, h2, h3.below (b.mono (by omega)), h4⟩
theorem below_app' {w0 w w' : World} {o : Obj} {e : TypeId} {size n : Nat} {v : Value} {xs : List Value} (hs : w0.heap.size ≤ w.heap.size) (ho : (w.alloc o).ownsRow w0.heap.size e size v n xs) (hg : (w.alloc o).grownBy w' v.ownBlock) : Below w0.heap.size w w' :=
  ((Below.refl w0.heap.size w).alloc hs o).grown hg (by simp; omega) fun k hk => (World.ownsRow.lt ho k hk).1
/-- A truth was drawn. -/
def OddP (w : World) (base g M : Nat) (e : Ending) (w' : World) : Prop := ∃ b : Bool, e = .returned (.bool b) ∧ Rd w' base g (M + 1) ∧ Chg g (g + 1) w w'
set_option maxHeartbeats 1000000 in
theorem odd_any (base g M : Nat) (n : Int) (w : World) (h : Rd w base g M) (hM : M ≤ 1000000) (hn : 0 ≤ n) (hn2 : n ≤ 1000000) :
    Calls Tryd.prog 74 #[.pointer (some ⟨g, 0, none⟩), .int .i64 n] w (OddP w base g M) := by
  by_cases h0 : n = 0
  · subst h0
    go_enter Tryd.func74, Tryd.ntmps74
    go_wp2
    go_ret
    exact ⟨_, rfl, h.more (by omega), Chg.refl _ _ _⟩
  · have hp : 0 < n := by omega
    clear h0
    go_enter Tryd.func74, Tryd.ntmps74
    go_wp2_with fail
    refine (pick_any base g M n _ h hM (by omega) hn2).mono ?_
    rintro e w1 ⟨v, rfl, ⟨hv, hv2⟩, r1, c1⟩
    have hw : IntKind.i64.wrap (n - 1) = n - 1 := by rw [IntKind.wrap_i64]; omega
    go_wp2
    go_ret
    exact ⟨_, rfl, r1, c1⟩
theorem int_EId : EI Tryd.prog 23 3 1 8 := EI.mk Tryd.underlying23 int_info rfl (by omega)
theorem oi_pushD {w : World} {base : Nat} {v : Value} {xs : List Int} {k : Int} (h : w.ownsRow base 3 1 v (xs.length + 1) (ints xs ++ [.int .i64 k])) : OI w base v (xs ++ [k]) := by
  rw [OI, ints_append, List.length_append]; exact h
theorem own_likeD {w w' : World} {base n size : Nat} {e : TypeId} {v : Value} {cs : List Value} (h : w.ownsRow base e size v n cs) (hh : w'.heap = w.heap) : w'.ownsRow base e size v n cs := by
  refine ⟨h.1, ?_⟩
  rcases h.2 with h0 | ⟨g, cap, cur, hv, hb, hg, r⟩
  · exact .inl h0
  · exact .inr ⟨g, cap, cur, hv, hb, by rw [hh]; exact hg, r⟩
theorem step_app {P : Program} (w : World) {ops : Array Oper} {o : Oper} {a : Act} {K : Act → World → Prop} {Q : Exit → Act → World → Prop} {E : Prop} (hgd : o.guard = none) (s x : Operand) (t : TypeId)
    (ho : o.op = .call { callee := .builtin .append, args := #[s, x], argTypes := #[t, t] }) {e : TypeId} {size bytes : Nat} (hE : EI P t e size bytes) (base : Nat) (v : Value) (n : Nat) (xs : List Value) (hs : a.eval s = v) (hown : w.ownsRow base e size v n xs)
    (A : Option Addr) (m c : Nat) (news : List Value) (hx : a.eval x = .slice A m c) (hl : news.length = m * size) {B : Nat} (hr : RV w B A news) (h1 : ∀ u ∈ news, u.oneCell' = true) (h63 : n + m ≤ maxLen) (hb : (n + m) * bytes ≤ 140737488355328) (hbase : base ≤ w.heap.size)
    (h : ∀ v' w', w'.ownsRow base e size v' (n + m) (xs ++ news) → w.grownBy w' v.ownBlock → K (a.put o.dst v') w') : if Region.wanted o (yielded ops a.tmps) = true then Oper.wp P o a w K Q else E := by
  have hw : Region.wanted o (yielded ops a.tmps) = true := by simp [Region.wanted, hgd]
  rw [if_pos hw]
  obtain ⟨v', w', hrun, h2, h3, h4⟩ := run_app (P := P) w t o.type hE base v n xs hown A m c news hl hr h1 h63 hb hbase
  unfold Oper.wp execOp
  simp only [ho, resolve, invoke, builtin, Sem.run_bind, Sem.run_pure, Result.andThen_ok, List.map_toArray, List.map_cons, List.map_nil, hs, hx, hrun]
  exact h v' w' h2 h3
/-- Only an append: a guard for an arm of 'go_region_law'. -/
theorem app_only {P : Program} {ts : Nat → Option Bool} {d : Option Nat} {args : Array Operand} {tys : Array TypeId} {ty : TypeId} {pos : String} {aft : Array Edge} {gd : Option (Nat × Bool)} {a : Act} {w : World} {K : Act → World → Prop} {Q : Exit → Act → World → Prop} {E : Prop}
    (h : if Region.wanted { dst := d, op := .call { callee := .builtin .append, args := args, argTypes := tys }, type := ty, pos := pos, after := aft, guard := gd } ts = true then Oper.wp P { dst := d, op := .call { callee := .builtin .append, args := args, argTypes := tys }, type := ty, pos := pos, after := aft, guard := gd } a w K Q else E) :
    if Region.wanted { dst := d, op := .call { callee := .builtin .append, args := args, argTypes := tys }, type := ty, pos := pos, after := aft, guard := gd } ts = true then Oper.wp P { dst := d, op := .call { callee := .builtin .append, args := args, argTypes := tys }, type := ty, pos := pos, after := aft, guard := gd } a w K Q else E := h
theorem pair_get {W : World} (a b v : Int) (h0 : 0 ≤ v) (h1 : v < 2) : ∃ y : Int, (y = a ∨ y = b) ∧ (#[Value.int .i64 a, .int .i64 b] : Array Value)[v.toNat]? = some (.int .i64 y) ∧ ∀ W k, Blk W k 3 [.int .i64 a, .int .i64 b] → W.cell? ⟨k, v.toNat, none⟩ = some (.int .i64 y) := by
  rcases (show v = 0 ∨ v = 1 by omega) with rfl | rfl
  · exact ⟨a, .inl rfl, rfl, fun W k h => h.cell 0 (by simp)⟩
  · exact ⟨b, .inr rfl, rfl, fun W k h => h.cell 1 (by simp)⟩
end Go.Proofs.YthbledeghanffaaDoor
