/- FnTasksValid: the law's walk. -/
import Derived.Test.YtjicpdleacnlaaaDoorTkM
import Derived.Test.YtjicpdleacnlaaaDoorTask8
import Derived.Test.YtjicpdleacnlaaaDoorDrawSO
import Derived.Deep.RegionHeld3
import Derived.Lib.MinMax
set_option linter.unusedVariables false
set_option linter.unusedSimpArgs false
namespace Go.Proofs.YtjicpdleacnlaaaDoor
open Go.ChangeShapes Go.WideShapes Go.ChangeAt Go.RowKit

set_option maxRecDepth 20000 in
set_option maxHeartbeats 1500000 in
theorem walk_fnTasksValid (w : World) (A : Option Addr) (c : Nat) (xs : List Int) (h : RV w w.heap.size A (bts xs)) (hc : xs.length ≤ c) (hm : c ≤ maxLen) (hb : ∀ x ∈ xs, 0 ≤ x ∧ x ≤ 255) :
    Calls Tryd.prog 7 #[.slice A xs.length c] w fun e w' => e = .returned (.bool true) ∧ Below w.heap.size w w' := by
  unfold maxLen at hm
  by_cases hl : xs.length ≤ 1048576
  · have HD := Lib.hid (drawTasksValid_any A c xs w h hc hl hb)
    clear hb h
    have hd8 : decide ((1048576 : Int) < (xs.length : Int)) = false := decide_eq_false (by omega)
    go_enter Tryd.func7, Tryd.ntmps7
    go_wp2_with fail
    refine HD.out.mono ?_
    rintro e w1 ⟨v, ts, rfl, o, ⟨hl8, hl100⟩, bel⟩
    obtain ⟨A1, c1, rfl, hcl, hcm⟩ := o.form
    clear HD hd8
    go_wp2_with fail
    refine (impl_tasksValid A1 c1 ts _ o.reads (by omega)).mono ?_
    rintro e w2 ⟨rfl, b2⟩
    replace o := o.below b2
    replace bel := below_step bel b2
    clear b2
    go_wp2_with fail
    refine (spec_tasksValid A1 c1 ts _ _ o.reads (by omega)).mono ?_
    rintro e w3 ⟨rfl, hq⟩
    have b3 : Below w2.heap.size w2 w3 := by obtain ⟨q, rfl⟩ := hq; exact below_n q
    replace o := o.below b3
    replace bel := below_step bel b3
    clear b3 hq
    cases hs : tasksB ts
    · clear hs
      obtain ⟨ps, hp1, hp2, hp3⟩ := o
      have hps : ps.length = ts.length := by have := congrArg List.length hp1; simpa using this
      obtain ⟨A', c', hv, hrp, -⟩ := own_form hp2
      injection hv with hv1 _ hv3
      subst hv1 hv3
      have hone : ∀ u ∈ pairs ps, u.oneCell' = true := pairs_oneT (ps := ps) 0 hp3
      have hbs := (bel).size
      have HP1 := Lib.hid hp1
      have HP3 := Lib.hid hp3
      have HPS := Lib.hid hps
      clear hp1 hp2 hp3 hps
      go_wp2_with (first | (at_builtin; refine wpList_appG _ (by rfl) _ _ 37 rfl task_EI w3.heap.size (.slice (some ⟨w3.heap.size, 0, none⟩) 0 0) 0 [] rfl (own_empty _ _ 2 _ (Nat.le_refl _)) A1 ts.length c1 (pairs ps) rfl (by rw [pairs_length, HPS.out]) (hrp.below (below_al (Below.refl _ _) _)) hone (le_max (by omega)) (by omega) (by simp) ?_; intro v5 w5 hO5 hg5 _; have b5 : Below w3.heap.size w3 w5 := below_app (below_al (Below.refl _ _) _) (own_empty _ _ 2 _ (Nat.le_refl _)) hg5; have hO5' : w5.ownsRow w.heap.size 41 2 v5 ts.length (pairs ps) := (by rw [Nat.zero_add, List.nil_append] at hO5; exact own_mono hO5 hbs); have b5s : w.heap.size ≤ w5.heap.size := Nat.le_trans hbs b5.size; clear hO5 hg5) | (at_builtin; refine wpList_appG _ (by rfl) _ _ 37 rfl task_EI w.heap.size v5 ts.length (pairs ps) rfl ((hO5'.alloc _).alloc _) (some ⟨w5.heap.size + 1, 0, none⟩) 1 1 [.int .i64 0, .slice (some ⟨w5.heap.size, 0, none⟩) 1 1] rfl rfl (B := w5.heap.size + 1 + 1) (by simpa using rv_new (w5.alloc (.cells #[.int .i64 (ts.length : Int)] 3)) #[.int .i64 0, .slice (some ⟨w5.heap.size, 0, none⟩) 1 1] 41) (one_isl _ _ _ _) (le_max (by omega)) (by omega) (by simp; omega) ?_; intro v6 w6 hO6 hg6 _))
      have hT5 : TKp w5 w.heap.size v5 ts ps := ⟨HP1.out, hO5', HP3.out.below b5⟩
      have hT5a : TKp (w5.alloc (.cells #[.int .i64 (ts.length : Int)] 3)) w.heap.size v5 ts ps := hT5.below (below_al (Below.refl _ _) _)
      have hT6 : TK w6 w.heap.size v6 (ts ++ [(0, [(ts.length : Int)])]) := ⟨_, TKp.push hT5 hT5a (newG w5 3 [.int .i64 (ts.length : Int)] 1 rfl (Nat.le_refl _)) b5s hO6 hg6⟩
      have b6 : Below w.heap.size w w6 := ((((bel).trans (b5.mono hbs)).alloc b5s _).alloc (by simp; omega) _).grown hg6 (by simp; omega) fun q hq => (World.ownsRow.lt hO5' q hq).1
      obtain ⟨A6, c6, rfl, -⟩ := own_form hO6
      have hlm : (ts ++ [((0 : Int), [(ts.length : Int)])]).length = ts.length + 1 := by simp
      have hcall := impl_tasksValid A6 c6 (ts ++ [((0 : Int), [(ts.length : Int)])]) w6 hT6.reads (by rw [hlm]; simp [totT]; simp [totT] at hl100; omega)
      rw [hlm, tasks_more] at hcall
      refine hcall.mono ?_
      rintro e w7 ⟨rfl, b7⟩
      have hb7 := below_step b6 b7
      clear hcall hlm hT5 hT5a hT6 b6 b7 hO6 hg6 hO5' b5 hrp hone
      go_wp2_with fail
      refine (alive_any _).mono ?_
      rintro e w99 ⟨rfl, b99⟩
      go_wp2
      go_ret
      exact ⟨rfl, below_step hb7 b99⟩
    · by_cases hp : 0 < ts.length
      · have hz1 : ((ts.length : Int) == 0) = false := by rw [beq_eq_false_iff_ne]; omega
        have htl : (ts.take (ts.length - 1)).length = ts.length - 1 := by rw [List.length_take]; omega
        have hcall := impl_tasksValid A1 c1 (ts.take (ts.length - 1)) _ (o.reads.take (ts.length - 1)) (by have := totT_take (ts := ts) (ts.length - 1); omega)
        rw [htl, tasks_take hs (ts.length - 1) (by omega)] at hcall
        have HC := Lib.hid hcall
        clear hcall htl hs
        go_wp2_with fail
        refine HC.out.mono ?_
        rintro e w4 ⟨rfl, b4⟩
        replace o := o.below b4
        replace bel := below_step bel b4
        clear b4 HC hz1
        obtain ⟨ps, hp1, hp2, hp3⟩ := o
        have hps : ps.length = ts.length := by have := congrArg List.length hp1; simpa using this
        obtain ⟨A', c', hv, hrp, -⟩ := own_form hp2
        injection hv with hv1 _ hv3
        subst hv1 hv3
        have hone : ∀ u ∈ pairs ps, u.oneCell' = true := pairs_oneT (ps := ps) 0 hp3
        have hbs := (bel).size
        have HP1 := Lib.hid hp1
        have HP3 := Lib.hid hp3
        have HPS := Lib.hid hps
        clear hp1 hp2 hp3 hps
        go_wp2_with (first | (at_builtin; refine wpList_appG _ (by rfl) _ _ 37 rfl task_EI w4.heap.size (.slice (some ⟨w4.heap.size, 0, none⟩) 0 0) 0 [] rfl (own_empty _ _ 2 _ (Nat.le_refl _)) A1 ts.length c1 (pairs ps) rfl (by rw [pairs_length, HPS.out]) (hrp.below (below_al (Below.refl _ _) _)) hone (le_max (by omega)) (by omega) (by simp) ?_; intro v5 w5 hO5 hg5 _; have b5 : Below w4.heap.size w4 w5 := below_app (below_al (Below.refl _ _) _) (own_empty _ _ 2 _ (Nat.le_refl _)) hg5; have hO5' : w5.ownsRow w.heap.size 41 2 v5 ts.length (pairs ps) := (by rw [Nat.zero_add, List.nil_append] at hO5; exact own_mono hO5 hbs); have b5s : w.heap.size ≤ w5.heap.size := Nat.le_trans hbs b5.size; clear hO5 hg5) | (at_builtin; refine wpList_appG _ (by rfl) _ _ 37 rfl task_EI w.heap.size v5 ts.length (pairs ps) rfl ((hO5'.alloc _).alloc _) (some ⟨w5.heap.size + 1, 0, none⟩) 1 1 [.int .i64 0, .slice (some ⟨w5.heap.size, 0, none⟩) 1 1] rfl rfl (B := w5.heap.size + 1 + 1) (by simpa using rv_new (w5.alloc (.cells #[.int .i64 (ts.length : Int)] 3)) #[.int .i64 0, .slice (some ⟨w5.heap.size, 0, none⟩) 1 1] 41) (one_isl _ _ _ _) (le_max (by omega)) (by omega) (by simp; omega) ?_; intro v6 w6 hO6 hg6 _))
        have hT5 : TKp w5 w.heap.size v5 ts ps := ⟨HP1.out, hO5', HP3.out.below b5⟩
        have hT5a : TKp (w5.alloc (.cells #[.int .i64 (ts.length : Int)] 3)) w.heap.size v5 ts ps := hT5.below (below_al (Below.refl _ _) _)
        have hT6 : TK w6 w.heap.size v6 (ts ++ [(0, [(ts.length : Int)])]) := ⟨_, TKp.push hT5 hT5a (newG w5 3 [.int .i64 (ts.length : Int)] 1 rfl (Nat.le_refl _)) b5s hO6 hg6⟩
        have b6 : Below w.heap.size w w6 := ((((bel).trans (b5.mono hbs)).alloc b5s _).alloc (by simp; omega) _).grown hg6 (by simp; omega) fun q hq => (World.ownsRow.lt hO5' q hq).1
        obtain ⟨A6, c6, rfl, -⟩ := own_form hO6
        have hlm : (ts ++ [((0 : Int), [(ts.length : Int)])]).length = ts.length + 1 := by simp
        have hcall := impl_tasksValid A6 c6 (ts ++ [((0 : Int), [(ts.length : Int)])]) w6 hT6.reads (by rw [hlm]; simp [totT]; simp [totT] at hl100; omega)
        rw [hlm, tasks_more] at hcall
        refine hcall.mono ?_
        rintro e w7 ⟨rfl, b7⟩
        have hb7 := below_step b6 b7
        clear hcall hlm hT5 hT5a hT6 b6 b7 hO6 hg6 hO5' b5 hrp hone
        go_wp2_with fail
        refine (alive_any _).mono ?_
        rintro e w99 ⟨rfl, b99⟩
        go_wp2
        go_ret
        exact ⟨rfl, below_step hb7 b99⟩
      · have hz1 : ((ts.length : Int) == 0) = true := by rw [beq_iff_eq]; omega
        clear hs hp
        obtain ⟨ps, hp1, hp2, hp3⟩ := o
        have hps : ps.length = ts.length := by have := congrArg List.length hp1; simpa using this
        obtain ⟨A', c', hv, hrp, -⟩ := own_form hp2
        injection hv with hv1 _ hv3
        subst hv1 hv3
        have hone : ∀ u ∈ pairs ps, u.oneCell' = true := pairs_oneT (ps := ps) 0 hp3
        have hbs := (bel).size
        have HP1 := Lib.hid hp1
        have HP3 := Lib.hid hp3
        have HPS := Lib.hid hps
        clear hp1 hp2 hp3 hps
        go_wp2_with (first | (at_builtin; refine wpList_appG _ (by rfl) _ _ 37 rfl task_EI w3.heap.size (.slice (some ⟨w3.heap.size, 0, none⟩) 0 0) 0 [] rfl (own_empty _ _ 2 _ (Nat.le_refl _)) A1 ts.length c1 (pairs ps) rfl (by rw [pairs_length, HPS.out]) (hrp.below (below_al (Below.refl _ _) _)) hone (le_max (by omega)) (by omega) (by simp) ?_; intro v5 w5 hO5 hg5 _; have b5 : Below w3.heap.size w3 w5 := below_app (below_al (Below.refl _ _) _) (own_empty _ _ 2 _ (Nat.le_refl _)) hg5; have hO5' : w5.ownsRow w.heap.size 41 2 v5 ts.length (pairs ps) := (by rw [Nat.zero_add, List.nil_append] at hO5; exact own_mono hO5 hbs); have b5s : w.heap.size ≤ w5.heap.size := Nat.le_trans hbs b5.size; clear hO5 hg5) | (at_builtin; refine wpList_appG _ (by rfl) _ _ 37 rfl task_EI w.heap.size v5 ts.length (pairs ps) rfl ((hO5'.alloc _).alloc _) (some ⟨w5.heap.size + 1, 0, none⟩) 1 1 [.int .i64 0, .slice (some ⟨w5.heap.size, 0, none⟩) 1 1] rfl rfl (B := w5.heap.size + 1 + 1) (by simpa using rv_new (w5.alloc (.cells #[.int .i64 (ts.length : Int)] 3)) #[.int .i64 0, .slice (some ⟨w5.heap.size, 0, none⟩) 1 1] 41) (one_isl _ _ _ _) (le_max (by omega)) (by omega) (by simp; omega) ?_; intro v6 w6 hO6 hg6 _))
        have hT5 : TKp w5 w.heap.size v5 ts ps := ⟨HP1.out, hO5', HP3.out.below b5⟩
        have hT5a : TKp (w5.alloc (.cells #[.int .i64 (ts.length : Int)] 3)) w.heap.size v5 ts ps := hT5.below (below_al (Below.refl _ _) _)
        have hT6 : TK w6 w.heap.size v6 (ts ++ [(0, [(ts.length : Int)])]) := ⟨_, TKp.push hT5 hT5a (newG w5 3 [.int .i64 (ts.length : Int)] 1 rfl (Nat.le_refl _)) b5s hO6 hg6⟩
        have b6 : Below w.heap.size w w6 := ((((bel).trans (b5.mono hbs)).alloc b5s _).alloc (by simp; omega) _).grown hg6 (by simp; omega) fun q hq => (World.ownsRow.lt hO5' q hq).1
        obtain ⟨A6, c6, rfl, -⟩ := own_form hO6
        have hlm : (ts ++ [((0 : Int), [(ts.length : Int)])]).length = ts.length + 1 := by simp
        have hcall := impl_tasksValid A6 c6 (ts ++ [((0 : Int), [(ts.length : Int)])]) w6 hT6.reads (by rw [hlm]; simp [totT]; simp [totT] at hl100; omega)
        rw [hlm, tasks_more] at hcall
        refine hcall.mono ?_
        rintro e w7 ⟨rfl, b7⟩
        have hb7 := below_step b6 b7
        clear hcall hlm hT5 hT5a hT6 b6 b7 hO6 hg6 hO5' b5 hrp hone
        go_wp2_with fail
        refine (alive_any _).mono ?_
        rintro e w99 ⟨rfl, b99⟩
        go_wp2
        go_ret
        exact ⟨rfl, below_step hb7 b99⟩
  · go_enter Tryd.func7, Tryd.ntmps7
    go_wp2
    go_ret
    exact ⟨rfl, Below.refl _ _⟩
end Go.Proofs.YtjicpdleacnlaaaDoor
