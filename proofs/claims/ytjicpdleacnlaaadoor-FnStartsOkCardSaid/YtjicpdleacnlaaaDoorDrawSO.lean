/- Tasks and their times are drawn (DrawStartsOk). -/
import Derived.Test.YtjicpdleacnlaaaDoorDrawTkL
import Derived.Test.YtjicpdleacnlaaaDoorTaskW
import Derived.Test.YtjicpdleacnlaaaDoorTask5
import Derived.Lib.MinMax
set_option linter.unusedVariables false
set_option linter.unusedSimpArgs false
namespace Go.Proofs.YtjicpdleacnlaaaDoor
open Go.ChangeShapes Go.WideShapes Go.ChangeAt Go.RowKit

/-- What lies in blocks lo .. hi - 1 is as it was. -/
def KeepR (lo hi : Nat) (w w' : World) : Prop := hi ≤ w'.heap.size ∧ ∀ k, lo ≤ k → k < hi → w'.heap[k]? = w.heap[k]?
theorem KeepR.refl {lo hi : Nat} {w : World} (h : hi ≤ w.heap.size) : KeepR lo hi w w := ⟨h, fun _ _ _ => rfl⟩
theorem KeepR.chg {lo hi g : Nat} {w a b : World} (h : KeepR lo hi w a) (c : Chg g (g + 1) a b) (hg : g < lo) : KeepR lo hi w b :=
  ⟨Nat.le_trans h.1 c.size, fun k hk hk2 => (c.block k (Nat.lt_of_lt_of_le hk2 h.1) (.inr (by omega))).trans (h.2 k hk hk2)⟩
theorem KeepR.below {lo hi : Nat} {w a b : World} (h : KeepR lo hi w a) (c : Below hi a b) : KeepR lo hi w b :=
  ⟨Nat.le_trans h.1 c.size, fun k hk hk2 => (c.block k hk2).trans (h.2 k hk hk2)⟩
theorem TK.keepR {w w' : World} {lo hi : Nat} {v : Value} {ts : List Tsk} (h : TK w lo v ts) (hh : w.heap.size = hi) (hk : KeepR lo hi w w') : TK w' lo v ts := by
  subst hh
  obtain ⟨ps, h1, h2, h3⟩ := h
  refine ⟨ps, h1, ownI_keep h2 fun g hg => ?_, ⟨h3.len, fun j hj hj' => ?_, h3.apart⟩⟩
  · have := World.ownsRow.lt h2 g hg
    exact hk.2 g this.1 this.2
  · obtain ⟨Aj, cj, e, ho⟩ := h3.at_ j hj hj'
    refine ⟨Aj, cj, e, ownI_keep ho fun g hg => ?_⟩
    have := World.ownsRow.lt ho g hg
    exact hk.2 g this.1 this.2
theorem TK.chg {w w' : World} {lo g : Nat} {v : Value} {ts : List Tsk} (h : TK w lo v ts) (c : Chg g (g + 1) w w') (hg : g < lo) : TK w' lo v ts := by
  obtain ⟨ps, h1⟩ := h
  exact ⟨ps, h1.chg c hg⟩
theorem TK.below {w w' : World} {lo : Nat} {v : Value} {ts : List Tsk} (h : TK w lo v ts) (b : Below w.heap.size w w') : TK w' lo v ts := by
  obtain ⟨ps, h1⟩ := h
  exact ⟨ps, h1.below b⟩
theorem TK.formD {w : World} {lo : Nat} {v : Value} {ts : List Tsk} (h : TK w lo v ts) : ∃ A c, v = .slice A ts.length c ∧ ts.length ≤ c ∧ c ≤ maxLen := by
  obtain ⟨ps, h1⟩ := h
  exact h1.form
theorem at0_nil (a : Nat) : at0 [] a = 0 := by simp [at0]
theorem earlyF_b (ts : List Tsk) (h : ts.length ≤ 8) : (earlyF ts).length ≤ 8 ∧ ∀ a, -5000 ≤ at0 (earlyF ts) a ∧ at0 (earlyF ts) a ≤ 5000 := by
  cases hs : tasksB ts
  · rw [earlyF_no hs]; exact ⟨by simp, fun a => by rw [at0_nil]; omega⟩
  · rw [earlyF_yes hs]; exact ⟨by rw [early_length]; exact h, fun a => by have := early_bound hs ts.length a; omega⟩
theorem lateF_b (ts : List Tsk) (h : ts.length ≤ 8) : (lateF ts).length ≤ 8 ∧ ∀ a, -5000 ≤ at0 (lateF ts) a ∧ at0 (lateF ts) a ≤ 5000 := by
  cases hs : tasksB ts
  · rw [lateF_no hs]; exact ⟨by simp, fun a => by rw [at0_nil]; omega⟩
  · rw [lateF_yes hs]; exact ⟨by rw [lateK_length]; exact h, fun a => by have := lateK_bound hs ts.length (Nat.le_refl _) a; omega⟩
def DrawSO (w : World) (e : Ending) (w' : World) : Prop := ∃ (A1 : Option Addr) (c1 : Nat) (ts : List Tsk) (v2 : Value) (zs : List Int), e = .returned (.tuple #[.slice A1 ts.length c1, v2]) ∧ TK w' w.heap.size (.slice A1 ts.length c1) ts ∧ OI w' w.heap.size v2 zs ∧
  (ts.length ≤ 8 ∧ ts.length + totT ts ≤ 100) ∧ zs.length ≤ 20 ∧ (∀ a, -100000 ≤ at0 zs a ∧ at0 zs a ≤ 100000) ∧ Below w.heap.size w w'
set_option maxRecDepth 20000 in
set_option maxHeartbeats 8000000 in
theorem drawStartsOk_any (A : Option Addr) (c : Nat) (xs : List Int) (w : World) (h : RV w w.heap.size A (bts xs)) (hc : xs.length ≤ c) (hl : xs.length ≤ 1048576) (hb : ∀ x ∈ xs, 0 ≤ x ∧ x ≤ 255) :
    Calls Tryd.prog 42 #[.slice A xs.length c] w (DrawSO w) := by
  have HO := Lib.hid (open_any A c xs w h hc hl hb)
  clear hb h
  go_enter Tryd.func42, Tryd.ntmps42
  go_wp2_with fail
  refine HO.out.mono ?_
  rintro e w1 ⟨g, rfl, r1, b1⟩
  have hg := r1.lt
  go_wp2_with fail
  refine (l20Tasks_any w.heap.size g 0 9 _ r1 (by omega) (by omega) (by omega)).mono ?_
  rintro e w2 ⟨v, ts, rfl, o, ⟨hl1, hl2⟩, r2, c2⟩
  have hts := totT_small ts hl2
  have bel2 := Below.chg b1 c2 hg.1
  have hgl := hg.2
  have hgh0 : g < w2.heap.size := Nat.lt_of_lt_of_le hgl c2.size
  obtain ⟨A1, c1, rfl, hcl, hcm⟩ := o.formD
  have hr1 := o.reads
  clear r1 c2 HO hl2
  go_wp2_with fail
  refine (spec_startsEarly A1 c1 ts _ hr1 (by omega)).mono ?_
  rintro e w3 ⟨v3, rfl, o3, b3⟩
  have r3 := r2.below b3
  have bel3 := below_step bel2 b3
  have t3 := o.below b3
  have k3 : KeepR w1.heap.size w2.heap.size w2 w3 := (KeepR.refl (Nat.le_refl _)).below b3
  have hwhi := bel2.size
  obtain ⟨hi, hhi⟩ : ∃ hi, w2.heap.size = hi := ⟨_, rfl⟩
  rw [hhi] at o3 k3 hgh0 hwhi
  have hgh : g < hi := hgh0
  clear hr1 b3 r2 bel2 hgh0
  go_wp2_with fail
  refine (pick_any w.heap.size g _ 2 _ r3 (by omega) (by omega) (by omega)).mono ?_
  rintro e w4 ⟨y, rfl, ⟨hy0, hy2⟩, r4, c4⟩
  have bel4 := Below.chg bel3 c4 hg.1
  have k4 := k3.chg c4 hgl
  have t4 := t3.chg c4 hgl
  have o4 : OI w4 hi v3 (earlyF ts) := own_chg o3 c4 hgh
  clear r3 bel3 k3 t3 o3 c4
  rcases (show y = 0 ∨ y = 1 by omega) with rfl | rfl
  · have hr4 := t4.reads
    clear o4
    go_wp2_with fail
    refine (spec_startsLate A1 c1 ts _ hr4 (by omega)).mono ?_
    rintro e w5 ⟨v5, rfl, o5, b5⟩
    have o5' := OI.mono o5 k4.1
    have r5 := r4.below b5
    have k5 := k4.below (b5.mono k4.1)
    have bel5 := below_step bel4 b5
    obtain ⟨hyl, hyb⟩ := lateF_b ts hl1
    have HYB := Lib.hid hyb
    clear o5 b5 hr4 t4 r4 k4 bel4 hyb
    generalize lateF ts = ys at *
    go_wp2_with fail
    refine (pick_any w.heap.size g _ 6 _ r5 (by omega) (by omega) (by omega)).mono ?_
    rintro e w6 ⟨y6, rfl, ⟨hy60, hy66⟩, r6, c6⟩
    have hO6 := own_chg o5' c6 hgh
    have hK6 := k5.chg c6 hgl
    have hB6 := Below.chg bel5 c6 hg.1
    clear c6 r5 o5' k5 bel5
    unfold OI at hO6
    obtain ⟨Ax, cx, rfl, -⟩ := own_form hO6
    obtain ⟨n, hn⟩ : ∃ n, (ys).length = n := ⟨_, rfl⟩
    rw [hn] at hO6 hyl ⊢
    have HN := Lib.hid hn
    clear hn
    go_wp2
    go_loopw [8] (fun i wr => ∃ (k : Nat) (zs : List Int), k ≤ n ∧ i = .int .i64 k ∧ Hid (zs.length = n) ∧ Hid (∀ a, -(5000 + 10 * (k : Int)) ≤ at0 zs a ∧ at0 zs a ≤ 5000 + 10 * k) ∧ wr.ownsRow hi 3 1 (.slice Ax n cx) n (ints zs) ∧ Rd wr w.heap.size g (5000 + k) ∧ KeepR w1.heap.size hi w2 wr ∧ Below w.heap.size w wr) (fun i _ => n - (intOf i).toNat)
    case atStart => exact ⟨0, _, Nat.zero_le _, rfl, HN, Lib.hid (fun a => by have := HYB.out a; omega), hO6, r6.more (by omega), hK6, hB6⟩
    case round =>
      clear r6 hO6 hK6 hB6
      obtain ⟨k, zs, hk, rfl, HZ, HB, hO, hR, hK, hW⟩ := hrel
      by_cases hlt : k < n
      · obtain ⟨g5, rfl, hg5⟩ := own_head hO (by omega)
        obtain ⟨hcell, hfr⟩ := row_at0 hO k (by rw [HZ.out]; exact hlt)
        have hb := HB.out k
        have hO1 := row_set hO k (at0 zs k + y6)
        have hb1 : Below hi wr (wr.setCell ⟨g5, k, none⟩ (.int .i64 (at0 zs k + y6))) := (Below.refl hi wr).setCell hg5 _
        have hR1 := hR.belowB hb1 hgh
        have hK1 := hK.below hb1
        have hW1 : Below w.heap.size w (wr.setCell ⟨g5, k, none⟩ (.int .i64 (at0 zs k + y6))) := hW.setCell (Nat.le_trans hwhi hg5) _
        have HZ1 : Hid ((zs.set k (at0 zs k + y6)).length = n) := Lib.hid (by rw [List.length_set]; exact HZ.out)
        have HE1 := Lib.hid (at0_set_eq zs k (at0 zs k + y6) (by rw [HZ.out]; exact hlt))
        have HB1 : Hid (∀ a, -(5000 + 10 * (k : Int)) ≤ at0 (zs.set k (at0 zs k + y6)) a ∧ at0 (zs.set k (at0 zs k + y6)) a ≤ 5000 + 10 * k + 5) := Lib.hid (fun a => by
          by_cases e : k = a
          · subst e; rw [HE1.out]; omega
          · rw [at0_set_ne _ _ _ _ e]; have := HB.out a; omega)
        clear hO hR hK hW hb1
        generalize zs.set k (at0 zs k + y6) = us at *
        generalize at0 zs k = x at *
        go_wp2_with fail
        refine (pick_any w.heap.size g (5000 + k) 9 _ hR1 (by omega) (by omega) (by omega)).mono ?_
        rintro e w7 ⟨y7, rfl, ⟨hy70, hy79⟩, r7, c7⟩
        have hO7 := own_chg hO1 c7 hgh
        have hK7 := hK1.chg c7 hgl
        have hW7 := Below.chg hW1 c7 hg.1
        clear c7 hR1 hO1 hK1 hW1
        by_cases hy : y7 = 0
        · subst hy
          obtain ⟨hcell7, hfr7⟩ := row_at0 hO7 k (by rw [HZ1.out]; exact hlt)
          rw [HE1.out] at hcell7
          have hb7 : Below hi w7 (w7.setCell ⟨g5, k, none⟩ (.int .i64 (max (x + y6 - 1) 0))) := (Below.refl hi w7).setCell hg5 _
          have HO8 := Lib.hid (row_set hO7 k (max (x + y6 - 1) 0))
          have HR8 := Lib.hid (r7.belowB hb7 hgh)
          have HK8 := Lib.hid (hK7.below hb7)
          have HW8 : Hid (Below w.heap.size w (w7.setCell ⟨g5, k, none⟩ (.int .i64 (max (x + y6 - 1) 0)))) := Lib.hid (hW7.setCell (Nat.le_trans hwhi hg5) _)
          have HZ8 : Hid ((us.set k (max (x + y6 - 1) 0)).length = n) := Lib.hid (by rw [List.length_set]; exact HZ1.out)
          have HB8 : Hid (∀ a, -(5000 + 10 * ((k + 1 : Nat) : Int)) ≤ at0 (us.set k (max (x + y6 - 1) 0)) a ∧ at0 (us.set k (max (x + y6 - 1) 0)) a ≤ 5000 + 10 * ((k + 1 : Nat) : Int)) := Lib.hid (fun a => by
            by_cases e : k = a
            · subst e; rw [at0_set_eq _ _ _ (by rw [HZ1.out]; exact hlt)]; omega
            · rw [at0_set_ne _ _ _ _ e]; have := HB1.out a; omega)
          clear hO7 r7 hK7 hW7 hb7
          go_wp2
          go_roundw
          case rel => exact ⟨k + 1, _, by omega, by go_num, HZ8, HB8, HO8.out, HR8.out.more (by omega), HK8.out, HW8.out⟩
          case measure => (simp [intOf]) <;> omega
        · have hy0 : (y7 == 0) = false := by rw [beq_eq_false_iff_ne]; exact hy
          have HB8 : Hid (∀ a, -(5000 + 10 * ((k + 1 : Nat) : Int)) ≤ at0 us a ∧ at0 us a ≤ 5000 + 10 * ((k + 1 : Nat) : Int)) := Lib.hid (fun a => by have := HB1.out a; omega)
          have HO8 := Lib.hid hO7
          clear hO7
          go_wp2
          go_roundw
          case rel => exact ⟨k + 1, us, by omega, by go_num, HZ1, HB8, HO8.out, r7.more (by omega), hK7, hW7⟩
          case measure => (simp [intOf]) <;> omega
      · obtain rfl : k = n := by omega
        go_wp2_with fail
        refine (odd_any w.heap.size g (5000 + k) 14 _ hR (by omega) (by omega) (by omega)).mono ?_
        rintro e w8 ⟨b, rfl, r8, c8⟩
        have hO8 := own_chg hO c8 hgh
        have hK8 := hK.chg c8 hgl
        have hW8 := Below.chg hW c8 hg.1
        have h8s := hK8.1
        clear hO hR hK hW c8 r8
        cases b
        · have HT := Lib.hid ((TK.keepR o hhi hK8).lower b1.size)
          have HO8 := Lib.hid hO8
          clear hO8
          go_wp2
          refine bodyPost_ret (v := .tuple #[.slice A1 ts.length c1, .slice Ax k cx]) (by simp [results, Tryd.results42, go_sem]) rfl ?_
          refine ⟨A1, c1, ts, _, zs, rfl, HT.out, ?_, ⟨hl1, by omega⟩, by rw [HZ.out]; omega, fun a => by have := HB.out a; omega, hW8⟩
          have hf := HO8.out
          have e := HZ.out
          rw [OI, e]
          exact own_mono hf hwhi
        · go_wp2_with (at_builtin; refine wpList_app _ rfl (.tmp 51) (.tmp 52) 23 rfl int_EIT hi (.slice Ax k cx) k (ints zs) rfl (hO8.alloc _) (some ⟨_, 0, none⟩) 1 1 [.int .i64 0] rfl rfl (rv_new _ _ _) (one1 _) (le_max (by omega)) (by omega) (by simp; omega) ?_; intro v9 w9 hO9 hg9 hv9)
          have hb9 : Below hi w8 w9 := ((Below.refl hi w8).alloc h8s _).grown hg9 (by simp; omega) fun q hq => (World.ownsRow.lt hO8 q hq).1
          have HT := Lib.hid ((TK.keepR o hhi (hK8.below hb9)).lower b1.size)
          have HO9 := Lib.hid (oi_pushT (xs := zs) (by rw [HZ.out]; exact hO9))
          have HW9 := Lib.hid (hW8.trans (hb9.mono hwhi))
          clear hO9 hg9 hv9 hO8 hb9
          refine bodyPost_ret (v := .tuple #[.slice A1 ts.length c1, v9]) (by simp [results, Tryd.results42, go_sem]) rfl ?_
          exact ⟨A1, c1, ts, _, zs ++ [0], rfl, HT.out, OI.mono HO9.out hwhi, ⟨hl1, by omega⟩, by rw [List.length_append, HZ.out]; simp; omega, fun a => by rw [at0_push]; have := HB.out a; split <;> (try split) <;> omega, HW9.out⟩
  · obtain ⟨hyl, hyb⟩ := earlyF_b ts hl1
    have HYB := Lib.hid hyb
    clear t4 hyb
    generalize earlyF ts = ys at *
    go_wp2_with fail
    refine (pick_any w.heap.size g _ 6 _ r4 (by omega) (by omega) (by omega)).mono ?_
    rintro e w6 ⟨y6, rfl, ⟨hy60, hy66⟩, r6, c6⟩
    have hO6 := own_chg o4 c6 hgh
    have hK6 := k4.chg c6 hgl
    have hB6 := Below.chg bel4 c6 hg.1
    clear c6 r4 o4 k4 bel4
    unfold OI at hO6
    obtain ⟨Ax, cx, rfl, -⟩ := own_form hO6
    obtain ⟨n, hn⟩ : ∃ n, (ys).length = n := ⟨_, rfl⟩
    rw [hn] at hO6 hyl ⊢
    have HN := Lib.hid hn
    clear hn
    go_wp2
    go_loopw [8] (fun i wr => ∃ (k : Nat) (zs : List Int), k ≤ n ∧ i = .int .i64 k ∧ Hid (zs.length = n) ∧ Hid (∀ a, -(5000 + 10 * (k : Int)) ≤ at0 zs a ∧ at0 zs a ≤ 5000 + 10 * k) ∧ wr.ownsRow hi 3 1 (.slice Ax n cx) n (ints zs) ∧ Rd wr w.heap.size g (5000 + k) ∧ KeepR w1.heap.size hi w2 wr ∧ Below w.heap.size w wr) (fun i _ => n - (intOf i).toNat)
    case atStart => exact ⟨0, _, Nat.zero_le _, rfl, HN, Lib.hid (fun a => by have := HYB.out a; omega), hO6, r6.more (by omega), hK6, hB6⟩
    case round =>
      clear r6 hO6 hK6 hB6
      obtain ⟨k, zs, hk, rfl, HZ, HB, hO, hR, hK, hW⟩ := hrel
      by_cases hlt : k < n
      · obtain ⟨g5, rfl, hg5⟩ := own_head hO (by omega)
        obtain ⟨hcell, hfr⟩ := row_at0 hO k (by rw [HZ.out]; exact hlt)
        have hb := HB.out k
        have hO1 := row_set hO k (at0 zs k + y6)
        have hb1 : Below hi wr (wr.setCell ⟨g5, k, none⟩ (.int .i64 (at0 zs k + y6))) := (Below.refl hi wr).setCell hg5 _
        have hR1 := hR.belowB hb1 hgh
        have hK1 := hK.below hb1
        have hW1 : Below w.heap.size w (wr.setCell ⟨g5, k, none⟩ (.int .i64 (at0 zs k + y6))) := hW.setCell (Nat.le_trans hwhi hg5) _
        have HZ1 : Hid ((zs.set k (at0 zs k + y6)).length = n) := Lib.hid (by rw [List.length_set]; exact HZ.out)
        have HE1 := Lib.hid (at0_set_eq zs k (at0 zs k + y6) (by rw [HZ.out]; exact hlt))
        have HB1 : Hid (∀ a, -(5000 + 10 * (k : Int)) ≤ at0 (zs.set k (at0 zs k + y6)) a ∧ at0 (zs.set k (at0 zs k + y6)) a ≤ 5000 + 10 * k + 5) := Lib.hid (fun a => by
          by_cases e : k = a
          · subst e; rw [HE1.out]; omega
          · rw [at0_set_ne _ _ _ _ e]; have := HB.out a; omega)
        clear hO hR hK hW hb1
        generalize zs.set k (at0 zs k + y6) = us at *
        generalize at0 zs k = x at *
        go_wp2_with fail
        refine (pick_any w.heap.size g (5000 + k) 9 _ hR1 (by omega) (by omega) (by omega)).mono ?_
        rintro e w7 ⟨y7, rfl, ⟨hy70, hy79⟩, r7, c7⟩
        have hO7 := own_chg hO1 c7 hgh
        have hK7 := hK1.chg c7 hgl
        have hW7 := Below.chg hW1 c7 hg.1
        clear c7 hR1 hO1 hK1 hW1
        by_cases hy : y7 = 0
        · subst hy
          obtain ⟨hcell7, hfr7⟩ := row_at0 hO7 k (by rw [HZ1.out]; exact hlt)
          rw [HE1.out] at hcell7
          have hb7 : Below hi w7 (w7.setCell ⟨g5, k, none⟩ (.int .i64 (max (x + y6 - 1) 0))) := (Below.refl hi w7).setCell hg5 _
          have HO8 := Lib.hid (row_set hO7 k (max (x + y6 - 1) 0))
          have HR8 := Lib.hid (r7.belowB hb7 hgh)
          have HK8 := Lib.hid (hK7.below hb7)
          have HW8 : Hid (Below w.heap.size w (w7.setCell ⟨g5, k, none⟩ (.int .i64 (max (x + y6 - 1) 0)))) := Lib.hid (hW7.setCell (Nat.le_trans hwhi hg5) _)
          have HZ8 : Hid ((us.set k (max (x + y6 - 1) 0)).length = n) := Lib.hid (by rw [List.length_set]; exact HZ1.out)
          have HB8 : Hid (∀ a, -(5000 + 10 * ((k + 1 : Nat) : Int)) ≤ at0 (us.set k (max (x + y6 - 1) 0)) a ∧ at0 (us.set k (max (x + y6 - 1) 0)) a ≤ 5000 + 10 * ((k + 1 : Nat) : Int)) := Lib.hid (fun a => by
            by_cases e : k = a
            · subst e; rw [at0_set_eq _ _ _ (by rw [HZ1.out]; exact hlt)]; omega
            · rw [at0_set_ne _ _ _ _ e]; have := HB1.out a; omega)
          clear hO7 r7 hK7 hW7 hb7
          go_wp2
          go_roundw
          case rel => exact ⟨k + 1, _, by omega, by go_num, HZ8, HB8, HO8.out, HR8.out.more (by omega), HK8.out, HW8.out⟩
          case measure => (simp [intOf]) <;> omega
        · have hy0 : (y7 == 0) = false := by rw [beq_eq_false_iff_ne]; exact hy
          have HB8 : Hid (∀ a, -(5000 + 10 * ((k + 1 : Nat) : Int)) ≤ at0 us a ∧ at0 us a ≤ 5000 + 10 * ((k + 1 : Nat) : Int)) := Lib.hid (fun a => by have := HB1.out a; omega)
          have HO8 := Lib.hid hO7
          clear hO7
          go_wp2
          go_roundw
          case rel => exact ⟨k + 1, us, by omega, by go_num, HZ1, HB8, HO8.out, r7.more (by omega), hK7, hW7⟩
          case measure => (simp [intOf]) <;> omega
      · obtain rfl : k = n := by omega
        go_wp2_with fail
        refine (odd_any w.heap.size g (5000 + k) 14 _ hR (by omega) (by omega) (by omega)).mono ?_
        rintro e w8 ⟨b, rfl, r8, c8⟩
        have hO8 := own_chg hO c8 hgh
        have hK8 := hK.chg c8 hgl
        have hW8 := Below.chg hW c8 hg.1
        have h8s := hK8.1
        clear hO hR hK hW c8 r8
        cases b
        · have HT := Lib.hid ((TK.keepR o hhi hK8).lower b1.size)
          have HO8 := Lib.hid hO8
          clear hO8
          go_wp2
          refine bodyPost_ret (v := .tuple #[.slice A1 ts.length c1, .slice Ax k cx]) (by simp [results, Tryd.results42, go_sem]) rfl ?_
          refine ⟨A1, c1, ts, _, zs, rfl, HT.out, ?_, ⟨hl1, by omega⟩, by rw [HZ.out]; omega, fun a => by have := HB.out a; omega, hW8⟩
          have hf := HO8.out
          have e := HZ.out
          rw [OI, e]
          exact own_mono hf hwhi
        · go_wp2_with (at_builtin; refine wpList_app _ rfl (.tmp 51) (.tmp 52) 23 rfl int_EIT hi (.slice Ax k cx) k (ints zs) rfl (hO8.alloc _) (some ⟨_, 0, none⟩) 1 1 [.int .i64 0] rfl rfl (rv_new _ _ _) (one1 _) (le_max (by omega)) (by omega) (by simp; omega) ?_; intro v9 w9 hO9 hg9 hv9)
          have hb9 : Below hi w8 w9 := ((Below.refl hi w8).alloc h8s _).grown hg9 (by simp; omega) fun q hq => (World.ownsRow.lt hO8 q hq).1
          have HT := Lib.hid ((TK.keepR o hhi (hK8.below hb9)).lower b1.size)
          have HO9 := Lib.hid (oi_pushT (xs := zs) (by rw [HZ.out]; exact hO9))
          have HW9 := Lib.hid (hW8.trans (hb9.mono hwhi))
          clear hO9 hg9 hv9 hO8 hb9
          refine bodyPost_ret (v := .tuple #[.slice A1 ts.length c1, v9]) (by simp [results, Tryd.results42, go_sem]) rfl ?_
          exact ⟨A1, c1, ts, _, zs ++ [0], rfl, HT.out, OI.mono HO9.out hwhi, ⟨hl1, by omega⟩, by rw [List.length_append, HZ.out]; simp; omega, fun a => by rw [at0_push]; have := HB.out a; split <;> (try split) <;> omega, HW9.out⟩
end Go.Proofs.YtjicpdleacnlaaaDoor
