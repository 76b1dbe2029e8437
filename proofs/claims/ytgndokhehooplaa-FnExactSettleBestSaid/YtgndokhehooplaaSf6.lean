/- SettleFast: the walk of the program. -/
import Derived.Test.YtgndokhehooplaaSf3
set_option linter.unusedVariables false
set_option linter.unusedSimpArgs false
namespace Go.Proofs.Ytgndokhehooplaa
open Go.ChangeShapes Go.WideShapes Go.ChangeAt Go.RowKit

theorem pay_EI : EI Try.prog 31 53 3 24 := EI.mk Try.underlying31 pay_info rfl (by omega)
theorem OP.push {w : World} {base : Nat} {v : Value} {ps : List PayT} {p : PayT} (h : w.ownsRow base 53 3 v (ps.length + 1) (pays ps ++ [.int .i64 p.1, .int .i64 p.2.1, .int .i64 p.2.2])) : OP w base v (ps ++ [p]) := by
  unfold OP
  have e : pays (ps ++ [p]) = pays ps ++ [.int .i64 p.1, .int .i64 p.2.1, .int .i64 p.2.2] := by rw [pays, flat_append]; rfl
  rw [e, List.length_append]
  exact h
theorem own_type' {w : World} {base n size g : Nat} {e : TypeId} {v : Value} {cs : List Value} (h : w.ownsRow base e size v n cs) (hg : v.ownBlock = some g) : ∃ c, w.heap[g]? = some (.cells c e (0, 0)) := by
  rcases h.2 with ⟨rfl, _⟩ | ⟨g', cap, cur, rfl, hb, hh, r⟩
  · simp [Value.ownBlock] at hg
  · simp [Value.ownBlock] at hg
    subst hg
    exact ⟨cur, hh⟩
/-- Two rows of different types of elements lie in different blocks. -/
theorem own_apart {w : World} {b1 b2 n1 n2 s1 s2 : Nat} {e1 e2 : TypeId} {v1 v2 : Value} {c1 c2 : List Value} (h1 : w.ownsRow b1 e1 s1 v1 n1 c1) (h2 : w.ownsRow b2 e2 s2 v2 n2 c2) (he : e1 ≠ e2) : v1.ownBlock = none ∨ v1.ownBlock ≠ v2.ownBlock := by
  cases hv : v1.ownBlock with
  | none => exact .inl rfl
  | some g =>
    refine .inr fun e => ?_
    obtain ⟨x, hx⟩ := own_type' h1 hv
    obtain ⟨y, hy⟩ := own_type' h2 e.symm
    rw [hx] at hy
    injection hy with hy
    injection hy with _ hy _
    exact he hy
theorem own_setOther {w : World} {b1 n1 s1 : Nat} {e1 : TypeId} {v1 : Value} {c1 : List Value} (h1 : w.ownsRow b1 e1 s1 v1 n1 c1) {g i : Nat} {c : Array Value} {e2 : TypeId} (hg : w.heap[g]? = some (.cells c e2 (0, 0))) (he : e1 ≠ e2) (u : Value) : (w.setCell ⟨g, i, none⟩ u).ownsRow b1 e1 s1 v1 n1 c1 := by
  refine ⟨h1.1, ?_⟩
  rcases h1.2 with h0 | ⟨k, cap, cur, h3, h4, h5, r⟩
  · exact .inl h0
  · refine .inr ⟨k, cap, cur, h3, h4, ?_, r⟩
    rw [Below.heap_setCell _ _ _ _ ?_]
    · exact h5
    · intro e
      subst e
      rw [h5] at hg
      injection hg with hg
      injection hg with _ hg _
      exact he hg
theorem rv_new' {w : World} {g : Nat} (hg : g = w.heap.size) (cs : Array Value) (t : TypeId) : RV (w.alloc (.cells cs t)) (g + 1) (some ⟨g, 0, none⟩) cs.toList := by subst hg; exact rv_new w cs t
theorem tn : (53 : Nat) ≠ 3 := by decide

/-- What is known at a step: the cells ahead of the stores and between them, the rows behind them. -/
theorem settle_facts {wr : World} {lo n cap g A0 : Nat} {l : List Int} {v : Value} {ys : List PayT} (hO : wr.ownsRow lo 3 1 (.slice (some ⟨g, 0, none⟩) n cap) n (ints l)) (hP : wr.ownsRow lo 53 3 v A0 (pays ys)) (f t : Nat) (s : Int)
    (hf : f < l.length) (ht : t < l.length) (hne : f ≠ t) (h1 : -9999 ≤ at0 l f ∧ at0 l f ≤ 9999) (h2 : -9999 ≤ at0 l t ∧ at0 l t ≤ 9999) (hs : 1 ≤ s ∧ s ≤ 9999) :
    (wr.cell? ⟨g, f, none⟩ = some (.int .i64 (at0 l f)) ∧ wr.frozen? ⟨g, f, none⟩ = false ∧ wr.cell? ⟨g, t, none⟩ = some (.int .i64 (at0 l t)) ∧ wr.frozen? ⟨g, t, none⟩ = false ∧
      (wr.setCell ⟨g, f, none⟩ (.int .i64 (at0 l f + s))).cell? ⟨g, t, none⟩ = some (.int .i64 (at0 l t)) ∧ (wr.setCell ⟨g, f, none⟩ (.int .i64 (at0 l f + s))).frozen? ⟨g, t, none⟩ = false) ∧
    (IntKind.i64.wrap (-at0 l f) = -at0 l f) ∧
    ((wr.setCell ⟨g, f, none⟩ (.int .i64 (at0 l f + s))).setCell ⟨g, t, none⟩ (.int .i64 (at0 l t - s))).ownsRow lo 3 1 (.slice (some ⟨g, 0, none⟩) n cap) n (ints (settleStep l f t s)) ∧
    ((wr.setCell ⟨g, f, none⟩ (.int .i64 (at0 l f + s))).setCell ⟨g, t, none⟩ (.int .i64 (at0 l t - s))).ownsRow lo 53 3 v A0 (pays ys) := by
  have r1 := row_at0 hO f hf
  have r2 := row_at0 hO t ht
  have hO2 := row_set hO f (at0 l f + s)
  have r3 := row_at0 hO2 t (by simpa using ht)
  rw [at0_set_ne _ _ _ _ hne] at r3
  have hO3 := row_set hO2 t (at0 l t - s)
  obtain ⟨c1, k1⟩ := own_type' hO (g := g) rfl
  obtain ⟨c2, k2⟩ := own_type' hO2 (g := g) rfl
  exact ⟨⟨r1.1, r1.2, r2.1, r2.2, r3.1, r3.2⟩, by rw [IntKind.wrap_i64]; omega, hO3, own_setOther (own_setOther hP k1 tn _) k2 tn _⟩

theorem OP.push' {w : World} {base c : Nat} {A : Option Addr} {ps : List PayT} {p : PayT} (h : w.ownsRow base 53 3 (.slice A (ps.length + 1) c) (ps.length + 1) (pays ps ++ [.int .i64 p.1, .int .i64 p.2.1, .int .i64 p.2.2])) :
    w.ownsRow base 53 3 (.slice A (ps ++ [p]).length c) (ps ++ [p]).length (pays (ps ++ [p])) := by
  have := OP.push h
  unfold OP at this
  have e : (ps ++ [p]).length = ps.length + 1 := by simp
  rw [e] at this ⊢
  exact this
theorem own_like {base n size d : Nat} {e : TypeId} {v : Value} {cs : List Value} {X Y : World} (h : X.ownsRow base e size v n cs) (he : Y = { X with drawn := d }) : Y.ownsRow base e size v n cs := by
  subst he
  exact own_alike h rfl
theorem settle_end {w X Y w2 : World} {o : Obj} {d A0 n : Nat} {v u : Value} {ys : List PayT} {l : List Int} (e : Y = { X with drawn := d }) (hO : X.ownsRow w.heap.size 3 1 u n (ints l)) (hP : X.ownsRow w.heap.size 53 3 v A0 (pays ys)) (b : Below w.heap.size w X)
    (hg : (Y.alloc o).grownBy w2 v.ownBlock) : w2.ownsRow w.heap.size 3 1 u n (ints l) ∧ Below w.heap.size w w2 := by
  have h1 := (own_like hO e).alloc o
  have h2 := (own_like hP e).alloc o
  exact ⟨h1.kept hg (own_apart h1 h2 tn.symm), below_app (below_al (below_like b e) o) h2 hg⟩

def settleR (xs : List Int) : List PayT := if owedB xs = true then settleF xs else []
theorem settleR_len (xs : List Int) (hl : xs.length ≤ 1048576) : (settleR xs).length ≤ 1048576 := by
  unfold settleR
  split
  · exact Nat.le_trans (settleN_len _ _) (Nat.le_trans (cnt_le _) hl)
  · simp
theorem opn_of {xs : List Int} (h : owedB xs = true) : Opn xs.length xs := by
  simp only [owedB, Bool.and_eq_true, beq_iff_eq] at h
  exact ⟨rfl, h.2.2, fun x hx => inB_true.1 (List.all_eq_true.1 h.2.1 x hx)⟩

set_option maxHeartbeats 8000000 in
theorem impl_settleFast (A : Option Addr) (c : Nat) (xs : List Int) (w : World) (h : IS w w.heap.size A xs) (hl : xs.length ≤ 1048576) :
    Calls Try.prog 52 #[.slice A xs.length c] w (RetP w (settleR xs)) := by
  cases hv : owedB xs
  · have HV : Hid (settleR xs = []) := by simp [Hid, settleR, hv]
    go_enter Try.func52, Try.ntmps52
    go_wp2_with (go_at_call 34; refine (impl_owedValid _ _ _ _ _ h hl).mono ?_; rintro e w' ⟨rfl, rfl⟩)
    go_ret
    exact ⟨_, rfl, by rw [HV.out]; exact OP.nil _ _, Below.refl _ _⟩
  · have HV : Hid (settleR xs = settleF xs) := by simp [Hid, settleR, hv]
    by_cases hz : xs.length = 0
    · have hx : xs = [] := List.eq_nil_of_length_eq_zero hz
      subst hx
      go_enter Try.func52, Try.ntmps52
      go_wp2_with (go_at_call 34; refine (impl_owedValid _ _ _ _ _ h hl).mono ?_; rintro e w' ⟨rfl, rfl⟩)
      go_ret
      exact ⟨_, rfl, by rw [HV.out]; exact OP.nil _ _, Below.refl _ _⟩
    · have hz1 : ((xs.length : Int) == 0) = false := beq_eq_false_iff_ne.2 (by omega)
      have hzp : 0 < xs.length := by omega
      clear hz
      have HP := Lib.hid (opn_of hv)
      go_enter Try.func52, Try.ntmps52
      go_wp2_with fail
      refine (impl_owedValid _ _ _ _ _ h hl).mono ?_
      rintro e w' ⟨rfl, rfl⟩
      go_wp2_with fail
      refine (copyInts_any _ _ _ _ h hl).mono ?_
      rintro e w1 ⟨v1, rfl, o1, b1⟩
      unfold OI at o1
      obtain ⟨A2, c2, rfl, -⟩ := own_form o1
      obtain ⟨g, rfl, hgb⟩ := own_head o1 hzp
      clear hz1
      go_wp2
      go_loopw [4] (fun v wr => ∃ (ys : List PayT) (A0 : Option Addr) (c0 : Nat) (l : List Int) (m : Nat), v = .slice A0 ys.length c0 ∧ Opn xs.length l ∧ cnt l ≤ m ∧ ys.length + m ≤ xs.length ∧ Hid (settleF xs = ys ++ settleN m l) ∧
        wr.ownsRow w.heap.size 3 1 (.slice (some ⟨g, 0, none⟩) xs.length c2) xs.length (ints l) ∧ wr.ownsRow w.heap.size 53 3 (.slice A0 ys.length c0) ys.length (pays ys) ∧ Below w.heap.size w wr) (fun v _ => xs.length + 1 - sliceLen v)
      case atStart => exact ⟨[], none, 0, xs, cnt xs, rfl, HP.out, Nat.le_refl _, by have := cnt_le xs; simp; omega, by simp [Hid, settleF], o1, OP.nil _ _, b1⟩
      case round =>
        obtain ⟨ys, A0, c0, l, m, rfl, hop, hcm, hym, HS, hO, hY, hW⟩ := hrel
        have hll := hop.len
        have HLL := Lib.hid hll
        have hll2 : xs.length ≤ l.length := by omega
        clear hll
        go_wp2
        go_loop [5, 6, 22] (fun f t i => ∃ k : Nat, k ≤ xs.length ∧ i = .int .i64 k ∧ f = .int .i64 (amin l k) ∧ t = .int .i64 (amax l k)) (fun _ _ i => xs.length - (intOf i).toNat)
        case atStart => exact ⟨0, Nat.zero_le _, rfl, rfl, rfl⟩
        case round =>
          obtain ⟨k, hk, rfl, rfl, rfl⟩ := hrel
          by_cases hlt : k < xs.length
          · have m1 : amin l k < l.length := by
              rcases Nat.eq_zero_or_pos k with e | e
              · subst e; simp [amin]; omega
              · have := amin_lt l k e; omega
            have m2 : amax l k < l.length := by
              rcases Nat.eq_zero_or_pos k with e | e
              · subst e; simp [amax]; omega
              · have := amax_lt l k e; omega
            have m1x : amin l k < xs.length := by have := HLL.out; omega
            have m2x : amax l k < xs.length := by have := HLL.out; omega
            obtain ⟨r1, -⟩ := row_at0 hO k (by omega)
            obtain ⟨r2, -⟩ := row_at0 hO (amin l k) m1
            obtain ⟨r3, -⟩ := row_at0 hO (amax l k) m2
            by_cases h1 : at0 l k < at0 l (amin l k)
            · have e1 : Hid (amin l (k + 1) = k) := by simp [Hid, amin, h1]
              by_cases h2 : at0 l (amax l k) < at0 l k
              · have e2 : Hid (amax l (k + 1) = k) := by simp [Hid, amax, h2]
                go_wp2
                go_round
                case rel => exact ⟨k + 1, by omega, by go_num, by rw [e1.out], by rw [e2.out]⟩
                case measure => simp [intOf]; omega
              · have e2 : Hid (amax l (k + 1) = amax l k) := by simp [Hid, amax, h2]
                replace h2 : at0 l k ≤ at0 l (amax l k) := by omega
                go_wp2
                go_round
                case rel => exact ⟨k + 1, by omega, by go_num, by rw [e1.out], by rw [e2.out]⟩
                case measure => simp [intOf]; omega
            · have e1 : Hid (amin l (k + 1) = amin l k) := by simp [Hid, amin, h1]
              replace h1 : at0 l (amin l k) ≤ at0 l k := by omega
              by_cases h2 : at0 l (amax l k) < at0 l k
              · have e2 : Hid (amax l (k + 1) = k) := by simp [Hid, amax, h2]
                go_wp2
                go_round
                case rel => exact ⟨k + 1, by omega, by go_num, by rw [e1.out], by rw [e2.out]⟩
                case measure => simp [intOf]; omega
              · have e2 : Hid (amax l (k + 1) = amax l k) := by simp [Hid, amax, h2]
                replace h2 : at0 l k ≤ at0 l (amax l k) := by omega
                go_wp2
                go_round
                case rel => exact ⟨k + 1, by omega, by go_num, by rw [e1.out], by rw [e2.out]⟩
                case measure => simp [intOf]; omega
          · have hkl : k = l.length := by have := HLL.out; omega
            have hkx : k = xs.length := by omega
            rw [hkl]
            clear hkl hkx hlt
            have mf := amin_lt l l.length (by omega)
            have mt := amax_lt l l.length (by omega)
            have mfx : amin l l.length < xs.length := by have := HLL.out; omega
            have mtx : amax l l.length < xs.length := by have := HLL.out; omega
            by_cases hn : at0 l (amin l l.length) < 0
            · obtain ⟨q1, q2, q3, q4⟩ := hop.step hn
              obtain ⟨p1, p2, p3⟩ := hop.pos hn
              have i1 := hop.inn _ (at0_mem mf)
              have i2 := hop.inn _ (at0_mem mt)
              obtain ⟨m', hm', hst⟩ := settleN_step hop hn m hcm
              obtain ⟨s, hs⟩ : ∃ s, min (-at0 l (amin l l.length)) (at0 l (amax l l.length)) = s := ⟨_, rfl⟩
              rw [hs] at q1 q2 q3 q4 hst
              have HST := Lib.hid hst
              have HQ3 := Lib.hid q3
              clear hst q3
              generalize amin l l.length = f at *
              generalize amax l l.length = t at *
              obtain ⟨⟨f1, f2, f3, f7, f4, f5⟩, f6, hO3, hY3⟩ := settle_facts hO hY f t s mf mt p3 i1 i2 ⟨q1, q2⟩
              have b3 := below_sc (below_sc hW (p := ⟨g, f, none⟩) hgb (.int .i64 (at0 l f + s))) (p := ⟨g, t, none⟩) hgb (.int .i64 (at0 l t - s))
              have HO3 := Lib.hid hO3
              have HY3 := Lib.hid hY3
              have HM := Lib.hid hm'
              have hml : ys.length + 1 ≤ xs.length := by omega
              have hmm : m' + 1 ≤ m := by omega
              clear hO hY hm' hO3 hY3
              by_cases hc : at0 l t < -at0 l f
              · have es : at0 l t = s := by omega
                have hd : decide (at0 l t < -at0 l f) = true := by simp; omega
                have ES := Lib.hid es
                clear es hs
                go_wp2_with fail
                go_quiet (fail)
                rw [ES.out]
                go_wp2_with (at_builtin; refine wpList_app _ rfl (.tmp 72) (.tmp 77) 31 rfl pay_EI w.heap.size (.slice A0 ys.length c0) ys.length (pays ys) rfl (HY3.out.alloc _) (some ⟨wr.heap.size, 0, none⟩) 1 1 [.int .i64 f, .int .i64 t, .int .i64 s] rfl rfl (rv_new' (by simp [World.setCell]) _ _) (one3 _ _ _) (le_max (by omega)) (by omega) (below_al b3 _).size ?_; intro v2 w2 hO2 hg2 hat)
                obtain ⟨A3, c3, rfl, -⟩ := own_form hO2
                go_roundw
                case rel => exact ⟨ys ++ [((f : Int), (t : Int), s)], A3, c3, settleStep l f t s, m', by simp, HQ3.out, by have := HM.out; omega, by have := HM.out; simp; omega, by show _ = _; rw [HS.out, HST.out]; simp, (settle_end rfl HO3.out HY3.out b3 hg2).1, OP.push' hO2, (settle_end rfl HO3.out HY3.out b3 hg2).2⟩
                case measure => simp [sliceLen]; omega
              · have es : -at0 l f = s := by omega
                have hd : decide (at0 l t < -at0 l f) = false := by simp; omega
                have ES := Lib.hid es
                clear es hs
                go_wp2_with fail
                go_quiet (fail)
                rw [ES.out]
                go_wp2_with (at_builtin; refine wpList_app _ rfl (.tmp 72) (.tmp 77) 31 rfl pay_EI w.heap.size (.slice A0 ys.length c0) ys.length (pays ys) rfl (HY3.out.alloc _) (some ⟨wr.heap.size, 0, none⟩) 1 1 [.int .i64 f, .int .i64 t, .int .i64 s] rfl rfl (rv_new' (by simp [World.setCell]) _ _) (one3 _ _ _) (le_max (by omega)) (by omega) (below_al b3 _).size ?_; intro v2 w2 hO2 hg2 hat)
                obtain ⟨A3, c3, rfl, -⟩ := own_form hO2
                go_roundw
                case rel => exact ⟨ys ++ [((f : Int), (t : Int), s)], A3, c3, settleStep l f t s, m', by simp, HQ3.out, by have := HM.out; omega, by have := HM.out; simp; omega, by show _ = _; rw [HS.out, HST.out]; simp, (settle_end rfl HO3.out HY3.out b3 hg2).1, OP.push' hO2, (settle_end rfl HO3.out HY3.out b3 hg2).2⟩
                case measure => simp [sliceLen]; omega
            · replace hn : 0 ≤ at0 l (amin l l.length) := by omega
              have HD := Lib.hid (settleN_done m l hn)
              obtain ⟨r2, -⟩ := row_at0 hO (amin l l.length) mf
              go_wp2
              go_ret
              refine ⟨_, rfl, ?_, hW⟩
              rw [HV.out, HS.out, HD.out, List.append_nil]
              exact hY
end Go.Proofs.Ytgndokhehooplaa
