/- OwedOf: what the reference computes. -/
import Derived.Test.YtgndokhehooplaaOwed1
import Derived.Test.YtgndokhehooplaaShare2
import Derived.BigRegion
set_option linter.unusedVariables false
set_option linter.unusedSimpArgs false
namespace Go.Proofs.Ytgndokhehooplaa
open Go.ChangeShapes Go.WideShapes Go.ChangeAt Go.RowKit

theorem shareOk_sum {xs ps : List Int} (h : ∀ x ∈ ps, 0 ≤ x ∧ x ≤ 9999) (hs : sharesB xs = true) (hl : ps.length = xs.length) : owedF xs ps = dif ps (shareF xs ps.sum) (shareF xs ps.sum).length := by
  by_cases h9 : ps.sum ≤ 9999
  · have hok : owedOk xs ps = true := by
      rw [owedOk, hs, decide_eq_true h9]
      have : amtB ps xs.length 9999 = true := by
        simp only [amtB, Bool.and_eq_true, decide_eq_true_eq, List.all_eq_true]
        exact ⟨by omega, fun x hx => by simpa [okB] using h x hx⟩
      rw [this]; rfl
    rw [owedF_yes hok, (owed_parts hok).2.2.2.1]
  · rw [owedF_no (by simp [owedOk, h9]), shareF_no (by simp [shareOk, inB]; omega)]; rfl
theorem amt_bad {xs ps : List Int} {k : Nat} (hk : k < ps.length) (h : inB (at0 ps k) 0 9999 = false) : owedF xs ps = [] := by
  refine owedF_no ?_
  have : amtB ps xs.length 9999 = false := by
    rw [Bool.eq_false_iff]
    intro ha
    have := (amt_allS ha).2 _ (List.getElem_mem hk)
    rw [at0_eq hk] at this
    rw [inB_false] at h
    omega
  simp [owedOk, this]
theorem step_appS {P : Program} (w : World) {ops : Array Oper} {o : Oper} {a : Act} {K : Act → World → Prop} {Q : Exit → Act → World → Prop} {E : Prop} (hgd : o.guard = none) (s x : Operand) (t : TypeId)
    (ho : o.op = .call { callee := .builtin .append, args := #[s, x], argTypes := #[t, t] }) {e : TypeId} {size bytes : Nat} (hE : EI P t e size bytes) (base : Nat) (v : Value) (n : Nat) (xs : List Value) (hs : a.eval s = v) (hown : w.ownsRow base e size v n xs)
    (A : Option Addr) (m c : Nat) (news : List Value) (hx : a.eval x = .slice A m c) (hl : news.length = m * size) {B : Nat} (hr : RV w B A news) (h1 : ∀ u ∈ news, u.oneCell' = true) (h63 : n + m ≤ maxLen) (hb : (n + m) * bytes ≤ 140737488355328) (hbase : base ≤ w.heap.size)
    (h : ∀ v' w', w'.ownsRow base e size v' (n + m) (xs ++ news) → w.grownBy w' v.ownBlock → (v'.ownBlock = v.ownBlock ∨ v'.ownBlock = some w.heap.size) → K (a.put o.dst v') w') : if Region.wanted o (yielded ops a.tmps) = true then Oper.wp P o a w K Q else E := by
  have hw : Region.wanted o (yielded ops a.tmps) = true := by simp [Region.wanted, hgd]
  rw [if_pos hw]
  obtain ⟨v', w', hrun, h2, h3, h4⟩ := run_app (P := P) w t o.type hE base v n xs hown A m c news hl hr h1 h63 hb hbase
  unfold Oper.wp execOp
  simp only [ho, resolve, invoke, builtin, Sem.run_bind, Sem.run_pure, Result.andThen_ok, List.map_toArray, List.map_cons, List.map_nil, hs, hx, hrun]
  exact h v' w' h2 h3 h4
/-- Only an append: a guard for an arm of 'go_region_law'. -/
theorem app_onlyS {P : Program} {ts : Nat → Option Bool} {d : Option Nat} {args : Array Operand} {tys : Array TypeId} {ty : TypeId} {pos : String} {aft : Array Edge} {gd : Option (Nat × Bool)} {a : Act} {w : World} {K : Act → World → Prop} {Q : Exit → Act → World → Prop} {E : Prop}
    (h : if Region.wanted { dst := d, op := .call { callee := .builtin .append, args := args, argTypes := tys }, type := ty, pos := pos, after := aft, guard := gd } ts = true then Oper.wp P { dst := d, op := .call { callee := .builtin .append, args := args, argTypes := tys }, type := ty, pos := pos, after := aft, guard := gd } a w K Q else E) :
    if Region.wanted { dst := d, op := .call { callee := .builtin .append, args := args, argTypes := tys }, type := ty, pos := pos, after := aft, guard := gd } ts = true then Oper.wp P { dst := d, op := .call { callee := .builtin .append, args := args, argTypes := tys }, type := ty, pos := pos, after := aft, guard := gd } a w K Q else E := h
theorem apartS {A : Option Addr} {n c lo hi : Nat} {v : Value} (h1 : Hid (∀ k, (Value.slice A n c).ownBlock = some k → lo < k ∧ k < hi)) (h2 : Hid (∀ g, v.ownBlock = some g → g = lo ∨ hi ≤ g)) : (Value.slice A n c).ownBlock = none ∨ (Value.slice A n c).ownBlock ≠ v.ownBlock := by
  cases hb : (Value.slice A n c).ownBlock with
  | none => exact .inl rfl
  | some k =>
    refine .inr fun e => ?_
    have a1 := h1.out k hb
    have a2 := h2.out k e.symm
    omega
theorem rv_likeS {w w' : World} {B : Nat} {A : Option Addr} {cs : List Value} (h : RV w B A cs) (e : w'.heap = w.heap) : RV w' B A cs := by
  intro hp
  obtain ⟨b, off, ea, hb, hc⟩ := h hp
  refine ⟨b, off, ea, hb, fun j hj => ?_⟩
  rw [← hc j hj]
  simp only [World.cell?, e]
theorem apart_step {v v3 : Value} {lo hi h3 : Nat} (hv3 : v3.ownBlock = v.ownBlock ∨ v3.ownBlock = some h3) (h : Hid (∀ g, v.ownBlock = some g → g = lo ∨ hi ≤ g)) (hs : hi ≤ h3) : Hid (∀ g, v3.ownBlock = some g → g = lo ∨ hi ≤ g) := Lib.hid (fun g hg => by
  rcases hv3 with e | e
  · rw [e] at hg; exact h.out g hg
  · rw [e] at hg; simp at hg; omega)
set_option maxRecDepth 20000 in
set_option maxHeartbeats 16000000 in
theorem spec_owedOf (A A2 : Option Addr) (c c2 : Nat) (xs ps : List Int) (w : World) (h : IS w w.heap.size A xs) (h2 : IS w w.heap.size A2 ps) (hl : xs.length ≤ 1048576) (hl2 : ps.length ≤ 1048576) :
    Calls Try.prog 19 #[.slice A xs.length c, .slice A2 ps.length c2] w (RetI w (owedF xs ps)) := by
  have hO0 := own_empty w 3 1 _ (Nat.le_refl _)
  have hb0 : Below w.heap.size w (w.alloc (.cells #[] 3)) := below_al (Below.refl _ _) _
  have h' : IS (w.alloc (.cells #[] 3)) w.heap.size A xs := RV.below h hb0
  cases hv : sharesB xs
  · have HE := Lib.hid (owedF_no (xs := xs) (ps := ps) (by simp [owedOk, hv]))
    go_enter Try.func19, Try.ntmps19
    go_wp2_with (go_at_call 38; refine (spec_sharesValid A c xs _ _ h' hl).mono ?_; rintro e w1 ⟨rfl, rfl⟩)
    go_ret
    exact ⟨_, rfl, by rw [HE.out]; exact hO0, hb0⟩
  · by_cases hlp : ps.length = xs.length
    · have HLP := Lib.hid hlp
      have HV := Lib.hid hv
      have hsp : 1 ≤ xs.length ∧ xs.length ≤ 7 := by
        simp only [sharesB, Bool.and_eq_true, inB_true] at hv
        omega
      rw [hlp]
      clear hlp hl2
      go_enter Try.func19, Try.ntmps19
      go_wp2_with (go_at_call 38; refine (spec_sharesValid A c xs _ _ h' hl).mono ?_; rintro e w1 ⟨rfl, rfl⟩)
      clear hv
      go_loop [6] (fun i => ∃ k : Nat, k ≤ xs.length ∧ i = .int .i64 k ∧ Hid (∀ j, j < k → inB (at0 ps j) 0 9999 = true)) (fun i => xs.length - (intOf i).toNat)
      case atStart => exact ⟨0, Nat.zero_le _, rfl, Lib.hid (fun j hj => by omega)⟩
      case round =>
        obtain ⟨k, hk, rfl, HA⟩ := hrel
        by_cases hlt : k < xs.length
        · obtain ⟨b, off, rfl, hbl, hc⟩ := IS.at0_ (RV.below h2 hb0) (by rw [HLP.out]; omega)
          have e1 := hc k (by rw [HLP.out]; exact hlt)
          clear hc
          cases hin : inB (at0 ps k) 0 9999
          · have HE := Lib.hid (amt_bad (xs := xs) (by rw [HLP.out]; exact hlt) hin)
            go_wp2_with (go_at_call 39; refine (l1In_any _ _ _ _).mono ?_; rintro e w' ⟨rfl, rfl⟩)
            go_ret
            exact ⟨_, rfl, by rw [HE.out]; exact hO0, hb0⟩
          · have HA2 : Hid (∀ j, j < k + 1 → inB (at0 ps j) 0 9999 = true) := Lib.hid (fun j hj => by
              by_cases e : j = k
              · subst e; exact hin
              · exact HA.out j (by omega))
            go_wp2_with (go_at_call 39; refine (l1In_any _ _ _ _).mono ?_; rintro e w' ⟨rfl, rfl⟩)
            go_round
            case rel => exact ⟨k + 1, by omega, by go_num, HA2⟩
            case measure => (simp [intOf]) <;> omega
        · obtain rfl : k = xs.length := by omega
          have hall : ∀ x ∈ ps, 0 ≤ x ∧ x ≤ 9999 := fun x hx => by
            obtain ⟨j, hj, e⟩ := List.getElem_of_mem hx
            have := inB_true.1 (HA.out j (by rw [← HLP.out]; exact hj))
            rw [← at0_eq hj, e] at this
            exact this
          have HEQ := Lib.hid (shareOk_sum hall HV.out HLP.out)
          have HP2 := Lib.hid (at0_of (by omega) hall)
          have hsum := l1Sum_any A2 c2 ps (w.alloc (.cells #[] 3)) _ (RV.below h2 hb0) (by rw [HLP.out]; omega) (fun x hx => by have := hall x hx; omega)
          rw [HLP.out] at hsum
          have HSUM := Lib.hid hsum
          have hshl := shareF_len xs ps.sum
          have HP5 : Hid (∀ k, 0 ≤ at0 (shareF xs ps.sum) k ∧ at0 (shareF xs ps.sum) k ≤ 200000) := Lib.hid (by
            cases hok : shareOk xs ps.sum
            · rw [shareF_no hok]; intro k; simp [at0]
            · obtain ⟨s1, s2, s3, -⟩ := share_parts hok
              obtain ⟨l1, l2, -⟩ := left_bound (xs := xs) (s := ps.sum) s3
              intro k
              rw [shareF_yes hok]
              exact partK_bound hok _ (by omega) k)
          clear hall hsum hk hlt HA
          generalize hss : ps.sum = sm at *
          clear hss
          go_wp2_with fail
          refine HSUM.out.mono ?_
          rintro e w' ⟨rfl, rfl⟩
          go_wp2_with fail
          refine (spec_shareOf A c xs sm _ (RV.more h' hb0.size) hl).mono ?_
          rintro e w2 ⟨v2, rfl, o2, b2⟩
          obtain ⟨n, hn⟩ : ∃ n, (shareF xs sm).length = n := ⟨_, rfl⟩
          have o2' : w2.ownsRow (w.heap.size + 1) 3 1 v2 n (ints (shareF xs sm)) := by
            have := o2
            rw [OI, hn] at this
            simpa using this
          obtain ⟨A4, c4, rfl, -⟩ := own_form o2'
          have hOx := own_below hO0 b2
          have bel := below_step hb0 b2
          have hs2 := b2.size
          have hshl2 : n ≤ xs.length := by omega
          have HN := Lib.hid hn
          clear o2 b2 hO0 hb0 h' hn hshl
          generalize shareF xs sm = part at *
          go_wp2
          go_loopw [5, 8] (fun v i wr => ∃ (k : Nat) (v0 : Value), k ≤ n ∧ v0 = v ∧ i = .int .i64 (k : Int) ∧ wr.ownsRow w.heap.size 3 1 v0 k (ints (dif ps part k)) ∧ wr.ownsRow (w.heap.size + 1) 3 1 (.slice A4 n c4) n (ints part) ∧ Hid (∀ g, v0.ownBlock = some g → g = w.heap.size ∨ w2.heap.size ≤ g) ∧ w2.heap.size ≤ wr.heap.size ∧ Below w.heap.size w wr) (fun _ i _ => n - (intOf i).toNat)
          case atStart => exact ⟨0, _, Nat.zero_le _, rfl, by go_num, hOx, o2', Lib.hid (fun g hg => by simp [Value.ownBlock] at hg; exact .inl hg.symm), Nat.le_refl _, bel⟩
          case round =>
            have HAP : Hid (∀ k, (Value.slice A4 n c4).ownBlock = some k → w.heap.size < k ∧ k < w2.heap.size) := Lib.hid (fun k hk => by have := World.ownsRow.lt o2' k hk; omega)
            clear hOx o2' bel
            obtain ⟨k, v, hk, rfl, rfl, hO, hP, HVA, hsz, hW⟩ := hrel
            by_cases hlt : k < n
            · obtain ⟨b, off, rfl, hbl, hc⟩ := IS.at0_ (own_readsS hP) (by rw [HN.out]; omega)
              have e1 := hc k (by rw [HN.out]; exact hlt)
              obtain ⟨bb, off2, rfl, hbl2, hc2⟩ := IS.at0_ (RV.below h2 hW) (by rw [HLP.out]; omega)
              have e2 := hc2 k (by rw [HLP.out]; omega)
              have b1 := HP2.out k
              have b3 := HP5.out k
              have HDS := Lib.hid (dif_succ ps part k)
              have HDL := Lib.hid (dif_length ps part k)
              have hklt : k < xs.length := by omega
              have hwsz := hW.size
              have hsz4 : w2.heap.size ≤ (wr.alloc (.cells #[.int .i64 (at0 ps k - at0 part k)] 3)).heap.size := by simp; omega
              have HO := Lib.hid hO
              have HP := Lib.hid hP
              clear hc hc2 hO hP
              generalize at0 ps k = x at *
              generalize at0 part k = y at *
              have hwp : IntKind.i64.wrap (x - y) = x - y := by rw [IntKind.wrap_i64]; omega
              go_wp2_with fail
              have hUx : ((wr.alloc (.cells #[.int .i64 (x - y)] 3)).drew).ownsRow w.heap.size 3 1 v k (ints (dif ps part k)) := own_keepS (w := wr.alloc (.cells #[.int .i64 (x - y)] 3)) (HO.out.alloc _) (fun _ _ => rfl)
              have hVx : ((wr.alloc (.cells #[.int .i64 (x - y)] 3)).drew).ownsRow (w.heap.size + 1) 3 1 (.slice (some ⟨b, off, none⟩) n c4) n (ints part) := own_keepS (w := wr.alloc (.cells #[.int .i64 (x - y)] 3)) (HP.out.alloc _) (fun _ _ => rfl)
              have hWx : Below w.heap.size w ((wr.alloc (.cells #[.int .i64 (x - y)] 3)).drew) := (below_al hW _).drew
              have HH : Hid (∀ (v3 : Value) (w3 : World), ((wr.alloc (.cells #[.int .i64 (x - y)] 3)).drew).grownBy w3 v.ownBlock → (v3.ownBlock = v.ownBlock ∨ v3.ownBlock = some ((wr.alloc (.cells #[.int .i64 (x - y)] 3)).drew).heap.size) → w3.ownsRow (w.heap.size + 1) 3 1 (.slice (some ⟨b, off, none⟩) n c4) n (ints part) ∧ Below w.heap.size w w3 ∧ w2.heap.size ≤ w3.heap.size ∧ Hid (∀ g, v3.ownBlock = some g → g = w.heap.size ∨ w2.heap.size ≤ g)) := Lib.hid (by
                intro v3 w3 hg3 hv3
                exact ⟨World.ownsRow.kept hVx hg3 (apartS HAP HVA), below_app hWx hUx hg3, Nat.le_trans hsz4 hg3.size, apart_step hv3 HVA hsz4⟩)
              clear hUx hVx hWx
              go_region_law (first | (with_reducible refine app_onlyS ?_; have hUx : ((wr.alloc (.cells #[.int .i64 (x - y)] 3)).drew).ownsRow w.heap.size 3 1 v k (ints (dif ps part k)) := own_keepS (w := wr.alloc (.cells #[.int .i64 (x - y)] 3)) (HO.out.alloc _) (fun _ _ => rfl); refine step_appS ((wr.alloc (.cells #[.int .i64 (x - y)] 3)).drew) rfl _ _ _ rfl int_EIS w.heap.size v k (ints (dif ps part k)) rfl hUx (some ⟨wr.heap.size, 0, none⟩) 1 1 [.int .i64 (x - y)] rfl rfl (rv_likeS (w := wr.alloc (.cells #[.int .i64 (x - y)] 3)) (rv_new wr _ _) rfl) (one1 _) ?_ ?_ ?_ ?_; all_goals (first | (intro v3 w3 hO3 hg3 hv3; skip) | ((try simp only [maxLen]) <;> omega) | (simp <;> omega))))
              all_goals
                obtain ⟨hP3, hb3, hg3s, HV3⟩ := HH.out _ _ hg3 hv3
                have HO3 := Lib.hid hO3
                clear hO3 hg3 hv3
                go_wp2
                go_roundw
                case rel => exact ⟨k + 1, _, by omega, rfl, by go_num, by rw [HDS.out, ints_append]; exact HO3.out, hP3, HV3, hg3s, hb3⟩
                case measure => (simp [intOf]) <;> omega
            · obtain rfl : k = n := by omega
              have HO := Lib.hid hO
              clear hO hP
              go_wp2
              go_ret
              refine ⟨_, rfl, ?_, hW⟩
              rw [HEQ.out, HN.out, OI, dif_length]
              exact HO.out
    · have HE := Lib.hid (owedF_no (xs := xs) (ps := ps) (by
        have : amtB ps xs.length 9999 = false := by simp [amtB]; intro e; omega
        simp [owedOk, this]))
      have hne : ((ps.length : Int) == (xs.length : Int)) = false := by rw [beq_eq_false_iff_ne]; omega
      go_enter Try.func19, Try.ntmps19
      go_wp2_with (go_at_call 38; refine (spec_sharesValid A c xs _ _ h' hl).mono ?_; rintro e w1 ⟨rfl, rfl⟩)
      go_ret
      exact ⟨_, rfl, by rw [HE.out]; exact hO0, hb0⟩
end Go.Proofs.Ytgndokhehooplaa
