/- ShareOf: what the program computes. -/
import Derived.Test.YtgndokhehooplaaShare1
set_option linter.unusedVariables false
set_option linter.unusedSimpArgs false
namespace Go.Proofs.Ytgndokhehooplaa
open Go.ChangeShapes Go.WideShapes Go.ChangeAt Go.RowKit

theorem quiet_addL3 {P : Program} {f : FuncId} {args : Array Value} {w : World} {a n : Nat} {v : Value}
    (h : Calls P f args (w.drewN (a + n)) fun e w' => e = .returned v ∧ w.drewN (a + n) = w') :
    Calls P f args (w.drewN (a + n)) fun e w'' => e = .returned v ∧ ∃ m, w'' = w.drewN (a + m) :=
  h.mono fun _ _ ⟨he, hm⟩ => ⟨he, n, hm.symm⟩
theorem quiet_L3 {P : Program} {f : FuncId} {args : Array Value} {w : World} {n : Nat} {v : Value}
    (h : Calls P f args (w.drewN n) fun e w' => e = .returned v ∧ w.drewN n = w') : Calls P f args (w.drewN n) fun e w'' => e = .returned v ∧ ∃ m, w'' = w.drewN m :=
  h.mono fun _ _ ⟨he, hm⟩ => ⟨he, n, hm.symm⟩
theorem own_keepS {w w' : World} {base n size : Nat} {e : TypeId} {v : Value} {cs : List Value} (h : w.ownsRow base e size v n cs) (hk : ∀ g, v.ownBlock = some g → w'.heap[g]? = w.heap[g]?) : w'.ownsRow base e size v n cs := by
  refine ⟨h.1, ?_⟩
  rcases h.2 with h0 | ⟨g, cap, cur, rfl, hb, hg, r⟩
  · exact .inl h0
  · exact .inr ⟨g, cap, cur, rfl, hb, by rw [hk g rfl]; exact hg, r⟩
theorem own_readsS {w : World} {base n c : Nat} {A : Option Addr} {xs : List Int} (h : w.ownsRow base 3 1 (.slice A n c) n (ints xs)) : IS w w.heap.size A xs := by
  obtain ⟨A', c', hv, hr, _⟩ := own_form h
  injection hv with h1 _ _
  subst h1
  exact hr
theorem ordX_at {xs : List Int} {s : Int} {k : Nat} (h : k < xs.length) : 0 ≤ at0 (ordX xs s) k ∧ at0 (ordX xs s) k < xs.length := by
  have hl : k < (ordX xs s).length := by rw [ordX_length]; exact h
  have hm : at0 (ordX xs s) k ∈ ordX xs s := by rw [← at0_eq hl]; exact List.getElem_mem hl
  exact (ordS_mem _ _ _).1 hm
set_option maxRecDepth 20000 in
set_option maxHeartbeats 16000000 in
theorem impl_shareOf (A : Option Addr) (c : Nat) (xs : List Int) (s : Int) (w : World) (h : IS w w.heap.size A xs) (hl : xs.length ≤ 1048576) :
    Calls Try.prog 16 #[.slice A xs.length c, .int .i64 s] w (RetI w (shareF xs s)) := by
  have hI : ∀ W, Below w.heap.size w W → IS W w.heap.size A xs := fun W hW => RV.below h hW
  have HI := Lib.hid hI
  have hb2 : Below w.heap.size w ((w.alloc (.cells #[.slice A xs.length c] 22)).alloc (.cells #[.int .i64 s] 3)) := below_al (below_al (Below.refl _ _) _) _
  clear hI
  cases hv : sharesB xs
  · have HE := Lib.hid (shareF_no (xs := xs) (s := s) (by simp [shareOk, hv]))
    go_enter Try.func16, Try.ntmps16
    go_wp2_with (go_at_call 42; refine (impl_sharesValid A c xs _ _ (HI.out _ hb2) hl).mono ?_; rintro e w1 ⟨rfl, rfl⟩)
    go_ret
    exact ⟨_, rfl, by rw [HE.out]; exact OI.nil _ _, hb2⟩
  · by_cases hs0 : s < 0
    · have HE := Lib.hid (shareF_no (xs := xs) (s := s) (by simp [shareOk, inB]; omega))
      go_enter Try.func16, Try.ntmps16
      go_wp2_with (go_at_call 42; refine (impl_sharesValid A c xs _ _ (HI.out _ hb2) hl).mono ?_; rintro e w1 ⟨rfl, rfl⟩)
      go_ret
      exact ⟨_, rfl, by rw [HE.out]; exact OI.nil _ _, hb2⟩
    · by_cases hs1 : 9999 < s
      · have HE := Lib.hid (shareF_no (xs := xs) (s := s) (by simp [shareOk, inB]; omega))
        go_enter Try.func16, Try.ntmps16
        go_wp2_with (go_at_call 42; refine (impl_sharesValid A c xs _ _ (HI.out _ hb2) hl).mono ?_; rintro e w1 ⟨rfl, rfl⟩)
        go_ret
        exact ⟨_, rfl, by rw [HE.out]; exact OI.nil _ _, hb2⟩
      · have hok : shareOk xs s = true := by rw [shareOk, hv, inB_true.2 (by omega)]; rfl
        have HOK := Lib.hid hok
        have HE := Lib.hid (shareF_yes hok)
        obtain ⟨h1, h2, h3, h4, h5⟩ := share_parts hok
        have HX := Lib.hid h2
        have hmem := share_mem hok
        obtain ⟨l1, -, l3⟩ := left_bound (xs := xs) (s := s) h3
        have l3 := l3 (by omega)
        have HPB := Lib.hid (partK_bound hok)
        have HQL := Lib.hid (fun k => shQ_length (xs.take k) s xs.sum)
        have hsumq := own_sum (M := 200000) (by omega) (fun a => by have := HPB.out 0 (by omega) a; rw [partK_zero] at this; exact this)
        have HSQ := Lib.hid hsumq
        have HLS : Hid (leftS xs s = s - (shQ xs s xs.sum).sum) := Lib.hid rfl
        have HQ1 := Lib.hid (fun k hk => shQ_take_succ xs s xs.sum k hk)
        have HQLX := Lib.hid (shQ_length xs s xs.sum)
        have HV := Lib.hid hv
        have hd1 : decide (s < 0) = false := decide_eq_false hs0
        have hd2 : decide (9999 < s) = false := decide_eq_false hs1
        have hmk := run_make_row' (P := Try.prog) 22 3 (.int .i64 0) 8 Try.underlying22 int_info rfl .i64 .i64 xs.length (by omega) (by omega)
        clear hok h2 hsumq hv
        go_enter Try.func16, Try.ntmps16
        go_wp2_with fail
        refine (impl_sharesValid A c xs _ _ (HI.out _ hb2) hl).mono ?_
        rintro e w' ⟨rfl, rfl⟩
        rw [HV.out]
        go_wp2_with fail
        refine (sumOf_any A c xs _ _ (HI.out _ hb2) hl hmem).mono ?_
        rintro e w' ⟨rfl, rfl⟩
        clear hmem hd1 hd2
        obtain ⟨all, hall⟩ : ∃ all, xs.sum = all := ⟨_, rfl⟩
        rw [hall] at h3 h4 HSQ HLS HQ1 HQL HQLX ⊢
        have HALL := Lib.hid hall
        clear hall
        have ha0 : (all == 0) = false := by rw [beq_eq_false_iff_ne]; omega
        have ha1 : ¬ all = 0 := by omega
        have hbX := (Blk.new w 22 #[.slice A xs.length c]).alloc (.cells #[.int .i64 s] 3)
        have hbS := Blk.new (w.alloc (.cells #[.slice A xs.length c] 22)) 3 #[.int .i64 s]
        obtain ⟨W1, hW1⟩ : ∃ W1, W1 = (w.alloc (.cells #[.slice A xs.length c] 22)).alloc (.cells #[.int .i64 s] 3) := ⟨_, rfl⟩
        have hz1 : W1.heap.size = w.heap.size + 2 := by rw [hW1]; simp
        have hbS' : Blk W1 (w.heap.size + 1) 3 [.int .i64 s] := by rw [hW1]; simpa using hbS
        rw [← hW1] at hb2 hbX ⊢
        clear hbS hW1
        have hbA := Blk.new W1 3 #[.int .i64 all]
        have hbX2 := hbX.alloc (.cells #[.int .i64 all] 3)
        have hbS2 := hbS'.alloc (.cells #[.int .i64 all] 3)
        have hb3 := below_al hb2 (.cells #[.int .i64 all] 3)
        have HZ1 := Lib.hid hz1
        have hs1 : w.heap.size < W1.heap.size := by omega
        have hs2 : w.heap.size + 1 < W1.heap.size := by omega
        have hcX : W1.cell? ⟨w.heap.size, 0, none⟩ = some (.slice A xs.length c) := hbX.cell 0 (by simp)
        have HMD := Lib.hid (blk_made (W1.alloc (.cells #[.int .i64 all] 3)) (.int .i64 0) xs.length 3)
        clear hbX hbS' hz1
        go_wp2
        clear hmk hcX
        go_loopw [31] (fun i wr => ∃ k : Nat, k ≤ xs.length ∧ i = .int .i64 k ∧ Blk wr (W1.heap.size + 1) 3 (filled (.int .i64 0) (ints (shQ (xs.take k) s all)) xs.length) ∧ Below (W1.heap.size + 1) (W1.alloc (.cells #[.int .i64 all] 3)) wr) (fun i _ => xs.length - (intOf i).toNat)
        case atStart => exact ⟨0, Nat.zero_le _, rfl, by simpa [ints, shQ] using HMD.out, (Below.refl _ _).alloc (by simp) _⟩
        case round =>
          obtain ⟨k, hk, rfl, hB, hW⟩ := hrel
          have hX := hbX2.below hW (by omega)
          have hS := hbS2.below hW (by omega)
          have hA := hbA.below hW (by omega)
          have cX : wr.cell? ⟨w.heap.size, 0, none⟩ = some (.slice A xs.length c) := hX.cell 0 (by simp)
          have cS : wr.cell? ⟨w.heap.size + 1, 0, none⟩ = some (.int .i64 s) := hS.cell 0 (by simp)
          have cA : wr.cell? ⟨W1.heap.size, 0, none⟩ = some (.int .i64 all) := hA.cell 0 (by simp)
          have hW0 := hb3.trans (hW.mono (show w.heap.size ≤ W1.heap.size + 1 by omega))
          by_cases hlt : k < xs.length
          · obtain ⟨b, off, rfl, hbl, hc⟩ := IS.at0_ (HI.out _ hW0) (by omega)
            have e1 := hc k hlt
            obtain ⟨p1, p2, p3, p4, -, -⟩ := prod_b h5 (HX.out k) h3
            obtain ⟨d1, -⟩ := div_facts (all := all) p1
            have hql : (ints (shQ (xs.take k) s all)).length = k := by rw [ints_length, HQL.out, List.length_take]; omega
            obtain ⟨hg1, hg2⟩ := hB.fillAt hql hlt
            have HB2 := Lib.hid (show Blk _ _ _ (filled (.int .i64 0) (ints (shQ (xs.take (k + 1)) s all)) xs.length) by rw [HQ1.out k hlt, ints_append]; exact hB.fill hql hlt (.int .i64 (s * at0 xs k / all)))
            clear hc hB hql hX hS hA
            generalize at0 xs k = x at *
            generalize s * x / all = q at *
            generalize hp : s * x = px at *
            have hwx : IntKind.i64.wrap px = px := by rw [IntKind.wrap_i64]; omega
            go_wp2
            go_roundw
            case rel => exact ⟨k + 1, by omega, by go_num, HB2.out, hW.setCell (by simp) _⟩
            case measure => (simp [intOf]) <;> omega
          · obtain rfl : k = xs.length := by omega
            rw [List.take_length, filled_all _ _ _ (by rw [ints_length, HQLX.out])] at hB
            have hP : wr.ownsRow w.heap.size 3 1 (.slice (some ⟨W1.heap.size + 1, 0, none⟩) xs.length xs.length) xs.length (ints (partK xs s 0)) := by
              have := hB.own (base := w.heap.size) (n := xs.length) (size := 1) (by omega) (by rw [ints_length, HQLX.out, Nat.mul_one]) (by simp [maxLen]; omega)
              rw [partK_zero, HALL.out]; exact this
            have hgl := hB.lt
            obtain ⟨W3, rfl⟩ : ∃ W3 : World, W3 = wr := ⟨_, rfl⟩
            clear hB hbX2 hbS2 hbA hb3 hb2 hk hlt
            go_wp2_with fail
            refine (indices_any xs.length _ hl).mono ?_
            rintro e w4 ⟨v, rfl, o, b4⟩
            have o4 : w4.ownsRow W3.heap.size 3 1 v xs.length (ints (idx xs.length)) := by
              have := o
              rwa [OI, idx_length] at this
            obtain ⟨A2, c2, rfl, -, hnc2, hmx2, -⟩ := own_form o4
            unfold maxLen at hmx2
            obtain ⟨g2, rfl, hg2⟩ := own_head o4 (by omega)
            have hX4 := hX.below b4 (by omega)
            have hS4 := hS.below b4 (by omega)
            have hA4 := hA.below b4 (by omega)
            have hP4 := own_below hP b4
            have hW4 := below_step hW0 b4
            clear o hX hS hA hP cX cS cA
            have hsort := sortStable_one (.pointer (some ⟨w.heap.size + 1, 0, none⟩)) (.pointer (some ⟨w.heap.size, 0, none⟩)) (.pointer (some ⟨W1.heap.size, 0, none⟩)) (togC (shR xs s all)) g2 xs.length c2 W3.heap.size (idx xs.length) w4 o4 hg2 (idx_length _) (by omega) (Rng_idx _) (by
              intro W hW i j hi hj
              have q1 := (hX4.below hW (by omega)).cell 0 (by simp)
              have q2 := (hS4.below hW (by omega)).cell 0 (by simp)
              have q3 := (hA4.below hW (by omega)).cell 0 (by simp)
              have := shareClosure A c (w.heap.size + 1) w.heap.size W1.heap.size xs s W w.heap.size (HI.out _ (hW4.trans (hW.mono (by omega)))) HOK.out q2 q1 (by rw [HALL.out]; exact q3) i j hi hj
              rw [HALL.out] at this
              exact this)
            have HSO := Lib.hid hsort
            clear hsort o4
            go_wp2_with fail
            refine HSO.out.mono ?_
            rintro e w5 ⟨rfl, o5, b5⟩
            have hO5 : w5.ownsRow W3.heap.size 3 1 (.slice (some ⟨g2, 0, none⟩) xs.length c2) xs.length (ints (ordX xs s)) := by rw [ordX, ordS, HALL.out]; exact o5
            have hP5 : w5.ownsRow w.heap.size 3 1 (.slice (some ⟨W1.heap.size + 1, 0, none⟩) xs.length xs.length) xs.length (ints (partK xs s 0)) := own_keepS hP4 fun g hg => b5.block g (by simp [Value.ownBlock] at hg; omega)
            have hS5 := hS4.below b5 (by omega)
            have cS5 : w5.cell? ⟨w.heap.size + 1, 0, none⟩ = some (.int .i64 s) := hS5.cell 0 (by simp)
            have hW5 := hW4.trans (b5.mono (by omega))
            have rp := own_readsS hP5
            have hsum : ∀ q, Calls Try.prog 43 #[.slice (some ⟨W1.heap.size + 1, 0, none⟩) xs.length xs.length] (w5.drewN q) fun e w' => e = .returned (.int .i64 (shQ xs s all).sum) ∧ w5.drewN q = w' := fun q => by
              have hrq : IS (w5.drewN q) w5.heap.size (some ⟨W1.heap.size + 1, 0, none⟩) (shQ xs s all) := by
                have := RV.below rp (below_n (w := w5) q)
                rw [partK_zero, HALL.out] at this
                exact this
              have := sumOf_any _ xs.length (shQ xs s all) (w5.drewN q) _ hrq (by rw [HQLX.out]; omega) HSQ.out
              rwa [HQLX.out] at this
            have HSUM := Lib.hid hsum
            obtain ⟨L, hL⟩ : ∃ L : Nat, leftS xs s = L := ⟨(leftS xs s).toNat, by omega⟩
            rw [hL] at l1 l3 HLS
            have HLT : Hid ((leftS xs s).toNat = L) := Lib.hid (by rw [hL]; rfl)
            have hlx : L < xs.length := by omega
            clear hsum hX4 hS4 hA4 hP4 hW4 o5 HSO hS5 rp hL b4
            generalize (shQ xs s all).sum = sq at *
            have hle : s - sq = (L : Int) := HLS.out.symm
            have hwl : IntKind.i64.wrap (s - sq) = (L : Int) := by rw [hle, IntKind.wrap_i64]; omega
            have hlc : L ≤ c2 := by omega
            have hlc2 : (L : Int) ≤ (c2 : Int) := by omega
            have hl7 : L ≤ 7 := by omega
            go_wp2_with fail
            go_quiet ((first | (go_at_call 43; exact quiet_addL3 (HSUM.out _)) | (go_at_call 43; exact quiet_L3 (HSUM.out _))))
            go_wp2
            go_loopw [59] (fun i wr => ∃ m : Nat, m ≤ L ∧ i = .int .i64 m ∧ wr.ownsRow w.heap.size 3 1 (.slice (some ⟨W1.heap.size + 1, 0, none⟩) xs.length xs.length) xs.length (ints (partK xs s m)) ∧ wr.ownsRow W3.heap.size 3 1 (.slice (some ⟨g2, 0, none⟩) xs.length c2) xs.length (ints (ordX xs s)) ∧ Below w.heap.size w wr) (fun i _ => L - (intOf i).toNat)
            case atStart => exact ⟨0, Nat.zero_le _, rfl, own_below hP5 (below_n _), own_below hO5 (below_n _), below_drewN hW5 _⟩
            case round =>
              clear hP5 hO5 cS5 hle
              obtain ⟨m, hm, rfl, hP, hO, hW⟩ := hrel
              by_cases hlt : m < L
              · obtain ⟨n2, n3⟩ := ordX_at (xs := xs) (s := s) (k := m) (by omega)
                obtain ⟨bN, hbN⟩ : ∃ bN : Nat, at0 (ordX xs s) m = bN := ⟨(at0 (ordX xs s) m).toNat, by omega⟩
                have hbl : bN < xs.length := by omega
                have HPS := partK_succ xs s m (by omega)
                rw [hbN, Int.toNat_natCast] at HPS
                have HPS := Lib.hid HPS
                obtain ⟨co, -⟩ := row_at0 hO m (by rw [ordX_length]; omega)
                rw [hbN] at co
                obtain ⟨cp1, fp⟩ := row_at0 hP bN (by rw [partK_length]; exact hbl)
                have hpb := HPB.out m (by omega) bN
                have HP2 := Lib.hid (row_set hP bN (at0 (partK xs s m) bN + 1))
                have HO2 := Lib.hid (own_setlt (p := ⟨W1.heap.size + 1, bN, none⟩) (u := .int .i64 (at0 (partK xs s m) bN + 1)) hO hgl)
                have HW2 : Hid (Below w.heap.size w (wr.setCell ⟨W1.heap.size + 1, bN, none⟩ (.int .i64 (at0 (partK xs s m) bN + 1)))) := Lib.hid (hW.setCell (show w.heap.size ≤ W1.heap.size + 1 by omega) _)
                clear hP hO hW n2 n3 hbN
                generalize at0 (partK xs s m) bN = y at *
                go_wp2
                go_roundw
                case rel => exact ⟨m + 1, by omega, by go_num, by rw [HPS.out]; exact HP2.out, HO2.out, HW2.out⟩
                case measure => (simp [intOf]) <;> omega
              · obtain rfl : m = L := by omega
                have HP := Lib.hid hP
                clear hP hO
                go_wp2
                go_ret
                refine ⟨_, rfl, ?_, hW⟩
                have e1 : shareF xs s = partK xs s m := by rw [HE.out, HLT.out]
                rw [e1, OI, partK_length]
                exact HP.out
end Go.Proofs.Ytgndokhehooplaa
