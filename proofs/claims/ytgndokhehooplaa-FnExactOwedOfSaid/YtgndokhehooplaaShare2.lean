/- ShareOf: what the reference computes. -/
import Derived.Test.YtgndokhehooplaaShare1
set_option linter.unusedVariables false
set_option linter.unusedSimpArgs false
namespace Go.Proofs.Ytgndokhehooplaa
open Go.ChangeShapes Go.WideShapes Go.ChangeAt Go.RowKit

theorem quiet_add_leftS {P : Program} {f : FuncId} {args : Array Value} {w : World} {a n : Nat} {v : Value}
    (h : Calls P f args (w.drewN (a + n)) fun e w' => e = .returned v ∧ w.drewN (a + n) = w') :
    Calls P f args (w.drewN (a + n)) fun e w'' => e = .returned v ∧ ∃ m, w'' = w.drewN (a + m) :=
  h.mono fun _ _ ⟨he, hm⟩ => ⟨he, n, hm.symm⟩
theorem quiet_leftS {P : Program} {f : FuncId} {args : Array Value} {w : World} {n : Nat} {v : Value}
    (h : Calls P f args (w.drewN n) fun e w' => e = .returned v ∧ w.drewN n = w') : Calls P f args (w.drewN n) fun e w'' => e = .returned v ∧ ∃ m, w'' = w.drewN m :=
  h.mono fun _ _ ⟨he, hm⟩ => ⟨he, n, hm.symm⟩
theorem bstS_at (rs got : List Int) (k : Nat) : bstS rs got k = -1 ∨ ∃ b : Nat, bstS rs got k = b ∧ b < k := by
  rcases bstS_spec rs got k with ⟨e, _⟩ | ⟨b, e, hb, _⟩
  · exact .inl e
  · exact .inr ⟨b, e, hb⟩
theorem bstS_skip {rs got : List Int} {k : Nat} (h : hasB got k = true) : bstS rs got (k + 1) = bstS rs got k := by rw [bstS, h]; simp
theorem bstS_first {rs got : List Int} {k : Nat} (h : hasB got k = false) (hb : bstS rs got k = -1) : bstS rs got (k + 1) = k := by rw [bstS, h, hb]; simp
theorem bstS_more {rs got : List Int} {k b : Nat} (h : hasB got k = false) (hb : bstS rs got k = b) (hl : at0 rs b < at0 rs k) : bstS rs got (k + 1) = k := by rw [bstS, h, hb]; simp [hl]
theorem bstS_less {rs got : List Int} {k b : Nat} (h : hasB got k = false) (hb : bstS rs got k = b) (hl : ¬ at0 rs b < at0 rs k) : bstS rs got (k + 1) = b := by
  rw [bstS, h, hb]
  have : ¬ ((b : Int) < 0) := by omega
  simp [hl, this]
theorem ordX_take_succ (xs : List Int) (s : Int) (m : Nat) (h : m < xs.length) : (ordX xs s).take (m + 1) = (ordX xs s).take m ++ [at0 (ordX xs s) m] := by
  have hl : m < (ordX xs s).length := by rw [ordX_length]; exact h
  rw [List.take_succ_eq_append_getElem hl, at0_eq hl]
theorem ordX_take_len (xs : List Int) (s : Int) (m : Nat) (h : m ≤ xs.length) : ((ordX xs s).take m).length = m := by rw [List.length_take, ordX_length]; omega
theorem own_apartS {A : Option Addr} {n c lo : Nat} {v : Value} {w : World} {base k size : Nat} {e : TypeId} {cs : List Value} (ha : ∀ g, (Value.slice A n c).ownBlock = some g → g < lo) (hb : w.ownsRow base e size v k cs) (hl : lo ≤ base) : (Value.slice A n c).ownBlock = none ∨ (Value.slice A n c).ownBlock ≠ v.ownBlock := by
  cases hq : (Value.slice A n c).ownBlock with
  | none => exact .inl rfl
  | some k =>
    refine .inr fun e2 => ?_
    have a1 := ha k hq
    have a2 := (World.ownsRow.lt hb k e2.symm).1
    omega
theorem got_push {wz w3 : World} {gO n co m cg lo base : Nat} {Ag : Option Addr} {o : Obj} {xs cs : List Value} (hO : wz.ownsRow base 3 1 (.slice (some ⟨gO, 0, none⟩) n co) n xs) (hG : wz.ownsRow lo 3 1 (.slice Ag m cg) m cs) (hlt : gO < lo)
    (hg3 : (wz.alloc o).grownBy w3 (Value.slice Ag m cg).ownBlock) : w3.ownsRow base 3 1 (.slice (some ⟨gO, 0, none⟩) n co) n xs := by
  refine World.ownsRow.kept (hO.alloc _) hg3 (own_apartS (lo := lo) (fun g hg => ?_) (hG.alloc o) (Nat.le_refl _))
  simp [Value.ownBlock] at hg
  omega
set_option maxRecDepth 20000 in
set_option maxHeartbeats 16000000 in
theorem spec_shareOf (A : Option Addr) (c : Nat) (xs : List Int) (s : Int) (w : World) (h : IS w w.heap.size A xs) (hl : xs.length ≤ 1048576) :
    Calls Try.prog 15 #[.slice A xs.length c, .int .i64 s] w (RetI w (shareF xs s)) := by
  cases hv : sharesB xs
  · have HE := Lib.hid (shareF_no (xs := xs) (s := s) (by simp [shareOk, hv]))
    go_enter Try.func15, Try.ntmps15
    go_wp2_with (first | (go_at_call 38; refine (spec_sharesValid A c xs _ _ h hl).mono ?_; rintro e w1 ⟨rfl, rfl⟩))
    go_ret
    exact ⟨_, rfl, by rw [HE.out]; exact own_empty w _ _ _ (Nat.le_refl _), below_al (Below.refl _ _) _⟩
  · cases hs : inB s 0 9999
    · have HE := Lib.hid (shareF_no (xs := xs) (s := s) (by simp [shareOk, hs]))
      go_enter Try.func15, Try.ntmps15
      go_wp2_with (first | (go_at_call 38; refine (spec_sharesValid A c xs _ _ h hl).mono ?_; rintro e w1 ⟨rfl, rfl⟩) | (go_at_call 39; refine (l1In_any _ _ _ _).mono ?_; rintro e w' ⟨rfl, rfl⟩))
      go_ret
      exact ⟨_, rfl, by rw [HE.out]; exact own_empty w _ _ _ (Nat.le_refl _), below_al (Below.refl _ _) _⟩
    · have hok : shareOk xs s = true := by simp [shareOk, hv, hs]
      have HOK := Lib.hid hok
      have HE := Lib.hid (shareF_yes hok)
      obtain ⟨h1, h2, h3, h4, h5⟩ := share_parts hok
      have HX := Lib.hid h2
      have hmem := share_mem hok
      obtain ⟨l1, -, l3⟩ := left_bound (xs := xs) (s := s) h3
      have l3 := l3 (by omega)
      have HPB := Lib.hid (partK_bound hok)
      have HQL := Lib.hid (fun k => shQ_length (xs.take k) s xs.sum)
      have hsumq := own_sum (M := 200000) (by omega) (fun a => by have := HPB.out 0 (by omega) a; rw [partK_zero] at this; exact this)
      have HSQ := Lib.hid hsumq
      have HLS : Hid (leftS xs s = s - (shQ xs s xs.sum).sum) := Lib.hid rfl
      have HSB := Lib.hid (shR_at xs s xs.sum)
      have HQ1 := Lib.hid (fun k hk => shQ_take_succ xs s xs.sum k hk)
      have HQLX := Lib.hid (shQ_length xs s xs.sum)
      clear hv hs hok h2 hsumq
      go_enter Try.func15, Try.ntmps15
      go_wp2_with fail
      refine (spec_sharesValid A c xs _ _ h hl).mono ?_
      rintro e w' ⟨rfl, rfl⟩
      rw [show sharesB xs = true by have := HOK.out; simp only [shareOk, Bool.and_eq_true] at this; exact this.1]
      go_wp2_with fail
      refine (l1In_any _ _ _ _).mono ?_
      rintro e w' ⟨rfl, rfl⟩
      rw [show inB s 0 9999 = true by have := HOK.out; simp only [shareOk, Bool.and_eq_true] at this; exact this.2]
      go_wp2_with fail
      refine (l1Sum_any A c xs _ _ h hl hmem).mono ?_
      rintro e w' ⟨rfl, rfl⟩
      clear hmem
      obtain ⟨all, hall⟩ : ∃ all, xs.sum = all := ⟨_, rfl⟩
      rw [hall] at h3 h4 HSQ HLS HSB HQ1 HQL HQLX ⊢
      have HALL := Lib.hid hall
      clear hall
      have ha0 : (all == 0) = false := by rw [beq_eq_false_iff_ne]; omega
      have ha1 : ¬ all = 0 := by omega
      go_wp2
      go_loopw [6, 7] (fun v i wr => ∃ (k : Nat) (v0 : Value), k ≤ xs.length ∧ v0 = v ∧ i = .int .i64 (k : Int) ∧ OI wr w.heap.size v0 (shQ (xs.take k) s all) ∧ Below w.heap.size w wr) (fun _ i _ => xs.length - (intOf i).toNat)
      case atStart => exact ⟨0, _, Nat.zero_le _, rfl, by go_num, own_empty w _ _ _ (Nat.le_refl _), below_al (Below.refl _ _) _⟩
      case round =>
        obtain ⟨k, v, hk, rfl, rfl, hO, hW⟩ := hrel
        by_cases hlt : k < xs.length
        · obtain ⟨b, off, rfl, hbl, hc⟩ := IS.at0_ (RV.below h hW) (by omega)
          have e1 := hc k hlt
          obtain ⟨p1, p2, p3, p4, -, -⟩ := prod_b h5 (HX.out k) h3
          obtain ⟨d1, -⟩ := div_facts (all := all) p1
          have HS1 := Lib.hid (HQ1.out k hlt)
          have hql : (shQ (xs.take k) s all).length = k := by rw [HQL.out, List.length_take]; omega
          have hO2 : wr.ownsRow w.heap.size 3 1 v k (ints (shQ (xs.take k) s all)) := by unfold OI at hO; rwa [hql] at hO
          have HQK := Lib.hid hql
          clear hc hO hql
          generalize at0 xs k = x at *
          generalize s * x / all = q at *
          generalize hp : s * x = px at *
          have hsz := hW.size
          go_wp2_with (at_builtin; refine wpList_app _ rfl _ _ 22 rfl int_EIS w.heap.size v k _ rfl (hO2.alloc _) (some ⟨_, 0, none⟩) 1 1 [.int .i64 q] rfl rfl (rv_new _ _ _) (one1 _) (le_max (by omega)) (by omega) (by simp; omega) ?_; intro v3 w3 hO3 hg3 _)
          go_roundw
          case rel => exact ⟨k + 1, _, by omega, rfl, by go_num, by rw [HS1.out]; exact oi_pushS HQK.out hO3, below_app (below_al hW _) (hO2.alloc _) hg3⟩
          case measure => (simp [intOf]) <;> omega
        · obtain rfl : k = xs.length := by omega
          rw [List.take_length] at hO
          obtain ⟨Ao, co, rfl, ro, -⟩ := OI.form hO
          have hO2 : wr.ownsRow w.heap.size 3 1 (.slice Ao xs.length co) xs.length (ints (shQ xs s all)) := by unfold OI at hO; rw [HQLX.out] at hO; exact hO
          obtain ⟨gO, rfl, hgO⟩ := own_head hO2 (by omega)
          have hgl := (World.ownsRow.lt hO2 gO rfl).2
          clear hO
          have hsum := l1Sum_any _ co (shQ xs s all) (wr.alloc (.cells #[] 3)) _ (RV.below ro (below_al (Below.refl _ _) _)) (by rw [HQLX.out]; omega) HSQ.out
          rw [HQLX.out] at hsum ⊢
          have HSUM := Lib.hid hsum
          clear hsum ro
          obtain ⟨W3, rfl⟩ : ∃ W3 : World, W3 = wr := ⟨_, rfl⟩
          have hO3 : (W3.alloc (.cells #[] 3)).ownsRow w.heap.size 3 1 (.slice (some ⟨gO, 0, none⟩) xs.length co) xs.length (ints (partK xs s 0)) := by rw [partK_zero, HALL.out]; exact hO2.alloc _
          obtain ⟨L, hL⟩ : ∃ L : Nat, leftS xs s = L := ⟨(leftS xs s).toNat, by omega⟩
          rw [hL] at l1 l3 HLS
          have HLT : Hid ((leftS xs s).toNat = L) := Lib.hid (by rw [hL]; rfl)
          have hlx : L < xs.length := by omega
          clear hO2 hL
          generalize (shQ xs s all).sum = sq at *
          have hle : s - sq = (L : Int) := HLS.out.symm
          go_wp2_with fail
          refine HSUM.out.mono ?_
          rintro e w' ⟨rfl, rfl⟩
          go_wp2
          go_loopw [8, 9] (fun v i wr => ∃ (m : Nat) (v0 : Value), m ≤ L ∧ v0 = v ∧ i = .int .i64 ((L : Int) - m) ∧ wr.ownsRow w.heap.size 3 1 (.slice (some ⟨gO, 0, none⟩) xs.length co) xs.length (ints (partK xs s m)) ∧ wr.ownsRow W3.heap.size 3 1 v0 m (ints ((ordX xs s).take m)) ∧ Below w.heap.size w wr ∧ W3.heap.size ≤ wr.heap.size) (fun _ i _ => (intOf i).toNat)
          case atStart => exact ⟨0, _, Nat.zero_le _, rfl, by first | rfl | (congr 1; omega), hO3, by simpa [ints] using own_empty W3 3 1 _ (Nat.le_refl _), below_al hW _, by simp⟩
          case round =>
            have hW3 := Lib.hid hW
            clear hO3 hW hle hk hlt HSUM
            obtain ⟨m, v, hm, rfl, rfl, hO, hG, hW, hsz⟩ := hrel
            obtain ⟨wo, rfl⟩ : ∃ wo : World, wo = wr := ⟨_, rfl⟩
            by_cases hlt : m < L
            · obtain ⟨Ag, cg, rfl, rg, -⟩ := own_form hG
              obtain ⟨r, hr⟩ : ∃ r : Nat, (L : Int) - m = (r : Int) + 1 := ⟨L - m - 1, by omega⟩
              rw [hr]
              have hrb : r ≤ 7 := by omega
              have HRR := Lib.hid hr
              have HTL := Lib.hid (ordX_take_len xs s m (by omega))
              have HTS := Lib.hid (ordX_take_succ xs s m (by omega))
              obtain ⟨n1, n2, n3⟩ := bstS_next (shR xs s xs.sum) xs.length m (by omega)
              have HNX : Hid (bstS (shR xs s all) ((ordX xs s).take m) xs.length = at0 (ordX xs s) m) := Lib.hid (by rw [← HALL.out]; exact n1)
              obtain ⟨bN, hbN⟩ : ∃ bN : Nat, at0 (ordX xs s) m = bN := ⟨(at0 (ordX xs s) m).toNat, by have : 0 ≤ at0 (ordX xs s) m := n2; omega⟩
              have hbl : bN < xs.length := by have : at0 (ordX xs s) m < xs.length := n3; omega
              have HPS := Lib.hid (partK_succ xs s m (by omega))
              have HPL := Lib.hid (partK_length xs s m)
              have hpb := HPB.out m (by omega) bN
              rw [hbN] at HTS HNX HPS
              rw [Int.toNat_natCast] at HPS
              have hquiet : ∀ (k : Int) (q : Nat), Calls Try.prog 41 #[.slice Ag m cg, .int .i64 k] (wo.drewN q) fun e w'' => e = .returned (.bool (hasB ((ordX xs s).take m) k)) ∧ wo.drewN q = w'' := fun k q => by
                have hx := l1Has_any Ag cg ((ordX xs s).take m) k (wo.drewN q) _ (RV.below rg (below_n q)) (by rw [HTL.out]; omega)
                rw [HTL.out] at hx
                exact hx
              have HQ := Lib.hid hquiet
              have HO := Lib.hid hO
              have HG := Lib.hid hG
              have hIS := RV.below h hW
              clear hquiet hO hG n1 n2 n3 hbN rg hr
              obtain ⟨got, hgot⟩ : ∃ got, (ordX xs s).take m = got := ⟨_, rfl⟩
              rw [hgot] at HTS HNX HQ HG
              clear hgot HTL
              go_wp2
              go_loopw [10, 11] (fun bb i wx => ∃ k : Nat, k ≤ xs.length ∧ i = .int .i64 k ∧ bb = .int .i64 (bstS (shR xs s all) got k) ∧ ∃ q, wx = wo.drewN q) (fun _ i _ => xs.length - (intOf i).toNat)
              case atStart => exact ⟨0, Nat.zero_le _, rfl, rfl, 0, rfl⟩
              case round =>
                obtain ⟨k, hk, rfl, rfl, q, rfl⟩ := hrel
                by_cases hlk : k < xs.length
                · obtain ⟨b, off, rfl, hbl2, hc⟩ := IS.at0_ hIS (by omega)
                  have e1 := hc k hlk
                  obtain ⟨p1, p2, -, -, p5, p6⟩ := prod_b h5 (HX.out k) h3
                  obtain ⟨-, d1⟩ := div_facts (all := all) p1
                  have HRK := Lib.hid (HSB.out k hlk)
                  have HHK := Lib.hid (HQ.out (k : Int))
                  have HSK := Lib.hid (fun hg => bstS_skip (rs := shR xs s all) (got := got) (k := k) hg)
                  have HFI := Lib.hid (fun hg hb => bstS_first (rs := shR xs s all) (got := got) (k := k) hg hb)
                  have HMO := Lib.hid (fun (b : Nat) hg hb hl => bstS_more (rs := shR xs s all) (got := got) (k := k) (b := b) hg hb hl)
                  have HLE := Lib.hid (fun (b : Nat) hg hb hl => bstS_less (rs := shR xs s all) (got := got) (k := k) (b := b) hg hb hl)
                  obtain ⟨hx, hhx⟩ : ∃ hx, hasB got k = hx := ⟨_, rfl⟩
                  rw [hhx] at HHK HSK HFI HMO HLE
                  clear hhx
                  rcases bstS_at (shR xs s all) got k with e | ⟨bi, e, hbk⟩
                  · rw [e] at HSK ⊢
                    have HFI2 := Lib.hid (fun hg => HFI.out hg e)
                    clear e hc HFI HMO HLE HRK
                    generalize at0 xs k = x at *
                    generalize s * x % all = rk at *
                    generalize hp : s * x = px at *
                    have hwx : IntKind.i64.wrap px = px := by rw [IntKind.wrap_i64]; omega
                    cases hx
                    · have HR := Lib.hid (HFI2.out rfl)
                      go_wp2_with fail
                      go_quiet ((first | (go_at_call 41; exact quiet_add_leftS (HHK.out _)) | (go_at_call 41; exact quiet_leftS (HHK.out _))))
                      go_wp2
                      go_roundw
                      case rel => first | exact ⟨k + 1, by omega, by go_num, by rw [HR.out], _, rfl⟩ | exact ⟨k + 1, by omega, by go_num, by rw [HR.out], _, World.drewN_drewN _ _ _⟩
                      case measure => (simp [intOf]) <;> omega
                    · have HR := Lib.hid (HSK.out rfl)
                      go_wp2_with fail
                      go_quiet ((first | (go_at_call 41; exact quiet_add_leftS (HHK.out _)) | (go_at_call 41; exact quiet_leftS (HHK.out _))))
                      go_wp2
                      go_roundw
                      case rel => first | exact ⟨k + 1, by omega, by go_num, by rw [HR.out], _, rfl⟩ | exact ⟨k + 1, by omega, by go_num, by rw [HR.out], _, World.drewN_drewN _ _ _⟩
                      case measure => (simp [intOf]) <;> omega
                  · rw [e] at HSK ⊢
                    have HMO2 := Lib.hid (fun hg hl => HMO.out bi hg e hl)
                    have HLE2 := Lib.hid (fun hg hl => HLE.out bi hg e hl)
                    have hbn : bi < xs.length := by omega
                    have e2 := hc bi hbn
                    obtain ⟨q1, q2, -, -, q5, q6⟩ := prod_b h5 (HX.out bi) h3
                    obtain ⟨-, d2⟩ := div_facts (all := all) q1
                    have HRB := HSB.out bi hbn
                    rw [HRB, HRK.out] at HMO2 HLE2
                    clear e hc HFI HMO HLE HRK HRB
                    generalize at0 xs k = x at *
                    generalize at0 xs bi = y at *
                    generalize s * x % all = rk at *
                    generalize s * y % all = rb at *
                    generalize hp : s * x = px at *
                    generalize hpy : s * y = py at *
                    have hwx : IntKind.i64.wrap px = px := by rw [IntKind.wrap_i64]; omega
                    have hwy : IntKind.i64.wrap py = py := by rw [IntKind.wrap_i64]; omega
                    cases hx
                    · by_cases hlt2 : rb < rk
                      · have HR := Lib.hid (HMO2.out rfl hlt2)
                        go_wp2_with fail
                        go_quiet ((first | (go_at_call 41; exact quiet_add_leftS (HHK.out _)) | (go_at_call 41; exact quiet_leftS (HHK.out _))))
                        go_wp2
                        go_roundw
                        case rel => first | exact ⟨k + 1, by omega, by go_num, by rw [HR.out], _, rfl⟩ | exact ⟨k + 1, by omega, by go_num, by rw [HR.out], _, World.drewN_drewN _ _ _⟩
                        case measure => (simp [intOf]) <;> omega
                      · have HR := Lib.hid (HLE2.out rfl hlt2)
                        have hd : decide (rb < rk) = false := decide_eq_false hlt2
                        go_wp2_with fail
                        go_quiet ((first | (go_at_call 41; exact quiet_add_leftS (HHK.out _)) | (go_at_call 41; exact quiet_leftS (HHK.out _))))
                        go_wp2
                        go_roundw
                        case rel => first | exact ⟨k + 1, by omega, by go_num, by rw [HR.out], _, rfl⟩ | exact ⟨k + 1, by omega, by go_num, by rw [HR.out], _, World.drewN_drewN _ _ _⟩
                        case measure => (simp [intOf]) <;> omega
                    · have HR := Lib.hid (HSK.out rfl)
                      go_wp2_with fail
                      go_quiet ((first | (go_at_call 41; exact quiet_add_leftS (HHK.out _)) | (go_at_call 41; exact quiet_leftS (HHK.out _))))
                      go_wp2
                      go_roundw
                      case rel => first | exact ⟨k + 1, by omega, by go_num, by rw [HR.out], _, rfl⟩ | exact ⟨k + 1, by omega, by go_num, by rw [HR.out], _, World.drewN_drewN _ _ _⟩
                      case measure => (simp [intOf]) <;> omega
                · obtain rfl : k = xs.length := by omega
                  rw [HNX.out]
                  have hG2 : (wo.drewN q).ownsRow W3.heap.size 3 1 (.slice Ag m cg) m (ints got) := own_below HG.out (below_n q)
                  have hO2 : (wo.drewN q).ownsRow w.heap.size 3 1 (.slice (some ⟨gO, 0, none⟩) xs.length co) xs.length (ints (partK xs s m)) := own_below HO.out (below_n q)
                  have hW2 := below_drewN hW q
                  have hsz2 : W3.heap.size ≤ (wo.drewN q).heap.size := hsz
                  have hsz3 := hW2.size
                  have hblp : bN < (partK xs s m).length := by rw [HPL.out]; exact hbl
                  have hmL : m ≤ 7 := by omega
                  clear HG HO hW HQ hIS
                  generalize wo.drewN q = wz at *
                  have HPUSH := Lib.hid (fun (w3 : World) (o : Obj) (hg3 : (wz.alloc o).grownBy w3 (Value.slice Ag m cg).ownBlock) => got_push hO2 hG2 hgl hg3)
                  go_wp2_with (at_builtin; refine wpList_app _ rfl _ _ 22 rfl int_EIS W3.heap.size (.slice Ag m cg) m _ rfl (hG2.alloc _) (some ⟨_, 0, none⟩) 1 1 [.int .i64 bN] rfl rfl (rv_new _ _ _) (one1 _) (le_max (by omega)) (by omega) (by simp; omega) ?_; intro v3 w3 hO3 hg3 hv3; have hOo := HPUSH.out _ _ hg3; obtain ⟨hcell, hfr⟩ := row_at0 hOo bN hblp; have HO5 := Lib.hid (row_set hOo bN (at0 (partK xs s m) bN + 1)); have HO3 := Lib.hid hO3; have HG3 := Lib.hid hg3; clear hOo hO3 hg3)
                  have hb3 : Below w.heap.size w w3 := hW2.trans (((Below.refl w.heap.size wz).alloc (by omega) _).grown HG3.out (by simp; omega) fun g hg => by have := (World.ownsRow.lt (hG2.alloc (.cells #[.int .i64 bN] 3)) g hg).1; omega)
                  have hs3 := HG3.out.size
                  go_roundw
                  case rel => exact ⟨m + 1, _, by omega, rfl, by have := HRR.out; congr 1; omega, by rw [HPS.out]; exact HO5.out, own_setlt (by rw [HTS.out, ints_append]; exact HO3.out) hgl, hb3.setCell hgO _, by simp at hs3; simp; omega⟩
                  case measure => (simp [intOf]) <;> omega
            · obtain rfl : m = L := by omega
              have h0 : (m : Int) - (m : Int) = 0 := by omega
              rw [h0]
              have HO := Lib.hid hO
              clear hO hG h0
              go_wp2
              go_ret
              refine ⟨_, rfl, ?_, hW⟩
              have e1 : shareF xs s = partK xs s m := by rw [HE.out, HLT.out]
              rw [e1, OI, partK_length]
              exact HO.out
end Go.Proofs.Ytgndokhehooplaa
