/- l5Groups: the reference's table. -/
import Derived.Test.YtgndokhehooplaaMost2
set_option linter.unusedVariables false
set_option linter.unusedSimpArgs false
namespace Go.Proofs.Ytgndokhehooplaa
open Go.ChangeShapes Go.WideShapes Go.ChangeAt Go.RowKit

theorem ValM.congr {ow : List Int} {T T' : Nat → Int} {s : Nat} {v : Int} (h : ValM ow T s v) (e : ∀ p, p < s → T p = T' p) : ValM ow T' s v :=
  ⟨h.no, h.pos, fun h0 p p1 p2 p3 p4 => by rw [← e p p2, ← e (s - p) (by omega)]; exact h.ge h0 p p1 p2 p3 (by rw [e p p2]; exact p4),
    fun h0 => (h.is h0).elim .inl fun ⟨p, p1, p2, p3, p4, p5⟩ => .inr ⟨p, p1, p2, p3, by rw [← e p p2]; exact p4, by rw [← e p p2, ← e (s - p) (by omega)]; exact p5⟩⟩
theorem at0_pushM (xs : List Int) (y : Int) (k : Nat) : at0 (xs ++ [y]) k = if k < xs.length then at0 xs k else if k = xs.length then y else 0 := by
  by_cases h : k < xs.length
  · rw [if_pos h]; simp only [at0, List.getD_eq_getElem?_getD, List.getElem?_append_left h]
  · rw [if_neg h]
    by_cases e : k = xs.length
    · subst e; rw [if_pos rfl]; simp [at0]
    · rw [if_neg e]
      have : (xs ++ [y]).length ≤ k := by rw [List.length_append]; simp; omega
      simp [at0, List.getElem?_eq_none this]
theorem tab_push {ow T : List Int} {s : Nat} {v : Int} (h : IsTab ow (at0 T) s) (hl : T.length = s) (hs : 0 < s) (hv : ValM ow (at0 T) s v) : IsTab ow (at0 (T ++ [v])) (s + 1) := by
  have e : ∀ p, p < s → at0 T p = at0 (T ++ [v]) p := fun p hp => by rw [at0_pushM, if_pos (by omega)]
  refine ⟨by rw [← e 0 hs]; exact h.1, fun p hp hps => ?_⟩
  by_cases e2 : p = s
  · subst e2
    have : at0 (T ++ [v]) p = v := by rw [at0_pushM, if_neg (by omega), if_pos (by omega)]
    rw [this]; exact hv.congr e
  · rw [← e p (by omega)]
    exact (h.2 p hp (by omega)).congr fun q hq => e q (by omega)
/-- What is known of the best division when the parts of D were tried. -/
structure PartV (ow : List Int) (T : Nat → Int) (s : Nat) (b : Int) (D : Nat → Prop) : Prop where
  pos : 1 ≤ b
  ge : ∀ p, D p → 0 < p → p < s → Sub p s → 1 ≤ T p → T p + T (s - p) ≤ b
  is : b = 1 ∨ ∃ p, 0 < p ∧ p < s ∧ Sub p s ∧ 1 ≤ T p ∧ b = T p + T (s - p)
theorem PartV.all {ow : List Int} {T : Nat → Int} {s : Nat} {b : Int} {D : Nat → Prop} (h : PartV ow T s b D) (h0 : sumM ow s = 0) (hD : ∀ p, 0 < p → p < s → Sub p s → D p) : ValM ow T s b :=
  ⟨fun hn => absurd h0 hn, fun _ => h.pos, fun _ p p1 p2 p3 p4 => h.ge p (hD p p1 p2 p3) p1 p2 p3 p4, fun _ => h.is⟩
theorem PartV.skip {ow : List Int} {T : Nat → Int} {s : Nat} {b : Int} {D D' : Nat → Prop} (h : PartV ow T s b D) (hD : ∀ p, D' p → 0 < p → p < s → Sub p s → 1 ≤ T p → D p) : PartV ow T s b D' :=
  ⟨h.pos, fun p d p1 p2 p3 p4 => h.ge p (hD p d p1 p2 p3 p4) p1 p2 p3 p4, h.is⟩
theorem PartV.take {ow : List Int} {T : Nat → Int} {s q : Nat} {b : Int} {D D' : Nat → Prop} (h : PartV ow T s b D) (q1 : 0 < q) (q2 : q < s) (q3 : Sub q s) (q4 : 1 ≤ T q) (hD : ∀ p, D' p → Sub p s → p = q ∨ D p) : PartV ow T s (max b (T q + T (s - q))) D' := by
  refine ⟨by have := h.pos; omega, fun p d p1 p2 p3 p4 => ?_, ?_⟩
  · rcases hD p d p3 with e | e
    · subst e; omega
    · have := h.ge p e p1 p2 p3 p4; omega
  · by_cases hle : T q + T (s - q) ≤ b
    · rw [show max b (T q + T (s - q)) = b by omega]; exact h.is
    · exact .inr ⟨q, q1, q2, q3, q4, by omega⟩
theorem PartV.start (ow : List Int) (T : Nat → Int) (s : Nat) {D : Nat → Prop} (hD : ∀ p, D p → 0 < p → p < s → Sub p s → False) : PartV ow T s 1 D :=
  ⟨by omega, fun p d p1 p2 p3 _ => absurd (hD p d p1 p2 p3) id, .inl rfl⟩
theorem tab_rest {ow : List Int} {T : Nat → Int} {s p : Nat} (h : IsTab ow T s) (h0 : sumM ow s = 0) (p1 : 0 < p) (p2 : p < s) (p3 : Sub p s) (p4 : 1 ≤ T p) : 1 ≤ T (s - p) := by
  have hp : sumM ow p = 0 := by
    by_cases e : sumM ow p = 0
    · exact e
    · have := (h.2 p p1 p2).no e; omega
  exact (h.2 (s - p) (by omega) (by omega)).pos (by rw [sumM_diff ow p3, h0, hp]; rfl)
def TBnd (T : List Int) : Prop := ∀ s : Nat, -1 ≤ at0 T s ∧ at0 T s ≤ s
theorem PartV.le {ow T : List Int} {s : Nat} {b : Int} {D : Nat → Prop} (h : PartV ow (at0 T) s b D) (hb : TBnd T) (hs : 0 < s) : b ≤ s := by
  rcases h.is with e | ⟨p, p1, p2, -, -, p5⟩
  · omega
  · have h1 := (hb p).2
    have h2 := (hb (s - p)).2
    omega
theorem tbnd_push {T : List Int} {v : Int} (h : TBnd T) (h1 : -1 ≤ v) (h2 : v ≤ T.length) : TBnd (T ++ [v]) := by
  intro k
  rw [at0_pushM]
  have := h k
  split
  · exact this
  · split <;> omega
def RetG (w : World) (ow : List Int) (e : Ending) (w' : World) : Prop := ∃ v T, e = .returned v ∧ OI w' w.heap.size v T ∧ T.length = 2 ^ ow.length ∧ IsTab ow (at0 T) (2 ^ ow.length) ∧ TBnd T ∧ Below w.heap.size w w'
theorem newGM {base : Nat} (w : World) (T : TypeId) (cs : List Value) (s : Nat) (hs : cs.length = s) (h : base ≤ w.heap.size) : (w.alloc (.cells cs.toArray T)).ownsRow base T s (.slice (some ⟨w.heap.size, 0, none⟩) 1 1) 1 cs :=
  Blk.own (Blk.new w T cs.toArray) h (by simp [hs]) (by decide)
theorem int_EIM : EI Try.prog 22 3 1 8 := EI.mk Try.underlying22 int_info rfl (by omega)
theorem oi_pushM {w : World} {base n : Nat} {v : Value} {xs : List Int} {k : Int} (hn : xs.length = n) (h : w.ownsRow base 3 1 v (n + 1) (ints xs ++ [.int .i64 k])) : OI w base v (xs ++ [k]) := by
  subst hn
  rw [OI, ints_append, List.length_append]; exact h
theorem own_readsM {w : World} {base n c : Nat} {A : Option Addr} {xs : List Int} (h : w.ownsRow base 3 1 (.slice A n c) n (ints xs)) : IS w w.heap.size A xs := by
  obtain ⟨A', c', hv, hr, _⟩ := own_form h
  injection hv with h1 _ _
  subst h1
  exact hr
theorem below_appM {w0 w w' : World} {o : Obj} {e : TypeId} {size n : Nat} {v : Value} {xs : List Value} (hs : w0.heap.size ≤ w.heap.size) (ho : (w.alloc o).ownsRow w0.heap.size e size v n xs) (hg : (w.alloc o).grownBy w' v.ownBlock) : Below w0.heap.size w w' :=
  ((Below.refl w0.heap.size w).alloc hs o).grown hg (by simp; omega) fun k hk => (World.ownsRow.lt ho k hk).1
set_option maxRecDepth 20000 in
set_option maxHeartbeats 8000000 in
theorem l5Groups_any (A : Option Addr) (c : Nat) (ow : List Int) (w : World) (h : IS w w.heap.size A ow) (hl : ow.length ≤ 7) (hb : ∀ k, -9999 ≤ at0 ow k ∧ at0 ow k ≤ 9999) :
    Calls Try.prog 33 #[.slice A ow.length c] w (RetG w ow) := by
  have HB := Lib.hid hb
  clear hb
  obtain ⟨N, hN⟩ : ∃ N : Nat, 2 ^ ow.length = N := ⟨_, rfl⟩
  have hN7 : N ≤ 128 := by rw [← hN]; exact Nat.pow_le_pow_right (by omega) hl
  have hN1 : 1 ≤ N := by rw [← hN]; exact Nat.pow_pos (by omega)
  have hNI : (2 : Int) ^ ow.length = (N : Int) := by rw [← hN]; simp
  have hk64 : min ow.length 64 = ow.length := by omega
  have HN := Lib.hid hN
  clear hN
  go_enter Try.func33, Try.ntmps33
  go_wp2
  go_loopw [3, 4] (fun v i wr => ∃ (s : Nat) (v0 : Value) (T : List Int), 1 ≤ s ∧ s ≤ N ∧ v0 = v ∧ i = .int .i64 (s : Int) ∧ wr.ownsRow w.heap.size 3 1 v0 s (ints T) ∧ Hid (T.length = s) ∧ Hid (IsTab ow (at0 T) s) ∧ Hid (TBnd T) ∧ Below w.heap.size w wr) (fun _ i _ => N - (intOf i).toNat)
  case atStart => exact ⟨1, _, [0], by omega, hN1, rfl, rfl, newGM w 3 [.int .i64 0] 1 rfl (Nat.le_refl _), Lib.hid rfl, Lib.hid ⟨rfl, fun s h1 h2 => by omega⟩, Lib.hid (fun k => by cases k with | zero => simp [at0] | succ k => (simp [at0]; omega)), below_al (Below.refl _ _) _⟩
  case round =>
    obtain ⟨s, v, T, hs1, hsN, rfl, rfl, hO, HL, HT, HTB, hW⟩ := hrel
    by_cases hlt : s < N
    · have h9 := RV.below h hW
      have HPU := Lib.hid (fun v hv => tab_push (v := v) HT.out HL.out (by omega) hv)
      have HTP := Lib.hid (fun v h1 h2 => tbnd_push (v := v) HTB.out h1 h2)
      go_wp2_with fail
      refine (l5Sum_any A c ow s _ _ h9 hl HB.out (by omega)).mono ?_
      rintro e w' ⟨rfl, rfl⟩
      by_cases h0 : sumM ow s = 0
      · have H0 := Lib.hid h0
        rw [h0]
        clear h0
        obtain ⟨wo, rfl⟩ : ∃ wo : World, wo = wr := ⟨_, rfl⟩
        have HO := Lib.hid hO
        obtain ⟨A2, c2, rfl, -⟩ := own_form hO
        have hr2 := own_readsM hO
        clear hO
        go_wp2
        go_loopw [5, 6] (fun b i wx => ∃ (p : Nat) (bv : Int), 1 ≤ p ∧ p ≤ s ∧ i = .int .i64 (p : Int) ∧ b = .int .i64 bv ∧ Hid (PartV ow (at0 T) s bv (fun q => q < p)) ∧ ∃ q, wx = wo.drewN q) (fun _ i _ => s - (intOf i).toNat)
        case atStart => exact ⟨1, 1, by omega, hs1, rfl, rfl, Lib.hid (PartV.start _ _ _ (fun p d p1 _ _ => by omega)), 0, rfl⟩
        case round =>
          obtain ⟨p, bv, hp1, hps, rfl, rfl, HP, q, rfl⟩ := hrel
          have hble := HP.out.le HTB.out (by omega)
          have hbp := HP.out.pos
          by_cases hlp : p < s
          · obtain ⟨b2, off2, rfl, hbl2, hc2⟩ := IS.at0_ hr2 (by rw [HL.out]; omega)
            have e1 := hc2 p (by rw [HL.out]; exact hlp)
            have hple : p &&& s ≤ p := Nat.and_le_left
            have hsz : s - (p &&& s) ≤ s := by omega
            have hmeet := fun q => l1Meet_any p s (wo.drewN q) (by omega) (by omega)
            have HME := Lib.hid hmeet
            clear hmeet
            by_cases hsub : Sub p s
            · have hps2 : p &&& s = p := hsub
              have HSUB := Lib.hid hsub
              rw [hps2] at HME
              have e2 := hc2 (s - p) (by rw [HL.out]; omega)
              have hbd1 := HTB.out p
              have hbd2 := HTB.out (s - p)
              have HRE := Lib.hid (fun h4 => tab_rest HT.out H0.out (by omega) hlp hsub h4)
              have HTA := Lib.hid (fun h4 => HP.out.take (D' := fun q => q < p + 1) (by omega) hlp hsub h4 (fun q hq _ => by omega))
              have HSK := Lib.hid (fun (hn : ¬ 1 ≤ at0 T p) => HP.out.skip (D' := fun q => q < p + 1) (fun q hq _ _ _ h4 => by
                rcases Nat.lt_or_ge q p with h | h
                · exact h
                · have : q = p := by omega
                  subst this; exact absurd h4 hn))
              have hsp : ((s : Int) - (p : Int)) = ((s - p : Nat) : Int) := by omega
              have hspn : s - p < s := by omega
              clear hc2 hple hsz hsub hps2
              generalize at0 T p = x at *
              generalize at0 T (s - p) = y at *
              by_cases hx : 1 ≤ x
              · have hy := HRE.out hx
                have HR := Lib.hid (HTA.out hx)
                go_wp2_with (go_at_call 66; refine (HME.out _).mono ?_; rintro e w' ⟨rfl, rfl⟩)
                go_quiet (fail)
                go_wp2
                go_roundw
                case rel => first | exact ⟨p + 1, _, by omega, by omega, by go_num, rfl, HR, _, rfl⟩ | exact ⟨p + 1, _, by omega, by omega, by go_num, rfl, HR, _, World.drewN_drewN _ _ _⟩
                case measure => (simp [intOf]) <;> omega
              · have HR := Lib.hid (HSK.out hx)
                have hd : decide ((1 : Int) ≤ x) = false := decide_eq_false hx
                go_wp2_with (go_at_call 66; refine (HME.out _).mono ?_; rintro e w' ⟨rfl, rfl⟩)
                go_roundw
                case rel => exact ⟨p + 1, bv, by omega, by omega, by go_num, rfl, HR, _, rfl⟩
                case measure => (simp [intOf]) <;> omega
            · have hne : p &&& s ≠ p := hsub
              have HR := Lib.hid (HP.out.skip (D' := fun q => q < p + 1) (fun q hq _ _ h3 _ => by
                rcases Nat.lt_or_ge q p with h | h
                · exact h
                · have : q = p := by omega
                  subst this; exact absurd h3 hsub))
              clear hsub hc2
              generalize p &&& s = m at *
              have hmb : ((m : Int) == (p : Int)) = false := by rw [beq_eq_false_iff_ne]; omega
              have hmb2 : (m == p) = false := by rw [beq_eq_false_iff_ne]; exact hne
              go_wp2_with (go_at_call 66; refine (HME.out _).mono ?_; rintro e w' ⟨rfl, rfl⟩)
              go_roundw
              case rel => exact ⟨p + 1, bv, by omega, by omega, by go_num, rfl, HR, _, rfl⟩
              case measure => (simp [intOf]) <;> omega
          · obtain rfl : p = s := by omega
            have HV := Lib.hid (HPU.out _ (HP.out.all H0.out (fun q _ h _ => h)))
            have HV2 := Lib.hid (HTP.out bv (by omega) (by rw [HL.out]; exact hble))
            have hO2 : (wo.drewN q).ownsRow w.heap.size 3 1 (.slice A2 p c2) p (ints T) := own_below HO.out (below_n q)
            have hW2 := below_drewN hW q
            have hsz2 := hW2.size
            clear HP hr2 h9 hW HO
            generalize wo.drewN q = wz at *
            go_wp2_with (at_builtin; refine wpList_app _ rfl _ _ 22 rfl int_EIM w.heap.size (.slice A2 p c2) p _ rfl (hO2.alloc _) (some ⟨_, 0, none⟩) 1 1 [.int .i64 bv] rfl rfl (rv_new _ _ _) (one1 _) (le_max (by omega)) (by omega) (by simp; omega) ?_; intro v3 w3 hO3 hg3 hv3)
            have hO4 := Lib.hid (show w3.ownsRow w.heap.size 3 1 v3 (p + 1) (ints (T ++ [bv])) by rw [ints_append]; exact hO3)
            have hb3 := Lib.hid (hW2.trans (below_appM (w0 := w) hsz2 (hO2.alloc _) hg3))
            clear hO3 hg3 hv3 hO2
            go_roundw
            case rel => exact ⟨p + 1, _, T ++ [bv], by omega, by omega, rfl, by go_num, hO4.out, Lib.hid (by rw [List.length_append, HL.out]; rfl), HV, HV2, hb3.out⟩
            case measure => (simp [intOf]) <;> omega
      · have HV := Lib.hid (HPU.out (-1) ⟨fun _ => rfl, fun h => absurd h h0, fun h => absurd h h0, fun h => absurd h h0⟩)
        have HV2 := Lib.hid (HTP.out (-1) (by omega) (by omega))
        have hsz2 := hW.size
        have h0b : (sumM ow s == 0) = false := by rw [beq_eq_false_iff_ne]; exact h0
        clear h9
        generalize sumM ow s = sm at *
        go_wp2_with (at_builtin; refine wpList_app _ rfl _ _ 22 rfl int_EIM w.heap.size v s _ rfl (hO.alloc _) (some ⟨_, 0, none⟩) 1 1 [.int .i64 (-1)] rfl rfl (rv_new _ _ _) (one1 _) (le_max (by omega)) (by omega) (by simp; omega) ?_; intro v3 w3 hO3 hg3 hv3)
        have hO4 := Lib.hid (show w3.ownsRow w.heap.size 3 1 v3 (s + 1) (ints (T ++ [-1])) by rw [ints_append]; exact hO3)
        have hb3 := Lib.hid (hW.trans (below_appM (w0 := w) hsz2 (hO.alloc _) hg3))
        clear hO3 hg3 hv3 hO
        go_roundw
        case rel => exact ⟨s + 1, _, T ++ [-1], by omega, by omega, rfl, by go_num, hO4.out, Lib.hid (by rw [List.length_append, HL.out]; rfl), HV, HV2, hb3.out⟩
        case measure => (simp [intOf]) <;> omega
    · obtain rfl : s = N := by omega
      have HO := Lib.hid hO
      clear hO
      go_wp2
      go_ret
      exact ⟨_, T, rfl, by rw [OI, HL.out]; exact HO.out, by rw [HL.out, HN.out], by rw [HN.out]; exact HT.out, HTB.out, hW⟩
end Go.Proofs.Ytgndokhehooplaa
