/- PaysOk: the walk of the reference. -/
import Derived.Test.YtnopgmgoehenpaaBills3
import Derived.BigRegion
namespace Go.Proofs.Ytnopgmgoehenpaa
open Go.ChangeShapes Go.WideShapes Go.ChangeAt Go.RowKit

theorem pay_facts {wr : World} {lo n cap g : Nat} {l : List Int} (hO : wr.ownsRow lo 3 1 (.slice (some ⟨g, 0, none⟩) n cap) n (ints l)) (f t : Nat) (su M : Int) (T : TypeId) (hf : f < l.length) (ht : t < l.length) (hne : f ≠ t)
    (hM : within M l) (hM2 : M ≤ 100000000000) (hs : 1 ≤ su ∧ su ≤ 9999) :
    ((wr.alloc (.cells #[.int .i64 f, .int .i64 t, .int .i64 su] T)).cell? ⟨g, f, none⟩ = some (.int .i64 l[f]) ∧ (wr.alloc (.cells #[.int .i64 f, .int .i64 t, .int .i64 su] T)).frozen? ⟨g, f, none⟩ = false ∧
      ((wr.alloc (.cells #[.int .i64 f, .int .i64 t, .int .i64 su] T)).setCell ⟨g, f, none⟩ (.int .i64 (l[f] + su))).cell? ⟨g, t, none⟩ = some (.int .i64 l[t]) ∧
      ((wr.alloc (.cells #[.int .i64 f, .int .i64 t, .int .i64 su] T)).setCell ⟨g, f, none⟩ (.int .i64 (l[f] + su))).frozen? ⟨g, t, none⟩ = false ∧
      ((wr.alloc (.cells #[.int .i64 f, .int .i64 t, .int .i64 su] T)).setCell ⟨g, f, none⟩ (.int .i64 (l[f] + su))).cell? ⟨wr.heap.size, 1, none⟩ = some (.int .i64 t) ∧
      ((wr.alloc (.cells #[.int .i64 f, .int .i64 t, .int .i64 su] T)).setCell ⟨g, f, none⟩ (.int .i64 (l[f] + su))).cell? ⟨wr.heap.size, 2, none⟩ = some (.int .i64 su)) ∧
    (IntKind.i64.wrap (l[f] + su) = l[f] + su ∧ IntKind.i64.wrap (l[t] - su) = l[t] - su) ∧
    (((wr.alloc (.cells #[.int .i64 f, .int .i64 t, .int .i64 su] T)).setCell ⟨g, f, none⟩ (.int .i64 (l[f] + su))).setCell ⟨g, t, none⟩ (.int .i64 (l[t] - su))).ownsRow lo 3 1 (.slice (some ⟨g, 0, none⟩) n cap) n (ints (payStep l ((f : Int), (t : Int), su))) ∧
    within (M + 9999) (payStep l ((f : Int), (t : Int), su)) := by
  have h1 := hO.alloc (.cells #[.int .i64 f, .int .i64 t, .int .i64 su] T)
  have h2 := row_set h1 f (l[f] + su)
  have e2 : (l.set f (l[f] + su))[t]'(by simpa using ht) = l[t] := List.getElem_set_ne hne _
  have r1 := row_at h1 f hf
  have r2 := row_at h2 t (by simpa using ht)
  rw [e2] at r2
  have h3 := row_set h2 t (l[t] - su)
  have hgl : g < wr.heap.size := (World.ownsRow.lt hO g rfl).2
  have b1 := within_at hM f hf
  have b2 := within_at hM t ht
  have hb : ∀ i (v : Value), (wr.alloc (.cells #[.int .i64 f, .int .i64 t, .int .i64 su] T)).cell? ⟨wr.heap.size, i, none⟩ = some v → ((wr.alloc (.cells #[.int .i64 f, .int .i64 t, .int .i64 su] T)).setCell ⟨g, f, none⟩ (.int .i64 (l[f] + su))).cell? ⟨wr.heap.size, i, none⟩ = some v := by
    intro i v hv
    rw [World.cell?_setCell_other _ _ _ _ (by intro e; injection e with e1 _ _; omega)]
    exact hv
  have c : ∀ i, (wr.alloc (.cells #[.int .i64 f, .int .i64 t, .int .i64 su] T)).cell? ⟨wr.heap.size, i, none⟩ = (#[Value.int .i64 f, .int .i64 t, .int .i64 su])[i]? := fun i => cell_of_row _ _ _ _ T (0, 0) (heap_alloc_new wr _)
  refine ⟨⟨r1.1, r1.2, r2.1, r2.2, hb 1 _ (c 1), hb 2 _ (c 2)⟩, ⟨by rw [IntKind.wrap_i64]; omega, by rw [IntKind.wrap_i64]; omega⟩, ?_, ?_⟩
  · rw [payStep_at l f t su hf ht hne]
    exact h3
  · rw [payStep_at l f t su hf ht hne]
    exact within_set (M := M + 9999) (within_set (M' := M + 9999) hM (by omega) f _ (by omega)) (by omega) t _ (by omega)

theorem payOk_split {n : Nat} {p : PayT} : payOk n p = true ↔ inB p.1 0 (n - 1) = true ∧ inB p.2.1 0 (n - 1) = true ∧ (p.1 == p.2.1) = false ∧ inB p.2.2 1 9999 = true := by
  simp [payOk, Bool.and_eq_true]
theorem paysB_no {owed : List Int} {ps : List PayT} (k : Nat) (hk : k < ps.length) (h : payOk owed.length ps[k] = false) : paysB owed ps = false := by
  rw [paysB, all_false _ ps k hk h]; simp
set_option maxHeartbeats 4000000 in
theorem spec_paysOk (A A' : Option Addr) (c c' : Nat) (owed : List Int) (ps : List PayT) (w : World) (h : IS w w.heap.size A owed) (h' : SP w w.heap.size A' ps) (hl : owed.length ≤ 1048576) (hl' : ps.length ≤ 1048576) :
    Calls Try.prog 24 #[.slice A owed.length c, .slice A' ps.length c'] w fun e w' => e = .returned (.bool (paysB owed ps)) ∧ Below w.heap.size w w' := by
  cases hv : owedB owed
  · have HV : Hid (paysB owed ps = false) := by simp [Hid, paysB, hv]
    go_enter Try.func24, Try.ntmps24
    go_wp2_with (go_at_call 15; refine (spec_owedValid _ _ _ _ _ h hl).mono ?_; rintro e w' ⟨rfl, rfl⟩)
    go_ret
    exact ⟨ret_bool HV.out.symm, Below.refl _ _⟩
  · have HV : Hid (paysB owed ps = (ps.all (payOk owed.length) && zeroB (paysOpen owed ps))) := by simp [Hid, paysB, hv, zeroB]
    have hw0 : within 9999 owed := by
      simp only [owedB, Bool.and_eq_true] at hv
      intro x hx
      have := inB_true.1 (List.all_eq_true.1 hv.2.1 x hx)
      omega
    have W0 := Lib.hid hw0
    clear hw0
    have h1 : IS (w.alloc (.cells #[] 3)) w.heap.size A owed := h.below (below_al (Below.refl _ _) _)
    go_enter Try.func24, Try.ntmps24
    go_wp2_with (first | (go_at_call 15; refine (spec_owedValid _ _ _ _ _ h hl).mono ?_; rintro e w' ⟨rfl, rfl⟩) | (at_builtin; refine wpList_app _ rfl (.tmp 12) (.tmp 13) 24 rfl int_EI w.heap.size (.slice (some ⟨w.heap.size, 0, none⟩) 0 0) 0 [] rfl (own_empty _ _ 1 _ (Nat.le_refl _)) A owed.length c (ints owed) rfl (by rw [ints_length, Nat.mul_one]) h1 (ints_one owed) (le_max (by omega)) (by omega) (below_al (Below.refl _ _) _).size ?_; intro v2 w2 hO2 hg2 _))
    have b2 := below_app (below_al (Below.refl _ _) _) (own_empty _ _ 1 _ (Nat.le_refl _)) hg2
    rw [Nat.zero_add, List.nil_append] at hO2
    obtain ⟨A2, c2, rfl, -⟩ := own_form hO2
    clear hg2
    go_loopw [6] (fun i wr => ∃ k : Nat, k ≤ ps.length ∧ i = .int .i64 k ∧ (ps.take k).all (payOk owed.length) = true ∧ wr.ownsRow w.heap.size 3 1 (.slice A2 owed.length c2) owed.length (ints (paysOpen owed (ps.take k))) ∧ within (9999 * (k + 1)) (paysOpen owed (ps.take k)) ∧ Below w.heap.size w wr) (fun i _ => ps.length - (intOf i).toNat)
    case atStart => exact ⟨0, Nat.zero_le _, rfl, by simp, hO2, by simpa [paysOpen] using W0.out, b2⟩
    case round =>
      obtain ⟨k, hk, rfl, ha, hO, hM, hW⟩ := hrel
      have HA := Lib.hid ha
      have HM := Lib.hid hM
      clear ha hM
      by_cases hlt : k < ps.length
      · obtain ⟨b, off, rfl, hbl, hc⟩ := (h'.below hW).at_ (by omega)
        have hck := hc k hlt
        generalize hp : ps[k] = p at hck
        obtain ⟨pf, pt, su⟩ := p
        obtain ⟨hck1, hck2, hck3⟩ := hck
        simp only at hck1 hck2 hck3
        have HP := Lib.hid hp.symm
        clear hp hc
        by_cases hok : payOk owed.length (pf, pt, su) = true
        · obtain ⟨g1, g2, g3, g4⟩ := payOk_split.1 hok
          have HOK := Lib.hid hok
          clear hok
          simp only at g1 g2 g3 g4
          have q1 := inB_true.1 g1
          have q2 := inB_true.1 g2
          have q4 := inB_true.1 g4
          obtain ⟨f, rfl⟩ : ∃ f : Nat, pf = f := ⟨pf.toNat, by omega⟩
          obtain ⟨t, rfl⟩ : ∃ t : Nat, pt = t := ⟨pt.toNat, by omega⟩
          have hne : f ≠ t := by intro e; subst e; simp at g3
          obtain ⟨g, rfl, hgb⟩ := own_head hO (by omega)
          have hll : (paysOpen owed (ps.take k)).length = owed.length := paysOpen_length _ _
          obtain ⟨⟨f1, f2, f3, f4, f5, f6⟩, ⟨f7, f8⟩, hO3, hM3⟩ := pay_facts hO f t su _ 45 (by omega) (by omega) hne HM.out (by omega) q4
          have e1 := paysOpen_succ owed ps k hlt
          rw [← HP.out] at e1
          rw [← e1] at hO3 hM3
          have HO3 := Lib.hid hO3
          have HM3 := Lib.hid hM3
          clear hO3 hM3 e1 hO
          go_wp2_with (go_at_call 42; refine (l1In_any _ _ _ _).mono ?_; rintro e w' ⟨rfl, rfl⟩)
          go_region
          all_goals
            go_wp2
            go_region
          all_goals
            go_wp2
            go_roundw
            case rel => exact ⟨k + 1, by omega, by go_num, by rw [all_take_succ _ ps k hlt, HA.out, ← HP.out]; exact HOK.out, own_alike HO3.out rfl, by rw [show (9999 : Int) * (((k + 1 : Nat) : Int) + 1) = 9999 * ((k : Int) + 1) + 9999 by omega]; exact HM3.out, below_drewN (below_sc (below_sc (below_al hW _) hgb _) hgb _) 2⟩
            case measure => simp [intOf]; omega
        · have hbad : payOk owed.length ps[k] = false := by rw [← HP.out]; simpa using hok
          have HB := Lib.hid (paysB_no (owed := owed) k hlt hbad)
          clear hbad
          cases g1 : inB pf 0 (owed.length - 1)
          · clear hok
            go_wp2_with (go_at_call 42; refine (l1In_any _ _ _ _).mono ?_; rintro e w' ⟨rfl, rfl⟩)
            go_ret
            exact ⟨ret_bool HB.out.symm, below_al hW _⟩
          · cases g2 : inB pt 0 (owed.length - 1)
            · clear hok
              go_wp2_with (go_at_call 42; refine (l1In_any _ _ _ _).mono ?_; rintro e w' ⟨rfl, rfl⟩)
              go_ret
              exact ⟨ret_bool HB.out.symm, below_al hW _⟩
            · cases g3 : (pf == pt)
              · have g4 : inB su 1 9999 = false := by simpa [payOk, g1, g2, g3] using hok
                clear hok
                go_wp2_with (go_at_call 42; refine (l1In_any _ _ _ _).mono ?_; rintro e w' ⟨rfl, rfl⟩)
                go_ret
                exact ⟨ret_bool HB.out.symm, below_al hW _⟩
              · clear hok
                go_wp2_with (go_at_call 42; refine (l1In_any _ _ _ _).mono ?_; rintro e w' ⟨rfl, rfl⟩)
                go_ret
                exact ⟨ret_bool HB.out.symm, below_al hW _⟩
      · obtain rfl : k = ps.length := by omega
        rw [List.take_length] at HA hO
        have hr := (OwnR.mk hO).reads
        have hll : (paysOpen owed ps).length = owed.length := paysOpen_length _ _
        have HLL := Lib.hid hll
        generalize paysOpen owed ps = l at *
        have HO := Lib.hid hO
        clear hO hll
        go_wp2
        go_loopw [8] (fun i wr => ∃ k : Nat, k ≤ owed.length ∧ i = .int .i64 k ∧ (l.take k).all (fun x => x == 0) = true ∧ RV wr wr.heap.size A2 (ints l) ∧ Below w.heap.size w wr) (fun i _ => owed.length - (intOf i).toNat)
        case atStart => exact ⟨0, Nat.zero_le _, rfl, by simp, hr, hW⟩
        case round =>
          obtain ⟨k, hk, rfl, ha2, hr, hW2⟩ := hrel
          have HA2 := Lib.hid ha2
          clear ha2
          by_cases hlt : k < owed.length
          · have hlt2 : k < l.length := by have := HLL.out; omega
            obtain ⟨b, off, rfl, hbl, hc⟩ := IS.at_ hr (by omega)
            have hck := hc k hlt2
            cases g1 : (l[k] == 0)
            · have g2 : (l[k] != 0) = true := by simp [bne, g1]
              go_wp2
              go_ret
              exact ⟨ret_bool (by rw [HV.out, zeroB, all_false _ l k hlt2 g1]; simp), hW2⟩
            · have g2 : (l[k] != 0) = false := by simp [bne, g1]
              have G1 := Lib.hid g1
              have HR := Lib.hid hr
              clear g1 hr hc
              go_wp2
              go_roundw
              case rel => exact ⟨k + 1, by omega, by go_num, by rw [all_take_succ _ l k hlt2, HA2.out, G1.out]; rfl, HR.out, hW2⟩
              case measure => simp [intOf]; omega
          · go_wp2
            go_ret
            exact ⟨ret_bool (by rw [HV.out, HA.out, zeroB, ← all_take_end _ l k (by have := HLL.out; omega), HA2.out]; rfl), hW2⟩
end Go.Proofs.Ytnopgmgoehenpaa
