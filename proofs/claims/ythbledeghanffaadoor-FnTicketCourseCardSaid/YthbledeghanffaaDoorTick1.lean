/- TicketValid, TicketCourse, TicketDone: what the program and the reference compute. -/
import Derived.Test.YthbledeghanffaaDoorOrds
import Derived.BigGuardPart
set_option linter.unusedVariables false
set_option linter.unusedSimpArgs false
namespace Go.Proofs.YthbledeghanffaaDoor
open Go.ChangeShapes Go.WideShapes Go.ChangeAt Go.RowKit

def rdP (c : Int) (o : Ord) : Bool := !(decide (o.1 < c) && decide (o.2 < 3))
def readyB (os : List Ord) (c : Int) : Bool := os.all (rdP c)
def rangeB (o : Ord) : Bool := inB o.1 0 2 && inB o.2 0 4
def tOk (os : List Ord) (o : Ord) : Bool := inB o.1 0 2 && (inB o.2 0 4 && (!(inB o.2 1 3) || readyB os o.1))
def ticketB (os : List Ord) : Bool := os.all (tOk os) && decide (os.length ≤ 6)

set_option maxHeartbeats 1000000 in
theorem l4Ready_any (A : Option Addr) (c : Nat) (os : List Ord) (co : Int) (w : World) (B : Nat) (h : SO w B A os) (hl : os.length ≤ 1048576) :
    Calls Tryd.prog 60 #[.slice A os.length c, .int .i64 co] w fun e w' => e = .returned (.bool (readyB os co)) ∧ w = w' := by
  go_enter Tryd.func60, Tryd.ntmps60
  go_wp2
  go_loop [5] (fun i => ∃ k : Nat, k ≤ os.length ∧ i = .int .i64 k ∧ (os.take k).all (rdP co) = true) (fun i => os.length - (intOf i).toNat)
  case atStart => exact ⟨0, Nat.zero_le _, rfl, by simp⟩
  case round =>
    obtain ⟨k, hk, rfl, ha⟩ := hrel
    have HA := Lib.hid ha
    clear ha
    by_cases hlt : k < os.length
    · obtain ⟨b, off, rfl, hbl, hc⟩ := h.at_ (by omega)
      obtain ⟨hck1, hck2⟩ := hc k hlt
      by_cases h1 : os[k].1 < co
      · by_cases h2 : os[k].2 < 3
        · go_wp2
          go_ret
          exact ⟨ret_bool (by rw [readyB, all_false _ os k hlt (by simp [rdP]; omega)]), rfl⟩
        · go_wp2
          go_round
          case rel => exact ⟨k + 1, by omega, by go_num, by rw [all_take_succ _ os k hlt, HA.out]; simp [rdP]; omega⟩
          case measure => simp [intOf]; omega
      · go_wp2
        go_round
        case rel => exact ⟨k + 1, by omega, by go_num, by rw [all_take_succ _ os k hlt, HA.out]; simp [rdP]; omega⟩
        case measure => simp [intOf]; omega
    · go_wp2
      go_ret
      exact ⟨ret_bool (by rw [readyB, ← all_take_end _ os k (by omega), HA.out]), rfl⟩

theorem tOk_false {os : List Ord} {o : Ord} (h : inB o.1 0 2 = false ∨ inB o.2 0 4 = false ∨ (inB o.2 1 3 = true ∧ readyB os o.1 = false)) : tOk os o = false := by
  rcases h with h | h | ⟨h, h'⟩
  · simp [tOk, h]
  · simp [tOk, h]
  · simp [tOk, h, h']
set_option maxHeartbeats 2000000 in
theorem spec_ticketValid (A : Option Addr) (c : Nat) (os : List Ord) (w : World) (h : SO w w.heap.size A os) (hl : os.length ≤ 1048576) :
    Calls Tryd.prog 22 #[.slice A os.length c] w fun e w' => e = .returned (.bool (ticketB os)) ∧ Below w.heap.size w w' := by
  go_enter Tryd.func22, Tryd.ntmps22
  go_wp2
  go_loopw [3] (fun i wr => ∃ k : Nat, k ≤ os.length ∧ i = .int .i64 k ∧ (os.take k).all (tOk os) = true ∧ Below w.heap.size w wr) (fun i _ => os.length - (intOf i).toNat)
  case atStart => exact ⟨0, Nat.zero_le _, rfl, by simp, Below.refl _ _⟩
  case round =>
    obtain ⟨k, hk, rfl, ha, hW⟩ := hrel
    have HA := Lib.hid ha
    clear ha
    by_cases hlt : k < os.length
    · have hs := h.below hW
      obtain ⟨b, off, rfl, hbl, hc⟩ := hs.at_ (by omega)
      obtain ⟨hck1, hck2⟩ := hc k hlt
      have hs2 : ∀ o, SO (wr.alloc o) w.heap.size (some ⟨b, off, none⟩) os := fun o => hs.keep fun p hp => World.cell?_alloc_lt _ _ _ (Nat.lt_of_lt_of_le hp hW.size)
      have HS2 := Lib.hid hs2
      clear hs2
      cases h1 : inB os[k].1 0 2
      · go_wp2_with (go_at_call 56; refine (l1In_any _ _ _ _).mono ?_; rintro e w' ⟨rfl, rfl⟩)
        go_ret
        exact ⟨ret_bool (by rw [ticketB, all_false _ os k hlt (tOk_false (.inl h1))]; rfl), below_al hW _⟩
      · cases h2 : inB os[k].2 0 4
        · go_wp2_with (go_at_call 56; refine (l1In_any _ _ _ _).mono ?_; rintro e w' ⟨rfl, rfl⟩)
          go_ret
          exact ⟨ret_bool (by rw [ticketB, all_false _ os k hlt (tOk_false (.inr (.inl h2)))]; rfl), below_al hW _⟩
        · cases h3 : inB os[k].2 1 3
          · go_wp2_with (go_at_call 56; refine (l1In_any _ _ _ _).mono ?_; rintro e w' ⟨rfl, rfl⟩)
            go_roundw
            case rel => exact ⟨k + 1, by omega, by go_num, by rw [all_take_succ _ os k hlt, HA.out]; simp [tOk, h1, h2, h3], below_al hW _⟩
            case measure => simp [intOf]; omega
          · cases h4 : readyB os os[k].1
            · go_wp2_with (first | (go_at_call 56; refine (l1In_any _ _ _ _).mono ?_; rintro e w' ⟨rfl, rfl⟩) | (go_at_call 60; refine (l4Ready_any _ _ _ _ _ _ (HS2.out _) hl).mono ?_; rintro e w' ⟨rfl, rfl⟩))
              go_ret
              exact ⟨ret_bool (by rw [ticketB, all_false _ os k hlt (tOk_false (.inr (.inr ⟨h3, h4⟩)))]; rfl), below_al hW _⟩
            · go_wp2_with (first | (go_at_call 56; refine (l1In_any _ _ _ _).mono ?_; rintro e w' ⟨rfl, rfl⟩) | (go_at_call 60; refine (l4Ready_any _ _ _ _ _ _ (HS2.out _) hl).mono ?_; rintro e w' ⟨rfl, rfl⟩))
              go_roundw
              case rel => exact ⟨k + 1, by omega, by go_num, by rw [all_take_succ _ os k hlt, HA.out]; simp [tOk, h1, h2, h3, h4], below_al hW _⟩
              case measure => simp [intOf]; omega
    · obtain rfl : k = os.length := by omega
      rw [List.take_length] at HA
      go_wp2
      go_ret
      exact ⟨ret_bool (by rw [ticketB, HA.out, Bool.true_and, decide_eq_decide]; omega), hW⟩

def finB (o : Ord) : Bool := o.2 == 3 || o.2 == 4
set_option maxHeartbeats 1000000 in
theorem finished_any (c s : Int) (w : World) :
    Calls Tryd.prog 61 #[.agg #[.int .i64 c, .int .i64 s]] w fun e w' => e = .returned (.bool (finB (c, s))) ∧ w.alloc (.cells #[.int .i64 c, .int .i64 s] 30) = w' := by
  by_cases h3 : s = 3
  · subst h3
    go_enter Tryd.func61, Tryd.ntmps61
    go_wp2
    go_ret
    exact ⟨rfl, rfl⟩
  · by_cases h4 : s = 4
    · subst h4
      go_enter Tryd.func61, Tryd.ntmps61
      go_wp2
      go_ret
      exact ⟨rfl, rfl⟩
    · go_enter Tryd.func61, Tryd.ntmps61
      go_wp2
      go_ret
      exact ⟨ret_bool (by simp [finB, h3, h4]), rfl⟩

theorem fin_range {o : Ord} (h : rangeB o = true) : finB o = !decide (o.2 < 3) := by
  simp only [rangeB, Bool.and_eq_true, inB_true] at h
  by_cases h3 : o.2 < 3
  · have a : (o.2 == 3) = false := by simp; omega
    have b : (o.2 == 4) = false := by simp; omega
    simp [finB, a, b, h3]
  · have : o.2 = 3 ∨ o.2 = 4 := by omega
    rcases this with e | e <;> simp [finB, e]

set_option maxHeartbeats 1000000 in
theorem reached_any (A : Option Addr) (c : Nat) (os : List Ord) (co : Int) (w : World) (h : SO w w.heap.size A os) (hl : os.length ≤ 1048576) (hr : os.all rangeB = true) :
    Calls Tryd.prog 58 #[.slice A os.length c, .int .i64 co] w fun e w' => e = .returned (.bool (readyB os co)) ∧ Below w.heap.size w w' := by
  have HR := Lib.hid hr
  clear hr
  go_enter Tryd.func58, Tryd.ntmps58
  go_wp2
  go_loopw [9] (fun i wr => ∃ k : Nat, k ≤ os.length ∧ i = .int .i64 k ∧ (os.take k).all (rdP co) = true ∧ Below w.heap.size w wr) (fun i _ => os.length - (intOf i).toNat)
  case atStart => exact ⟨0, Nat.zero_le _, rfl, by simp, Below.refl _ _⟩
  case round =>
    obtain ⟨k, hk, rfl, ha, hW⟩ := hrel
    have HA := Lib.hid ha
    clear ha
    by_cases hlt : k < os.length
    · obtain ⟨b, off, rfl, hbl, hc⟩ := (h.below hW).at_ (by omega)
      obtain ⟨hck1, hck2⟩ := hc k hlt
      have hf := fin_range (List.all_eq_true.1 HR.out os[k] (List.getElem_mem hlt))
      by_cases h1 : os[k].1 < co
      · by_cases h2 : os[k].2 < 3
        · have hf2 : finB (os[k].1, os[k].2) = false := by rw [show (os[k].1, os[k].2) = os[k] from rfl, hf]; simp [h2]
          clear hf
          go_wp2_with (go_at_call 61; refine (finished_any _ _ _).mono ?_; rintro e w' ⟨rfl, rfl⟩)
          go_ret
          exact ⟨ret_bool (by rw [readyB, all_false _ os k hlt (by simp [rdP]; omega)]), below_al (below_al hW _) _⟩
        · have hf2 : finB (os[k].1, os[k].2) = true := by rw [show (os[k].1, os[k].2) = os[k] from rfl, hf]; simp [h2]
          clear hf
          go_wp2_with (go_at_call 61; refine (finished_any _ _ _).mono ?_; rintro e w' ⟨rfl, rfl⟩)
          go_roundw
          case rel => exact ⟨k + 1, by omega, by go_num, by rw [all_take_succ _ os k hlt, HA.out]; simp [rdP]; omega, below_al (below_al hW _) _⟩
          case measure => simp [intOf]; omega
      · clear hf
        go_wp2
        go_roundw
        case rel => exact ⟨k + 1, by omega, by go_num, by rw [all_take_succ _ os k hlt, HA.out]; simp [rdP]; omega, below_al hW _⟩
        case measure => simp [intOf]; omega
    · go_wp2
      go_ret
      exact ⟨ret_bool (by rw [readyB, ← all_take_end _ os k (by omega), HA.out]), hW⟩

theorem ticket_of {os : List Ord} (h1 : os.all rangeB = true) : os.all (tOk os) = os.all fun o => !(inB o.2 1 3) || readyB os o.1 := by
  rw [Bool.eq_iff_iff, List.all_eq_true, List.all_eq_true]
  have hr := List.all_eq_true.1 h1
  constructor
  · intro h o ho
    have := h o ho
    simp only [tOk, Bool.and_eq_true] at this
    exact this.2.2
  · intro h o ho
    have h2 := hr o ho
    simp only [rangeB, Bool.and_eq_true] at h2
    simp only [tOk, h2.1, h2.2, Bool.true_and]
    exact h o ho
theorem ticket_range {os : List Ord} (h : os.all (tOk os) = true) : os.all rangeB = true := by
  rw [List.all_eq_true] at h ⊢
  intro o ho
  have := h o ho
  simp only [tOk, Bool.and_eq_true] at this
  simp [rangeB, this.1, this.2.1]
theorem ticket_bad {os : List Ord} (k : Nat) (hk : k < os.length) (h : rangeB os[k] = false) : ticketB os = false := by
  rw [ticketB, all_false _ os k hk ?_]
  · rfl
  · cases h1 : inB os[k].1 0 2
    · exact tOk_false (.inl h1)
    · exact tOk_false (.inr (.inl (by simpa [rangeB, h1] using h)))

set_option maxHeartbeats 4000000 in
theorem impl_ticketValid (A : Option Addr) (c : Nat) (os : List Ord) (w : World) (h : SO w w.heap.size A os) (hl : os.length ≤ 1048576) :
    Calls Tryd.prog 19 #[.slice A os.length c] w fun e w' => e = .returned (.bool (ticketB os)) ∧ Below w.heap.size w w' := by
  by_cases h6 : os.length ≤ 6
  · go_enter Tryd.func19, Tryd.ntmps19
    go_wp2
    go_loopw [12] (fun i wr => ∃ k : Nat, k ≤ os.length ∧ i = .int .i64 k ∧ (os.take k).all rangeB = true ∧ Below w.heap.size w wr) (fun i _ => os.length - (intOf i).toNat)
    case atStart => exact ⟨0, Nat.zero_le _, rfl, by simp, Below.refl _ _⟩
    case round =>
      obtain ⟨k, hk, rfl, ha, hW⟩ := hrel
      have HA := Lib.hid ha
      clear ha
      by_cases hlt : k < os.length
      · obtain ⟨b, off, rfl, hbl, hc⟩ := (h.below hW).at_ (by omega)
        obtain ⟨hck1, hck2⟩ := hc k hlt
        by_cases hin : 0 ≤ os[k].1 ∧ os[k].1 ≤ 2 ∧ 0 ≤ os[k].2 ∧ os[k].2 ≤ 4
        · obtain ⟨g1, g2, g3, g4⟩ := hin
          go_wp2
          go_roundw
          case rel => exact ⟨k + 1, by omega, by go_num, by rw [all_take_succ _ os k hlt, HA.out]; simp [rangeB, inB]; omega, below_al hW _⟩
          case measure => simp [intOf]; omega
        · have hbad : rangeB os[k] = false := by simp [rangeB, inB]; omega
          have HB := Lib.hid (ticket_bad k hlt hbad)
          clear hbad
          by_cases g1 : 0 ≤ os[k].1
          · by_cases g2 : os[k].1 ≤ 2
            · by_cases g3 : 0 ≤ os[k].2
              · have g4 : 4 < os[k].2 := by omega
                clear hin
                go_wp2
                all_goals (go_ret; exact ⟨ret_bool HB.out.symm, below_al hW _⟩)
              · replace g3 : os[k].2 < 0 := by omega
                clear hin
                go_wp2
                all_goals (go_ret; exact ⟨ret_bool HB.out.symm, below_al hW _⟩)
            · replace g2 : 2 < os[k].1 := by omega
              clear hin
              go_wp2
              all_goals (go_ret; exact ⟨ret_bool HB.out.symm, below_al hW _⟩)
          · replace g1 : os[k].1 < 0 := by omega
            clear hin
            go_wp2
            all_goals (go_ret; exact ⟨ret_bool HB.out.symm, below_al hW _⟩)
      · obtain rfl : k = os.length := by omega
        rw [List.take_length] at HA
        go_wp2
        go_loopw [37] (fun i wr => ∃ k : Nat, k ≤ os.length ∧ i = .int .i64 k ∧ (os.take k).all (fun o => !(inB o.2 1 3) || readyB os o.1) = true ∧ Below w.heap.size w wr) (fun i _ => os.length - (intOf i).toNat)
        case atStart => exact ⟨0, Nat.zero_le _, rfl, by simp, hW⟩
        case round =>
          obtain ⟨k, hk, rfl, ha2, hW2⟩ := hrel
          have HA2 := Lib.hid ha2
          clear ha2
          by_cases hlt : k < os.length
          · have hs := h.below hW2
            obtain ⟨b, off, rfl, hbl, hc⟩ := hs.at_ (by omega)
            obtain ⟨hck1, hck2⟩ := hc k hlt
            have hs2 : ∀ W o, Below w.heap.size w W → SO (W.alloc o) (W.alloc o).heap.size (some ⟨b, off, none⟩) os := fun W o hB => (h.below (below_al hB o)).more (by have := (below_al hB o).size; omega)
            have HS2 := Lib.hid hs2
            clear hs2
            have hr := List.all_eq_true.1 HA.out os[k] (List.getElem_mem hlt)
            simp only [rangeB, Bool.and_eq_true, inB_true] at hr
            obtain ⟨⟨g1, g2⟩, g3, g4⟩ := hr
            by_cases e0 : os[k].2 = 0
            · have e0' : (os[k].2 != 0) = false := by simp [e0]
              have HE := Lib.hid e0
              clear e0
              go_wp2
              go_roundw
              case rel => exact ⟨k + 1, by omega, by go_num, by rw [all_take_succ _ os k hlt, HA2.out]; simp [inB, HE.out], below_al hW2 _⟩
              case measure => simp [intOf]; omega
            · by_cases e4 : os[k].2 = 4
              · have e0' : (os[k].2 != 0) = true := by simp [e0]
                have e4' : (os[k].2 != 4) = false := by simp [e4]
                have HE := Lib.hid e4
                clear e4 e0
                go_wp2
                go_roundw
                case rel => exact ⟨k + 1, by omega, by go_num, by rw [all_take_succ _ os k hlt, HA2.out]; simp [inB, HE.out], below_al hW2 _⟩
                case measure => simp [intOf]; omega
              · have e0' : (os[k].2 != 0) = true := by simp [e0]
                have e4' : (os[k].2 != 4) = true := by simp [e4]
                have h3 : inB os[k].2 1 3 = true := inB_true.2 (by omega)
                have H3 := Lib.hid h3
                clear e4 e0 h3
                cases h4 : readyB os os[k].1
                · go_wp2_with (go_at_call 58; refine (reached_any _ _ _ _ _ (HS2.out _ _ hW2) hl HA.out).mono ?_; rintro e w1 ⟨rfl, b1⟩)
                  go_ret
                  exact ⟨ret_bool (by rw [ticketB, all_false _ os k hlt (tOk_false (.inr (.inr ⟨H3.out, h4⟩)))]; rfl), below_step (below_al hW2 _) b1⟩
                · go_wp2_with (go_at_call 58; refine (reached_any _ _ _ _ _ (HS2.out _ _ hW2) hl HA.out).mono ?_; rintro e w1 ⟨rfl, b1⟩)
                  go_roundw
                  case rel => exact ⟨k + 1, by omega, by go_num, by rw [all_take_succ _ os k hlt, HA2.out]; simp [h4], below_step (below_al hW2 _) b1⟩
                  case measure => simp [intOf]; omega
          · obtain rfl : k = os.length := by omega
            rw [List.take_length] at HA2
            go_wp2
            go_ret
            exact ⟨ret_bool (by rw [ticketB, ticket_of HA.out, HA2.out, decide_eq_true h6]; rfl), hW2⟩
  · go_enter Tryd.func19, Tryd.ntmps19
    go_wp2
    go_ret
    exact ⟨ret_bool (by rw [ticketB, decide_eq_false h6, Bool.and_false]), Below.refl _ _⟩
end Go.Proofs.YthbledeghanffaaDoor
