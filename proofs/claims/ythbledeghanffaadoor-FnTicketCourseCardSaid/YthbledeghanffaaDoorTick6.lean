/- TicketDo: the two walks. -/
import Derived.Test.YthbledeghanffaaDoorTick5
set_option linter.unusedVariables false
set_option linter.unusedSimpArgs false
namespace Go.Proofs.YthbledeghanffaaDoor
open Go.ChangeShapes Go.WideShapes Go.ChangeAt Go.RowKit

theorem own_nil_app {w : World} {base n : Nat} {e : TypeId} {size : Nat} {v : Value} {cs : List Value} (h : w.ownsRow base e size v (0 + n) ([] ++ cs)) : w.ownsRow base e size v n cs := by
  rwa [Nat.zero_add, List.nil_append] at h

set_option maxHeartbeats 4000000 in
theorem spec_ticketDo (A : Option Addr) (c : Nat) (os : List Ord) (index event : Int) (w : World) (h : SO w w.heap.size A os) (hl : os.length ≤ 1048576) :
    Calls Tryd.prog 31 #[.slice A os.length c, .int .i64 index, .int .i64 event] w (RetOB w (doF os index event)) := by
  cases ht : ticketB os
  · have HD := Lib.hid (doF_1 index event ht)
    go_enter Tryd.func31, Tryd.ntmps31
    go_wp2_with (go_at_call 22; refine (spec_ticketValid _ _ _ _ h hl).mono ?_; rintro e w1 ⟨rfl, b1⟩)
    go_ret2
    exact RetOB.mk HD.out (own_empty _ _ 2 _ b1.size) (below_al b1 _)
  · have HT := Lib.hid ht
    by_cases hi : index < 0 ∨ (os.length : Int) ≤ index
    · have HD := Lib.hid (doF_2 event ht hi)
      have hin : inB index 0 (os.length - 1) = false := by rw [inB_false]; omega
      clear hi
      go_enter Tryd.func31, Tryd.ntmps31
      go_wp2_with fail
      refine (spec_ticketValid _ _ _ _ h hl).mono ?_
      rintro e w1 ⟨rfl, b1⟩
      have h1 : SO (w1.alloc (.cells #[] 30)) w.heap.size A os := h.below (below_al b1 _)
      go_wp2_with (first | (go_at_call 56; refine (l1In_any _ _ _ _).mono ?_; rintro e w' ⟨rfl, rfl⟩) | (at_builtin; refine wpList_app _ rfl (.tmp 14) (.tmp 15) 25 rfl ord_EI w.heap.size (.slice (some ⟨w1.heap.size, 0, none⟩) 0 0) 0 [] rfl (own_empty _ _ 2 _ b1.size) A os.length c (ords os) rfl (ords_length os) h1 (ords_one os) (le_max (by omega)) (by omega) (below_al b1 _).size ?_; intro v2 w2 hO2 hg2 _))
      go_ret2
      exact RetOB.mk HD.out (own_nil_app hO2) (below_app (below_al b1 _) (own_empty _ _ 2 _ b1.size) hg2)
    · obtain ⟨i, rfl⟩ : ∃ i : Nat, index = i := ⟨index.toNat, by omega⟩
      have hlt : i < os.length := by omega
      have hin : inB i 0 (os.length - 1) = true := by rw [inB_true]; omega
      clear hi
      by_cases hn : nextF os[i].2 event < 0
      · have HD := Lib.hid (doF_3 ht hlt hn)
        go_enter Tryd.func31, Tryd.ntmps31
        go_wp2_with fail
        refine (spec_ticketValid _ _ _ _ h hl).mono ?_
        rintro e w1 ⟨rfl, b1⟩
        have h1 : SO (w1.alloc (.cells #[] 30)) w.heap.size A os := h.below (below_al b1 _)
        go_wp2_with (first | (at_builtin; refine wpList_app _ rfl (.tmp 14) (.tmp 15) 25 rfl ord_EI w.heap.size (.slice (some ⟨w1.heap.size, 0, none⟩) 0 0) 0 [] rfl (own_empty _ _ 2 _ b1.size) A os.length c (ords os) rfl (ords_length os) h1 (ords_one os) (le_max (by omega)) (by omega) (below_al b1 _).size ?_; intro v2 w2 hO2 hg2 _) | fail)
        have b2 := below_app (below_al b1 _) (own_empty _ _ 2 _ b1.size) hg2
        have O2 := Lib.hid (own_nil_app hO2)
        clear hO2 hg2
        obtain ⟨b, off, rfl, hbl, hc⟩ := (h.below b2).at_ (by omega)
        obtain ⟨hck1, hck2⟩ := hc i hlt
        go_wp2_with fail
        refine (l1In_any _ _ _ _).mono ?_
        rintro e w' ⟨rfl, rfl⟩
        go_wp2_with (go_at_call 65; refine (l4Next_any _ _ _).mono ?_; rintro e w' ⟨rfl, rfl⟩)
        go_ret2
        exact RetOB.mk HD.out O2.out b2
      · have hn' : 0 ≤ nextF os[i].2 event := by omega
        obtain ⟨nx, hnx⟩ : ∃ nx, nx = nextF os[i].2 event := ⟨_, rfl⟩
        have hlen : (os.set i (os[i].1, nx)).length = os.length := List.length_set
        have HL := Lib.hid hlen
        clear hlen
        cases ht2 : ticketB (os.set i (os[i].1, nx))
        · have HD := Lib.hid (doF_5 ht hlt hn (by rw [← hnx]; exact ht2))
          rw [← hnx] at hn'
          have HNX := Lib.hid hnx
          have HT2 := Lib.hid ht2
          clear hnx hn ht2
          go_enter Tryd.func31, Tryd.ntmps31
          go_wp2_with fail
          refine (spec_ticketValid _ _ _ _ h hl).mono ?_
          rintro e w1 ⟨rfl, b1⟩
          have h1 : SO (w1.alloc (.cells #[] 30)) w.heap.size A os := h.below (below_al b1 _)
          go_wp2_with (first | (at_builtin; refine wpList_app _ rfl (.tmp 14) (.tmp 15) 25 rfl ord_EI w.heap.size (.slice (some ⟨w1.heap.size, 0, none⟩) 0 0) 0 [] rfl (own_empty _ _ 2 _ b1.size) A os.length c (ords os) rfl (ords_length os) h1 (ords_one os) (le_max (by omega)) (by omega) (below_al b1 _).size ?_; intro v2 w2 hO2 hg2 _) | fail)
          have b2 := below_app (below_al b1 _) (own_empty _ _ 2 _ b1.size) hg2
          have O2 := own_nil_app hO2
          clear hO2 hg2
          obtain ⟨A2, c2, rfl, -⟩ := own_form O2
          obtain ⟨g, rfl, hgb⟩ := OO.block O2 (by omega)
          obtain ⟨b, off, rfl, hbl, hc⟩ := (h.below b2).at_ (by omega)
          obtain ⟨hck1, hck2⟩ := hc i hlt
          go_wp2_with fail
          refine (l1In_any _ _ _ _).mono ?_
          rintro e w' ⟨rfl, rfl⟩
          have hx := own_cell O2 (i * 2 + 1) (by omega)
          obtain ⟨u, hcu⟩ := hx
          have hfu := O2.frozenAt (i * 2 + 1)
          obtain ⟨O3, hg3⟩ := O2.stored (i * 2 + 1) (.int .i64 nx)
          rw [ords_set os i nx hlt] at O3
          have b3 := below_sc b2 (p := ⟨g, i * 2 + 1, none⟩) hgb (.int .i64 nx)
          have OO3 := Lib.hid O3
          have HF : Hid (nextF os[i].2 event = nx) := HNX.out.symm
          clear O3 hg3 O2
          go_wp2_with fail
          refine (l4Next_any _ _ _).mono ?_
          rintro e w' ⟨rfl, rfl⟩
          rw [HF.out]
          go_wp2_with fail
          have hr : RV (w2.setCell ⟨g, i * 2 + 1, none⟩ (.int .i64 nx)) (w2.setCell ⟨g, i * 2 + 1, none⟩ (.int .i64 nx)).heap.size (some ⟨g, 0, none⟩) (ords (os.set i (os[i].1, nx))) := (OwnR.mk OO3.out).reads
          have hv := spec_ticketValid (some ⟨g, 0, none⟩) c2 _ _ hr (by rw [HL.out]; exact hl)
          rw [HL.out, HT2.out] at hv
          refine hv.mono ?_
          clear hv
          rintro e w4 ⟨rfl, b4⟩
          have b5 := below_step b3 b4
          have h5 : SO (w4.alloc (.cells #[] 30)) w.heap.size _ os := h.below (below_al b5 _)
          go_wp2_with (first | (at_builtin; refine wpList_app _ rfl (.tmp 42) (.tmp 43) 25 rfl ord_EI w.heap.size (.slice (some ⟨w4.heap.size, 0, none⟩) 0 0) 0 [] rfl (own_empty _ _ 2 _ b5.size) _ os.length c (ords os) rfl (ords_length os) h5 (ords_one os) (le_max (by omega)) (by omega) (below_al b5 _).size ?_; intro v6 w6 hO6 hg6 _) | fail)
          go_ret2
          exact RetOB.mk HD.out (own_nil_app hO6) (below_app (below_al b5 _) (own_empty _ _ 2 _ b5.size) hg6)
        · have HD := Lib.hid (doF_4 ht hlt hn (by rw [← hnx]; exact ht2))
          rw [← hnx] at hn' HD
          have HNX := Lib.hid hnx
          have HT2 := Lib.hid ht2
          clear hnx hn ht2
          go_enter Tryd.func31, Tryd.ntmps31
          go_wp2_with fail
          refine (spec_ticketValid _ _ _ _ h hl).mono ?_
          rintro e w1 ⟨rfl, b1⟩
          have h1 : SO (w1.alloc (.cells #[] 30)) w.heap.size A os := h.below (below_al b1 _)
          go_wp2_with (first | (at_builtin; refine wpList_app _ rfl (.tmp 14) (.tmp 15) 25 rfl ord_EI w.heap.size (.slice (some ⟨w1.heap.size, 0, none⟩) 0 0) 0 [] rfl (own_empty _ _ 2 _ b1.size) A os.length c (ords os) rfl (ords_length os) h1 (ords_one os) (le_max (by omega)) (by omega) (below_al b1 _).size ?_; intro v2 w2 hO2 hg2 _) | fail)
          have b2 := below_app (below_al b1 _) (own_empty _ _ 2 _ b1.size) hg2
          have O2 := own_nil_app hO2
          clear hO2 hg2
          obtain ⟨A2, c2, rfl, -⟩ := own_form O2
          obtain ⟨g, rfl, hgb⟩ := OO.block O2 (by omega)
          obtain ⟨b, off, rfl, hbl, hc⟩ := (h.below b2).at_ (by omega)
          obtain ⟨hck1, hck2⟩ := hc i hlt
          go_wp2_with fail
          refine (l1In_any _ _ _ _).mono ?_
          rintro e w' ⟨rfl, rfl⟩
          have hx := own_cell O2 (i * 2 + 1) (by omega)
          obtain ⟨u, hcu⟩ := hx
          have hfu := O2.frozenAt (i * 2 + 1)
          obtain ⟨O3, hg3⟩ := O2.stored (i * 2 + 1) (.int .i64 nx)
          rw [ords_set os i nx hlt] at O3
          have b3 := below_sc b2 (p := ⟨g, i * 2 + 1, none⟩) hgb (.int .i64 nx)
          have OO3 := Lib.hid O3
          have HF : Hid (nextF os[i].2 event = nx) := HNX.out.symm
          clear O3 hg3 O2
          go_wp2_with fail
          refine (l4Next_any _ _ _).mono ?_
          rintro e w' ⟨rfl, rfl⟩
          rw [HF.out]
          go_wp2_with fail
          have hr : RV (w2.setCell ⟨g, i * 2 + 1, none⟩ (.int .i64 nx)) (w2.setCell ⟨g, i * 2 + 1, none⟩ (.int .i64 nx)).heap.size (some ⟨g, 0, none⟩) (ords (os.set i (os[i].1, nx))) := (OwnR.mk OO3.out).reads
          have hv := spec_ticketValid (some ⟨g, 0, none⟩) c2 _ _ hr (by rw [HL.out]; exact hl)
          rw [HL.out, HT2.out] at hv
          refine hv.mono ?_
          clear hv
          rintro e w4 ⟨rfl, b4⟩
          have b5 := below_step b3 b4
          have O5 := own_below OO3.out b4
          have O5H := Lib.hid O5
          clear O5
          go_wp2
          go_ret2
          exact RetOB.mk HD.out (by unfold OO; rw [HL.out]; exact O5H.out) b5

set_option maxHeartbeats 4000000 in
theorem impl_ticketDo (A : Option Addr) (c : Nat) (os : List Ord) (index event : Int) (w : World) (h : SO w w.heap.size A os) (hl : os.length ≤ 1048576) :
    Calls Tryd.prog 30 #[.slice A os.length c, .int .i64 index, .int .i64 event] w (RetOB w (doF os index event)) := by
  cases ht : ticketB os
  · have HD := Lib.hid (doF_1 index event ht)
    go_enter Tryd.func30, Tryd.ntmps30
    go_wp2_with (go_at_call 19; refine (impl_ticketValid _ _ _ _ h hl).mono ?_; rintro e w1 ⟨rfl, b1⟩)
    go_ret2
    exact RetOB.mk HD.out (OO.nil _ _) b1
  · have HT := Lib.hid ht
    have hrange : ∀ o ∈ os, 0 ≤ o.2 ∧ o.2 ≤ 4 := by
      simp only [ticketB, Bool.and_eq_true] at ht
      intro o ho
      have := List.all_eq_true.1 (ticket_range ht.1) o ho
      simp only [rangeB, Bool.and_eq_true, inB_true] at this
      exact this.2
    have HR := Lib.hid hrange
    clear hrange
    by_cases hi : index < 0 ∨ (os.length : Int) ≤ index
    · have HD := Lib.hid (doF_2 event ht hi)
      by_cases hi1 : index < 0
      · clear hi
        go_enter Tryd.func30, Tryd.ntmps30
        go_wp2_with fail
        refine (impl_ticketValid _ _ _ _ h hl).mono ?_
        rintro e w1 ⟨rfl, b1⟩
        have h1 := (h.below b1).more b1.size
        go_wp2_with fail
        refine (copyTicket_any _ _ _ _ h1 hl).mono ?_
        rintro e w2 ⟨v2, rfl, o2, b2⟩
        have O2 := Lib.hid (OO.mono o2 b1.size)
        clear o2
        go_wp2
        go_ret2
        exact RetOB.mk HD.out O2.out (below_step b1 b2)
      · have hi2 : (os.length : Int) ≤ index := by omega
        replace hi1 : 0 ≤ index := by omega
        have hd1 : decide (index < 0) = false := by simp; omega
        clear hi
        go_enter Tryd.func30, Tryd.ntmps30
        go_wp2_with fail
        refine (impl_ticketValid _ _ _ _ h hl).mono ?_
        rintro e w1 ⟨rfl, b1⟩
        have h1 := (h.below b1).more b1.size
        go_wp2_with fail
        refine (copyTicket_any _ _ _ _ h1 hl).mono ?_
        rintro e w2 ⟨v2, rfl, o2, b2⟩
        have O2 := Lib.hid (OO.mono o2 b1.size)
        clear o2
        go_wp2
        go_ret2
        exact RetOB.mk HD.out O2.out (below_step b1 b2)
    · obtain ⟨i, rfl⟩ : ∃ i : Nat, index = i := ⟨index.toNat, by omega⟩
      have hlt : i < os.length := by omega
      have hd1 : decide ((i : Int) < 0) = false := by simp
      have hd2 : decide ((os.length : Int) ≤ (i : Int)) = false := by simp; omega
      clear hi
      obtain ⟨hs0, hs4⟩ := HR.out os[i] (List.getElem_mem hlt)
      by_cases hn : nextF os[i].2 event < 0
      · have HD := Lib.hid (doF_3 ht hlt hn)
        go_enter Tryd.func30, Tryd.ntmps30
        go_wp2_with fail
        refine (impl_ticketValid _ _ _ _ h hl).mono ?_
        rintro e w1 ⟨rfl, b1⟩
        have h1 := (h.below b1).more b1.size
        go_wp2_with fail
        refine (copyTicket_any _ _ _ _ h1 hl).mono ?_
        rintro e w2 ⟨v2, rfl, o2, b2⟩
        have O2 := Lib.hid (OO.mono o2 b1.size)
        clear o2
        obtain ⟨b, off, rfl, hbl, hc⟩ := (h1.below b2).at_ (by omega)
        obtain ⟨hck1, hck2⟩ := hc i hlt
        go_wp2_with fail
        refine (stateAfter_any _ _ _ hs0 hs4).mono ?_
        rintro e w' ⟨rfl, rfl⟩
        rw [if_pos hn]
        go_wp2
        go_ret2
        exact RetOB.mk HD.out O2.out (below_step b1 b2)
      · obtain ⟨nx, hnx⟩ : ∃ nx, nx = nextF os[i].2 event := ⟨_, rfl⟩
        have hlen : (os.set i (os[i].1, nx)).length = os.length := List.length_set
        have HL := Lib.hid hlen
        clear hlen
        have HN := Lib.hid hn
        cases ht2 : ticketB (os.set i (os[i].1, nx))
        · have HD := Lib.hid (doF_5 ht hlt hn (by rw [← hnx]; exact ht2))
          have HNX := Lib.hid hnx
          have HT2 := Lib.hid ht2
          clear hnx hn ht2
          go_enter Tryd.func30, Tryd.ntmps30
          go_wp2_with fail
          refine (impl_ticketValid _ _ _ _ h hl).mono ?_
          rintro e w1 ⟨rfl, b1⟩
          have h1 := (h.below b1).more b1.size
          go_wp2_with fail
          refine (copyTicket_any _ _ _ _ h1 hl).mono ?_
          rintro e w2 ⟨v2, rfl, o2, b2⟩
          have O2 := OO.mono o2 b1.size
          clear o2
          unfold OO at O2
          obtain ⟨A2, c2, rfl, -⟩ := own_form O2
          obtain ⟨g, rfl, hgb⟩ := OO.block O2 (by omega)
          obtain ⟨b, off, rfl, hbl, hc⟩ := (h1.below b2).at_ (by omega)
          obtain ⟨hck1, hck2⟩ := hc i hlt
          have hx := own_cell O2 (i * 2 + 1) (by omega)
          obtain ⟨u, hcu⟩ := hx
          have hfu := O2.frozenAt (i * 2 + 1)
          obtain ⟨O3, hg3⟩ := O2.stored (i * 2 + 1) (.int .i64 nx)
          rw [ords_set os i nx hlt] at O3
          have b3 := below_sc (below_step b1 b2) (p := ⟨g, i * 2 + 1, none⟩) hgb (.int .i64 nx)
          have OO3 := Lib.hid O3
          clear O3 hg3 O2
          go_wp2_with fail
          refine (stateAfter_any _ _ _ hs0 hs4).mono ?_
          rintro e w' ⟨rfl, rfl⟩
          rw [if_neg (by have := HN.out; omega), ← HNX.out]
          go_wp2_with fail
          have hr : RV (w2.setCell ⟨g, i * 2 + 1, none⟩ (.int .i64 nx)) (w2.setCell ⟨g, i * 2 + 1, none⟩ (.int .i64 nx)).heap.size (some ⟨g, 0, none⟩) (ords (os.set i (os[i].1, nx))) := (OwnR.mk OO3.out).reads
          have hv := impl_ticketValid (some ⟨g, 0, none⟩) c2 _ _ hr (by rw [HL.out]; exact hl)
          rw [HL.out, HT2.out] at hv
          refine hv.mono ?_
          clear hv
          rintro e w4 ⟨rfl, b4⟩
          have b5 := below_step b3 b4
          have h5 := (h.below b5).more b5.size
          go_wp2_with fail
          refine (copyTicket_any _ _ _ _ h5 hl).mono ?_
          rintro e w6 ⟨v6, rfl, o6, b6⟩
          have O6 := Lib.hid (OO.mono o6 b5.size)
          clear o6
          go_wp2
          go_ret2
          exact RetOB.mk HD.out O6.out (below_step b5 b6)
        · have HD := Lib.hid (doF_4 ht hlt hn (by rw [← hnx]; exact ht2))
          rw [← hnx] at HD
          have HNX := Lib.hid hnx
          have HT2 := Lib.hid ht2
          clear hnx hn ht2
          go_enter Tryd.func30, Tryd.ntmps30
          go_wp2_with fail
          refine (impl_ticketValid _ _ _ _ h hl).mono ?_
          rintro e w1 ⟨rfl, b1⟩
          have h1 := (h.below b1).more b1.size
          go_wp2_with fail
          refine (copyTicket_any _ _ _ _ h1 hl).mono ?_
          rintro e w2 ⟨v2, rfl, o2, b2⟩
          have O2 := OO.mono o2 b1.size
          clear o2
          unfold OO at O2
          obtain ⟨A2, c2, rfl, -⟩ := own_form O2
          obtain ⟨g, rfl, hgb⟩ := OO.block O2 (by omega)
          obtain ⟨b, off, rfl, hbl, hc⟩ := (h1.below b2).at_ (by omega)
          obtain ⟨hck1, hck2⟩ := hc i hlt
          have hx := own_cell O2 (i * 2 + 1) (by omega)
          obtain ⟨u, hcu⟩ := hx
          have hfu := O2.frozenAt (i * 2 + 1)
          obtain ⟨O3, hg3⟩ := O2.stored (i * 2 + 1) (.int .i64 nx)
          rw [ords_set os i nx hlt] at O3
          have b3 := below_sc (below_step b1 b2) (p := ⟨g, i * 2 + 1, none⟩) hgb (.int .i64 nx)
          have OO3 := Lib.hid O3
          clear O3 hg3 O2
          go_wp2_with fail
          refine (stateAfter_any _ _ _ hs0 hs4).mono ?_
          rintro e w' ⟨rfl, rfl⟩
          rw [if_neg (by have := HN.out; omega), ← HNX.out]
          go_wp2_with fail
          have hr : RV (w2.setCell ⟨g, i * 2 + 1, none⟩ (.int .i64 nx)) (w2.setCell ⟨g, i * 2 + 1, none⟩ (.int .i64 nx)).heap.size (some ⟨g, 0, none⟩) (ords (os.set i (os[i].1, nx))) := (OwnR.mk OO3.out).reads
          have hv := impl_ticketValid (some ⟨g, 0, none⟩) c2 _ _ hr (by rw [HL.out]; exact hl)
          rw [HL.out, HT2.out] at hv
          refine hv.mono ?_
          clear hv
          rintro e w4 ⟨rfl, b4⟩
          have b5 := below_step b3 b4
          have O5H := Lib.hid (own_below OO3.out b4)
          go_wp2
          go_ret2
          exact RetOB.mk HD.out (by unfold OO; rw [HL.out]; exact O5H.out) b5
end Go.Proofs.YthbledeghanffaaDoor
