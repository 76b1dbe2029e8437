/- WorkStep, WorkRun: the plain functions; kitchens that the call made, turned in one place. -/
import Derived.Test.YthbledeghanffaaDoorKit4
set_option linter.unusedVariables false
set_option linter.unusedSimpArgs false
namespace Go.Proofs.YthbledeghanffaaDoor
open Go.ChangeShapes Go.WideShapes Go.ChangeAt Go.RowKit

/-! ### the first dish in a state -/
def fj (s : Int) : Nat → List Ord → Option Nat
  | _, [] => none
  | j, o :: t => if o.2 = s then some j else fj s (j + 1) t
def fk (s : Int) : Nat → List (List Ord) → Option (Nat × Nat)
  | _, [] => none
  | i, os :: t => match fj s 0 os with
    | some j => some (i, j)
    | none => fk s (i + 1) t
theorem fj_skip (s : Int) (os : List Ord) (j : Nat) (h : j < os.length) (hn : os[j].2 ≠ s) : fj s j (os.drop j) = fj s (j + 1) (os.drop (j + 1)) := by
  rw [List.drop_eq_getElem_cons h, fj, if_neg hn]
theorem fj_hit (s : Int) (os : List Ord) (j : Nat) (h : j < os.length) (hn : os[j].2 = s) : fj s j (os.drop j) = some j := by
  rw [List.drop_eq_getElem_cons h, fj, if_pos hn]
theorem fj_end (s : Int) (os : List Ord) : fj s os.length (os.drop os.length) = none := by simp [fj]
theorem fk_skip (s : Int) (ks : List (List Ord)) (k : Nat) (h : k < ks.length) (hn : fj s 0 ks[k] = none) : fk s k (ks.drop k) = fk s (k + 1) (ks.drop (k + 1)) := by
  rw [List.drop_eq_getElem_cons h, fk, hn]
theorem fk_hit (s : Int) (ks : List (List Ord)) (k j : Nat) (h : k < ks.length) (hn : fj s 0 ks[k] = some j) : fk s k (ks.drop k) = some (k, j) := by
  rw [List.drop_eq_getElem_cons h, fk, hn]
theorem fk_end (s : Int) (ks : List (List Ord)) : fk s ks.length (ks.drop ks.length) = none := by simp [fk]
theorem fj_some (s : Int) : ∀ (os : List Ord) (i j : Nat), fj s i os = some j → ∃ (h1 : i ≤ j) (h2 : j - i < os.length), os[j - i].2 = s
  | [], i, j, h => by simp [fj] at h
  | o :: t, i, j, h => by
    rw [fj] at h
    split at h
    · rename_i ho
      injection h with h
      subst h
      exact ⟨Nat.le_refl _, by simp, by simpa using ho⟩
    · obtain ⟨h1, h2, h3⟩ := fj_some s t (i + 1) j h
      have e : j - i = j - (i + 1) + 1 := by omega
      refine ⟨by omega, by simp; omega, ?_⟩
      simp only [e, List.getElem_cons_succ]
      exact h3
theorem fk_some (s : Int) : ∀ (ks : List (List Ord)) (i k j : Nat), fk s i ks = some (k, j) → ∃ (h1 : i ≤ k) (h2 : k - i < ks.length) (h3 : j < ks[k - i].length), ks[k - i][j].2 = s
  | [], i, k, j, h => by simp [fk] at h
  | os :: t, i, k, j, h => by
    rw [fk] at h
    split at h
    · rename_i j' ho
      simp only [Option.some.injEq, Prod.mk.injEq] at h
      obtain ⟨rfl, rfl⟩ := h
      obtain ⟨h1, h2, h3⟩ := fj_some s os 0 _ ho
      exact ⟨Nat.le_refl _, by simp, by simpa using h2, by simpa using h3⟩
    · obtain ⟨h1, h2, h3, h4⟩ := fk_some s t (i + 1) k j h
      have e : k - i = k - (i + 1) + 1 := by omega
      refine ⟨by omega, by simp; omega, ?_, ?_⟩
      · simp only [e, List.getElem_cons_succ]; exact h3
      · simp only [e, List.getElem_cons_succ]; exact h4
def fiP (s : Int) (ks : List (List Ord)) : Int × Int := match fk s 0 ks with
  | some (k, j) => ((k : Int), (j : Int))
  | none => (-1, -1)
theorem fiP_some {s : Int} {ks : List (List Ord)} {k j : Nat} (h : fk s 0 ks = some (k, j)) : fiP s ks = ((k : Int), (j : Int)) := by simp [fiP, h]
theorem fiP_none {s : Int} {ks : List (List Ord)} (h : fk s 0 ks = none) : fiP s ks = (-1, -1) := by simp [fiP, h]
set_option maxHeartbeats 4000000 in
theorem firstIn_any (A : Option Addr) (c : Nat) (ks : List (List Ord)) (s : Int) (w : World) (h : SK w w.heap.size A ks) (hl : ks.length + total ks ≤ 1048576) :
    Calls Tryd.prog 67 #[.slice A ks.length c, .int .i64 s] w fun e w' => e = .returned (.tuple #[.int .i64 (fiP s ks).1, .int .i64 (fiP s ks).2]) ∧ Below w.heap.size w w' := by
  go_enter Tryd.func67, Tryd.ntmps67
  go_wp2
  go_loopw [12] (fun i wr => ∃ k : Nat, k ≤ ks.length ∧ i = .int .i64 k ∧ Hid (fk s 0 ks = fk s k (ks.drop k)) ∧ Below w.heap.size w wr) (fun i _ => ks.length - (intOf i).toNat)
  case atStart => exact ⟨0, Nat.zero_le _, rfl, rfl, Below.refl _ _⟩
  case round =>
    obtain ⟨k, hk, rfl, HA, hW⟩ := hrel
    by_cases hlt : k < ks.length
    · obtain ⟨b, off, rfl, hbl, hc⟩ := (h.below hW) (by omega)
      obtain ⟨Aj, cj, hcell, hso, -⟩ := hc k hlt
      have hlj := len_le_total ks k hlt
      have HSK := Lib.hid (fk_skip s ks k hlt)
      have HHT := Lib.hid (fun j => fk_hit s ks k j hlt)
      clear hc
      generalize ks[k] = os at *
      obtain ⟨wo, rfl⟩ : ∃ wo : World, wo = wr := ⟨_, rfl⟩
      go_wp2
      go_loopw [19] (fun i wx => ∃ j : Nat, j ≤ os.length ∧ i = .int .i64 j ∧ Hid (fj s 0 os = fj s j (os.drop j)) ∧ Below w.heap.size w wx ∧ Hid (Below w.heap.size wo wx)) (fun i _ => os.length - (intOf i).toNat)
      case atStart => exact ⟨0, Nat.zero_le _, rfl, rfl, hW, Lib.hid (Below.refl _ _)⟩
      case round =>
        obtain ⟨j, hj, rfl, HJ, hW2, HWO⟩ := hrel
        by_cases hlt2 : j < os.length
        · obtain ⟨b', off', rfl, hbl', hc'⟩ := (hso.below HWO.out).at_ (by omega)
          obtain ⟨hck1, hck2⟩ := hc' j hlt2
          have hsz := hW2.size
          have hbw : b' < wr.heap.size := by omega
          clear hc'
          by_cases he : os[j].2 = s
          · have hb : (os[j].2 == s) = true := by simpa using he
            have HR := Lib.hid (fiP_some (HA.out.trans (HHT.out j (HJ.out.trans (fj_hit s os j hlt2 he)))))
            clear he
            go_wp2
            go_ret2
            exact ⟨ret_two HR.out, below_al hW2 _⟩
          · have hb : (os[j].2 == s) = false := by simpa using he
            have HR := Lib.hid (HJ.out.trans (fj_skip s os j hlt2 he))
            clear he
            go_wp2
            go_roundw
            case rel => exact ⟨j + 1, by omega, by go_num, HR, below_al hW2 _, Lib.hid (HWO.out.alloc hsz _)⟩
            case measure => simp [intOf]; omega
        · obtain rfl : j = os.length := by omega
          have HR := Lib.hid (HA.out.trans (HSK.out (HJ.out.trans (fj_end s os))))
          go_wp2
          go_roundw
          case rel => exact ⟨k + 1, by omega, by go_num, HR, hW2⟩
          case measure => simp [intOf]; omega
    · obtain rfl : k = ks.length := by omega
      have HR := Lib.hid (fiP_none (HA.out.trans (fk_end s ks)))
      go_wp2
      go_ret2
      exact ⟨ret_two HR.out, hW⟩

/-! ### one dish is put into a state -/
def putK (ks : List (List Ord)) (k j : Nat) (s : Int) : List (List Ord) := ks.set k (setSt (ks.getD k []) j s)
theorem putK_length (ks : List (List Ord)) (k j : Nat) (s : Int) : (putK ks k j s).length = ks.length := by simp [putK]
theorem rows_set (ks : List (List Ord)) (k : Nat) (os : List Ord) : rowsOf (ks.set k os) = (rowsOf ks).set k (os.length, ords os) := by simp [rowsOf, List.map_set]
theorem setSt_eq (os : List Ord) (j : Nat) (s : Int) (h : j < os.length) : setSt os j s = os.set j (os[j].1, s) := by simp [setSt, h]
theorem putK_eq (ks : List (List Ord)) (k j : Nat) (s : Int) (h : k < ks.length) : putK ks k j s = ks.set k (setSt ks[k] j s) := by simp [putK, h]
/-- The state of a dish that was fired or cooked goes up: the ticket stays valid. -/
theorem ticket_up {os : List Ord} (h : ticketB os = true) (j : Nat) (hj : j < os.length) (s : Int) (h1 : 1 ≤ os[j].2) (h2 : os[j].2 ≤ 3) (h3 : 1 ≤ s) (h4 : s ≤ 3) (h5 : os[j].2 ≤ s) : ticketB (os.set j (os[j].1, s)) = true := by
  simp only [ticketB, Bool.and_eq_true, decide_eq_true_eq, List.all_eq_true] at h ⊢
  obtain ⟨ha, hl⟩ := h
  have hready : ∀ co, readyB os co = true → readyB (os.set j (os[j].1, s)) co = true := by
    intro co hr
    simp only [readyB, List.all_eq_true] at hr ⊢
    intro o ho
    rcases List.mem_or_eq_of_mem_set ho with h | h
    · exact hr o h
    · subst h
      have := hr os[j] (List.getElem_mem hj)
      simp only [rdP, Bool.not_eq_true', Bool.and_eq_false_iff, decide_eq_false_iff_not] at this ⊢
      omega
  refine ⟨fun o ho => ?_, by rw [List.length_set]; exact hl⟩
  rcases List.mem_or_eq_of_mem_set ho with h | h
  · have := ha o h
    simp only [tOk, Bool.and_eq_true, Bool.or_eq_true] at this ⊢
    refine ⟨this.1, this.2.1, ?_⟩
    rcases this.2.2 with h | h
    · exact .inl h
    · exact .inr (hready _ h)
  · subst h
    have := ha os[j] (List.getElem_mem hj)
    simp only [tOk, Bool.and_eq_true, Bool.or_eq_true, inB_true, Bool.not_eq_true', inB_false] at this ⊢
    refine ⟨this.1, by omega, .inr (hready _ ?_)⟩
    rcases this.2.2 with h | h
    · omega
    · exact h
theorem next_two {s : Int} (h : s ≠ 2) : nextF s 2 = -1 := by simp [nextF, h]
theorem next_one {s : Int} (h : s ≠ 1) : nextF s 1 = -1 := by simp [nextF, h]
theorem do_serve {os : List Ord} {j : Nat} (ht : ticketB os = true) (hj : j < os.length) (h : os[j].2 = 2) : doF os j 2 = (setSt os j 3, true) := by
  have hn : nextF os[j].2 2 = 3 := by rw [h]; rfl
  rw [doF_4 ht hj (by rw [hn]; omega) (by rw [hn]; exact ticket_up ht j hj 3 (by omega) (by omega) (by omega) (by omega) (by omega)), hn, setSt_eq _ _ _ hj]
theorem do_cook {os : List Ord} {j : Nat} (ht : ticketB os = true) (hj : j < os.length) (h : os[j].2 = 1) : doF os j 1 = (setSt os j 2, true) := by
  have hn : nextF os[j].2 1 = 2 := by rw [h]; rfl
  rw [doF_4 ht hj (by rw [hn]; omega) (by rw [hn]; exact ticket_up ht j hj 2 (by omega) (by omega) (by omega) (by omega) (by omega)), hn, setSt_eq _ _ _ hj]
theorem do_not {os : List Ord} {j : Nat} {ev : Int} (ht : ticketB os = true) (hj : j < os.length) (h : nextF os[j].2 ev < 0) : doF os j ev = (os, false) := doF_3 ht hj h
/-- What may be fired is fired. -/
theorem do_fire {os : List Ord} {j : Nat} (ht : ticketB os = true) (hj : j < os.length) (h : (doF os j 0).2 = true) : doF os j 0 = (setSt os j 1, true) := by
  by_cases hn : nextF os[j].2 0 < 0
  · rw [doF_3 ht hj hn] at h; cases h
  · have e : nextF os[j].2 0 = 1 := by
      unfold nextF at hn ⊢
      by_cases h0 : os[j].2 = 0
      · simp [h0]
      · simp [h0] at hn
    cases ht2 : ticketB (os.set j (os[j].1, nextF os[j].2 0))
    · rw [doF_5 ht hj hn ht2] at h; cases h
    · rw [doF_4 ht hj hn ht2, e, setSt_eq _ _ _ hj]
theorem mayF_mem {os : List Ord} {x : Int} (h : x ∈ mayF os) : ∃ j : Nat, x = j ∧ j < os.length ∧ (doF os j 0).2 = true := by
  simp only [mayF, mayK, List.mem_map, List.mem_filter, List.mem_range] at h
  obtain ⟨j, ⟨h1, h2⟩, h3⟩ := h
  exact ⟨j, h3.symm, h1, h2⟩
theorem fireL_some : ∀ (ks : List (List Ord)) (i : Nat), (fireL i ks).1 < 0 ∨ ∃ (k j : Nat) (h1 : k < ks.length), fireL i ks = (((i + k : Nat) : Int), (j : Int)) ∧ ∃ h2 : j < ks[k].length, (doF ks[k] j 0).2 = true
  | [], i => .inl (by simp [fireL])
  | os :: t, i => by
    cases hm : mayF os with
    | nil =>
      have e : fireL i (os :: t) = fireL (i + 1) t := by rw [fireL, hm]
      rcases fireL_some t (i + 1) with h | ⟨k, j, h1, h2, h3, h4⟩
      · exact .inl (by rw [e]; exact h)
      · exact .inr ⟨k + 1, j, by simp; omega, by rw [e, h2]; congr 2; omega, by simpa using h3, by simpa using h4⟩
    | cons x r =>
      have e : fireL i (os :: t) = ((i : Int), x) := by rw [fireL, hm]
      obtain ⟨j, hx, hj, hd⟩ := mayF_mem (os := os) (x := x) (by rw [hm]; simp)
      exact .inr ⟨0, j, by simp, by rw [e, hx]; rfl, hj, hd⟩
theorem fire_some {ks : List (List Ord)} (hk : kitB ks = true) (h : ¬ (fireF ks).1 < 0) : ∃ (k j : Nat) (h1 : k < ks.length), fireF ks = ((k : Int), (j : Int)) ∧ ∃ h2 : j < ks[k].length, (doF ks[k] j 0).2 = true := by
  rw [fireF_yes hk] at h ⊢
  rcases fireL_some ks 0 with h1 | ⟨k, j, h1, h2, h3⟩
  · exact absurd h1 h
  · exact ⟨k, j, h1, by rw [h2]; congr 2; omega, h3⟩
def stepF (ks : List (List Ord)) : List (List Ord) × Bool :=
  if kitB ks = false then ([], false)
  else match fk 2 0 ks with
    | some (k, j) => (putK ks k j 3, true)
    | none => match fk 1 0 ks with
      | some (k, j) => (putK ks k j 2, true)
      | none => if (fireF ks).1 < 0 then (ks, false) else (putK ks (fireF ks).1.toNat (fireF ks).2.toNat 1, true)
theorem stepF_no {ks : List (List Ord)} (h : kitB ks = false) : stepF ks = ([], false) := by simp [stepF, h]
theorem stepF_2 {ks : List (List Ord)} {k j : Nat} (h : kitB ks = true) (h2 : fk 2 0 ks = some (k, j)) : stepF ks = (putK ks k j 3, true) := by simp [stepF, h, h2]
theorem stepF_1 {ks : List (List Ord)} {k j : Nat} (h : kitB ks = true) (h2 : fk 2 0 ks = none) (h1 : fk 1 0 ks = some (k, j)) : stepF ks = (putK ks k j 2, true) := by simp [stepF, h, h2, h1]
theorem stepF_0 {ks : List (List Ord)} {k j : Nat} (h : kitB ks = true) (h2 : fk 2 0 ks = none) (h1 : fk 1 0 ks = none) (h0 : fireF ks = ((k : Int), (j : Int))) : stepF ks = (putK ks k j 1, true) := by
  have : ¬ (fireF ks).1 < 0 := by rw [h0]; simp only; omega
  simp only [stepF, h, h2, h1]
  rw [if_neg (by simp), if_neg this, h0]; rfl
theorem stepF_end {ks : List (List Ord)} (h : kitB ks = true) (h2 : fk 2 0 ks = none) (h1 : fk 1 0 ks = none) (h0 : (fireF ks).1 < 0) : stepF ks = (ks, false) := by
  simp only [stepF, h, h2, h1]
  rw [if_neg (by simp), if_pos h0]
theorem setSt_total (ks : List (List Ord)) (k j : Nat) (s : Int) : total (putK ks k j s) = total ks := by
  have e : (putK ks k j s).map List.length = ks.map List.length := by
    apply List.ext_getElem?
    intro i
    simp only [putK, List.getElem?_map, List.getElem?_set]
    split
    · rename_i h
      subst h
      by_cases hk : k < ks.length
      · simp [hk, setSt_length]
      · simp [hk]
    · rfl
  simp only [total, e]
theorem stepF_size (ks : List (List Ord)) (h : ks.length + total ks ≤ 1048576) : (stepF ks).1.length + total (stepF ks).1 ≤ 1048576 := by
  unfold stepF
  split
  · simp [total]
  · split
    · simp only [putK_length, setSt_total]; exact h
    · split
      · simp only [putK_length, setSt_total]; exact h
      · split
        · exact h
        · simp only [putK_length, setSt_total]; exact h

/-! ### kitchens in memory, turned in one place -/
section
variable {w w' : World} {lo : Nat} {vs : List Value} {rows : List Row}
theorem Inn.written (h : Inn w lo vs rows) (k : Nat) (hk : k < vs.length) {n : Nat} {cs : List Value} (hg : w.grownBy w' vs[k].ownBlock) (ho : w'.ownsRow lo 30 2 vs[k] n cs) (hn : ∀ h2, (rows[k]'h2).1 = n) :
    Inn w' lo vs (rows.set k (n, cs)) := by
  refine ⟨by rw [List.length_set]; exact h.len, fun j hj hj' => ?_, h.apart⟩
  rw [List.length_set] at hj
  by_cases e : k = j
  · subst e
    obtain ⟨Aj, cj, e, _⟩ := h.at_ k hj hj'
    rw [e, hn hj] at ho
    refine ⟨Aj, cj, by rw [e, hn hj]; simp, by simpa using ho⟩
  · obtain ⟨Aj, cj, e1, ho1⟩ := h.at_ j hj hj'
    refine ⟨Aj, cj, by rw [e1]; simp [List.getElem_set, e], ?_⟩
    simp only [List.getElem_set, e, if_false]
    refine own_keep ho1 fun g hg1 => hg.block g (World.ownsRow.lt ho1 g hg1).2 ?_
    intro e2
    rw [← e1] at hg1
    rcases Nat.lt_or_gt_of_ne e with hlt | hlt
    · exact h.apart k j hk hj' hlt g e2.symm hg1
    · exact h.apart j k hj' hk hlt g hg1 e2.symm
theorem Inn.replace (h : Inn w lo vs rows) (hb : Below w.heap.size w w') (hl : lo ≤ w.heap.size) (k : Nat) {v : Value} {n : Nat} {cs : List Value} (ho : w'.ownsRow w.heap.size 30 2 v n cs) : Inn w' lo (vs.set k v) (rows.set k (n, cs)) := by
  have h2 := h.below hb
  obtain ⟨Av, cv, rfl, -⟩ := own_form ho
  have far : ∀ i (hi : i < vs.length), apartV vs[i] (.slice Av n cv) := by
    intro i hi g hg hg'
    obtain ⟨Ai, ci, e, ho'⟩ := h.at_ i (by rw [← h.len]; exact hi) hi
    rw [e] at hg
    have h1 := (World.ownsRow.lt ho' g hg).2
    have h3 := (World.ownsRow.lt ho g hg').1
    omega
  refine ⟨by simp [h.len], fun j hj hj' => ?_, fun i j hi hj hij => ?_⟩
  · rw [List.length_set] at hj hj'
    by_cases e : k = j
    · subst e
      exact ⟨Av, cv, by simp, by simpa using own_mono ho hl⟩
    · obtain ⟨Aj, cj, e1, ho1⟩ := h2.at_ j hj hj'
      exact ⟨Aj, cj, by simp [List.getElem_set, e, e1], by simpa [List.getElem_set, e] using ho1⟩
  · rw [List.length_set] at hi hj
    simp only [List.getElem_set]
    split <;> split
    · omega
    · intro g hg hg'; exact far j hj g hg' hg
    · exact far i hi
    · exact h.apart i j hi hj hij
end
/-- A kitchen that the call made: a dish is put into a state. -/
theorem OK.put {w : World} {lo : Nat} {A : Option Addr} {c : Nat} {ks : List (List Ord)} (h : OK w lo (.slice A ks.length c) (rowsOf ks)) (k j : Nat) (hk : k < ks.length) (hj : j < ks[k].length) :
    ∃ b off g ck, A = some ⟨b, off, none⟩ ∧ lo ≤ g ∧ w.cell? ⟨b, off + k, none⟩ = some (.slice (some ⟨g, 0, none⟩) ks[k].length ck) ∧ (∃ u, w.cell? ⟨g, j * 2 + 1, none⟩ = some u) ∧ w.frozen? ⟨g, j * 2 + 1, none⟩ = false ∧
      ∀ s, OK (w.setCell ⟨g, j * 2 + 1, none⟩ (.int .i64 s)) lo (.slice A ks.length c) (rowsOf (putK ks k j s)) := by
  obtain ⟨vs, h1, h2⟩ := h
  have hl : vs.length = ks.length := by rw [h2.len, rowsOf_length]
  obtain ⟨A', c', e, hr, _⟩ := own_form h1
  rw [rowsOf_length] at e
  injection e with e1 _ e3
  subst e1 e3
  obtain ⟨b, off, rfl, hb, hc⟩ := hr (by omega)
  have hk' : k < vs.length := by omega
  have hk2 : k < (rowsOf ks).length := by rw [rowsOf_length]; exact hk
  obtain ⟨Ak, ck, ek, ho⟩ := h2.at_ k hk2 hk'
  have er : (rowsOf ks)[k] = (ks[k].length, ords ks[k]) := by simp [rowsOf]
  rw [er] at ek ho
  obtain ⟨g, rfl, hgb⟩ := OO.block ho (by omega)
  have hx := own_cell ho (j * 2 + 1) (by omega)
  have hf := ho.frozenAt (j * 2 + 1)
  refine ⟨b, off, g, ck, rfl, hgb, by rw [hc k hk', ek], hx, hf, fun s => ?_⟩
  obtain ⟨ho2, hg2⟩ := ho.stored (j * 2 + 1) (.int .i64 s)
  rw [ords_set ks[k] j s hj] at ho2
  have hgt := own_type ho (g := g) rfl
  have hnot : ∀ g', (Value.slice (some ⟨b, off, none⟩) ks.length c).ownBlock = some g' → g' ≠ g := by
    intro g' hg' e
    subst e
    obtain ⟨c1, t1⟩ := own_type h1 hg'
    obtain ⟨c2, t2⟩ := hgt
    rw [t1] at t2
    injection t2 with t2
    injection t2 with _ t2 _
    exact types_differ t2
  refine ⟨vs, ?_, ?_⟩
  · have hlen : (rowsOf (putK ks k j s)).length = (rowsOf ks).length := by rw [rowsOf_length, rowsOf_length, putK_length]
    rw [hlen]
    exact own_keep h1 fun g' hg' => Below.heap_setCell _ _ _ _ (by intro e; exact hnot g' hg' e)
  · rw [putK_eq _ _ _ _ hk, rows_set, setSt_length, setSt_eq _ _ _ hj]
    exact h2.written k hk' (by rw [ek]; exact hg2) (by rw [ek]; exact ho2) (fun h2 => by simp [rowsOf])
def RetKB (w : World) (p : List (List Ord) × Bool) (e : Ending) (w' : World) : Prop := ∃ v, e = .returned (.tuple #[v, .bool p.2]) ∧ OK w' w.heap.size v (rowsOf p.1) ∧ Below w.heap.size w w'
theorem RetKB.mk {w w' : World} {p : List (List Ord) × Bool} {v : Value} {ks : List (List Ord)} {b : Bool} (hp : p = (ks, b)) (ho : OK w' w.heap.size v (rowsOf ks)) (hb : Below w.heap.size w w') : RetKB w p (.returned (.tuple #[v, .bool b])) w' := by
  subst hp
  exact ⟨v, rfl, ho, hb⟩
end Go.Proofs.YthbledeghanffaaDoor
