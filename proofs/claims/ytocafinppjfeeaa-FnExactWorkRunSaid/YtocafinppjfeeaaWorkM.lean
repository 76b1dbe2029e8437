/- Kitchens that the call made: marked, and found held. -/
import Derived.Test.YtocafinppjfeeaaWork5
namespace Go.Proofs.Ytocafinppjfeeaa
open Go.ChangeShapes Go.WideShapes Go.ChangeAt Go.RowKit

def mrows (m : Int) : List (List Ord) → List Row
  | [] => []
  | os :: t => (os.length, ints (marks m (2 * os.length))) :: mrows (m + 2 * os.length) t
theorem mrows_length (m : Int) (ks : List (List Ord)) : (mrows m ks).length = ks.length := by
  induction ks generalizing m with
  | nil => rfl
  | cons os t ih => simp [mrows, ih]
theorem mrows_at : ∀ (ks : List (List Ord)) (m : Int) (k : Nat) (h : k < ks.length), (mrows m ks)[k]? = some (ks[k].length, ints (marks (m + 2 * (total (ks.take k) : Int)) (2 * ks[k].length)))
  | [], m, k, h => absurd h (by simp)
  | os :: t, m, 0, h => by simp [mrows, total]
  | os :: t, m, k + 1, h => by
    have := mrows_at t (m + 2 * os.length) k (by simpa using h)
    simp only [mrows, List.getElem?_cons_succ, List.getElem_cons_succ, this]
    have e : total ((os :: t).take (k + 1)) = os.length + total (t.take k) := by simp [total]
    rw [e]
    congr 4
    omega
theorem own_one {w : World} {lo n size : Nat} {e : TypeId} {v : Value} {cs : List Value} (h : w.ownsRow lo e size v n cs) :
    ∃ a b, OwnR w a b e size v n cs ∧ (∀ w' : World, Chg a b w w' → w.grownBy w' v.ownBlock) ∧ (∀ (w' : World) (cs' : List Value), w'.ownsRow a e size v n cs' → w'.ownsRow lo e size v n cs') := by
  rcases h.2 with ⟨rfl, hn⟩ | ⟨g, cap, cur, rfl, hb, r⟩
  · refine ⟨0, 0, ⟨⟨h.1, .inl ⟨rfl, hn⟩⟩, fun k hk => by simp [Value.ownBlock] at hk⟩, fun w' c => ⟨c.os, c.tape, c.output, c.size, fun k hk _ => c.block k hk (by omega)⟩, fun w' cs' h' => ⟨h'.1, .inl ⟨rfl, hn⟩⟩⟩
  · refine ⟨g, g + 1, ⟨⟨h.1, .inr ⟨g, cap, cur, rfl, Nat.le_refl _, r⟩⟩, fun k hk => by simp [Value.ownBlock] at hk; omega⟩, fun w' c => ⟨c.os, c.tape, c.output, c.size, fun k hk hn => c.block k hk ?_⟩, fun w' cs' h' => own_mono h' hb⟩
    have : k ≠ g := fun e => hn (by rw [e]; rfl)
    omega
theorem rowsOf_at (ks : List (List Ord)) (k : Nat) (h : k < ks.length) : (rowsOf ks)[k]? = some (ks[k].length, ords ks[k]) := by simp [rowsOf, h]
set_option maxHeartbeats 4000000 in
theorem markOrderSS_r (A : Option Addr) (c : Nat) (ks : List (List Ord)) (m : Int) (w : World) (lo hi : Nat) (h : OKR w lo hi (.slice A ks.length c) (rowsOf ks)) (hl : ks.length + total ks ≤ 1048576) (h0 : 0 ≤ m) (h1 : m ≤ 1000000) :
    Calls Try.prog 46 #[.slice A ks.length c, .int .i64 m] w fun e w' => e = .returned (.int .i64 (m + 2 * (total ks : Int))) ∧ OKR w' lo hi (.slice A ks.length c) (mrows m ks) ∧ Chg lo hi w w' := by
  obtain ⟨vs, hO, hI, hhi⟩ := h
  rw [rowsOf_length] at hO
  have HHI := Lib.hid hhi
  have hvl : vs.length = ks.length := by rw [hI.len, rowsOf_length]
  have HVL := Lib.hid hvl
  clear hhi hvl
  go_enter Try.func46, Try.ntmps46
  go_wp2
  go_loopw [1, 5] (fun q i wr => ∃ (k : Nat) (rows : List Row), k ≤ ks.length ∧ i = .int .i64 k ∧ q = .int .i64 (m + 2 * (total (ks.take k) : Int)) ∧ OwnR wr lo hi 25 1 (.slice A ks.length c) ks.length vs ∧ Inn wr lo vs rows ∧
    Hid (∀ j, j < k → rows[j]? = (mrows m ks)[j]?) ∧ Hid (∀ j, k ≤ j → rows[j]? = (rowsOf ks)[j]?) ∧ Chg lo hi w wr) (fun _ i _ => ks.length - (intOf i).toNat)
  case atStart => exact ⟨0, _, Nat.zero_le _, rfl, by simp [total], hO, hI, Lib.hid (fun j h => by omega), Lib.hid (fun _ _ => rfl), Chg.refl _ _ _⟩
  case round =>
    clear hO hI
    obtain ⟨k, rows, hk, rfl, rfl, hO, hI, HR1, HR2, hC⟩ := hrel
    by_cases hlt : k < ks.length
    · have hkv : k < vs.length := by rw [HVL.out]; exact hlt
      have hkr : k < rows.length := by rw [← hI.len]; exact hkv
      have hrk : rows[k] = (ks[k].length, ords ks[k]) := by
        have := HR2.out k (Nat.le_refl _)
        rw [List.getElem?_eq_getElem hkr, rowsOf_at ks k hlt] at this
        exact Option.some.inj this
      have hts := Lib.hid (total_take_succ ks k hlt)
      have hle := total_take_le ks (k + 1)
      have hle2 : total (ks.take k) + ks[k].length ≤ total ks := by rw [← hts.out]; exact hle
      clear hle
      obtain ⟨Ak, ck, hvk, hok⟩ := hI.at_ k hkr hkv
      rw [hrk] at hvk hok
      obtain ⟨b, off, rfl, -, hc⟩ := hO.reads (by omega)
      have hck := hc k hkv
      rw [hvk] at hck
      obtain ⟨a, bb, hR, hG, hback⟩ := own_one hok
      have HOW := Lib.hid hO
      have HIN := Lib.hid hI
      have HG := Lib.hid hG
      have HBK := Lib.hid hback
      have HVK := Lib.hid hvk
      have HLO := Lib.hid (World.ownsRow.lt hok)
      have HTY := Lib.hid (fun g hg => own_type hok (g := g) hg)
      have HMR := Lib.hid (mrows_at ks m k hlt)
      have hlj := len_le_total ks k hlt
      clear hc hO hI hG hback hok
      go_wp2_with fail
      refine (markOrderS_r _ _ _ _ _ _ _ _ hR (by omega) (by omega) (by omega)).mono ?_
      rintro e w3 ⟨rfl, r3, c3⟩
      have g3 := HG.out w3 c3
      have hC3 : Chg lo hi w w3 := hC.trans (Chg.of_grown g3 fun g' hg' => ⟨(HLO.out g' hg').1, HHI.out k hkv g' (by rw [HVK.out]; exact hg')⟩)
      have hO3 : OwnR w3 lo hi 25 1 (.slice (some ⟨b, off, none⟩) ks.length c) ks.length vs := ⟨own_keep HOW.out.1 fun g' hg' => g3.block g' (World.ownsRow.lt HOW.out.1 g' hg').2 (by
        intro e
        obtain ⟨c1, t1⟩ := own_type HOW.out.1 hg'
        obtain ⟨c2, t2⟩ := HTY.out g' e.symm
        rw [t1] at t2
        injection t2 with t2
        injection t2 with _ t2 _
        exact types_differ t2), HOW.out.2⟩
      have hI3 := HIN.out.written k hkv (by rw [HVK.out]; exact g3) (by rw [HVK.out]; exact HBK.out _ _ r3.1) (by
        intro h2
        have := HR2.out k (Nat.le_refl _)
        rw [List.getElem?_eq_getElem h2, rowsOf_at ks k hlt] at this
        rw [Option.some.inj this])
      have HO3 := Lib.hid hO3
      have HI3 := Lib.hid hI3
      clear hO3 hI3 r3 g3 hR
      go_wp2
      go_roundw
      case rel =>
        refine ⟨k + 1, _, by omega, by go_num, by rw [hts.out]; congr 1; omega, HO3.out, HI3.out, Lib.hid (fun j hj => ?_), Lib.hid (fun j hj => ?_), hC3⟩
        · rw [List.getElem?_set]
          split
          · rename_i e
            subst e
            first | exact HMR.out.symm | (rw [HMR.out]) | (rw [HMR.out, if_pos hkr])
          · exact HR1.out j (by omega)
        · rw [List.getElem?_set_ne (by omega)]
          exact HR2.out j (by omega)
      case measure => simp [intOf]; omega
    · obtain rfl : k = ks.length := by omega
      have he : rows = mrows m ks := by
        apply List.ext_getElem?
        intro j
        by_cases hj : j < ks.length
        · exact HR1.out j hj
        · rw [HR2.out j (by omega), List.getElem?_eq_none (by rw [rowsOf_length]; omega), List.getElem?_eq_none (by rw [mrows_length]; omega)]
      subst he
      have HFIN := Lib.hid (show OKR wr lo hi (.slice A ks.length c) (mrows m ks) from ⟨vs, by rw [mrows_length]; exact hO, hI, HHI.out⟩)
      have HTT := Lib.hid (show total (ks.take ks.length) = total ks by rw [List.take_length])
      clear hO hI
      go_wp2
      go_ret
      exact ⟨ret_int (by first | rfl | rw [HTT.out]), HFIN.out, hC⟩
set_option maxHeartbeats 4000000 in
theorem heldOrderSS_r (A : Option Addr) (c : Nat) (ks : List (List Ord)) (m : Int) (w : World) (lo hi : Nat) (h : OKR w lo hi (.slice A ks.length c) (mrows m ks)) (hl : ks.length + total ks ≤ 1048576) (h0 : 0 ≤ m) (h1 : m ≤ 1000000) :
    Calls Try.prog 47 #[.slice A ks.length c, .int .i64 m] w fun e w' => e = .returned (.int .i64 (m + 2 * (total ks : Int))) ∧ w = w' := by
  obtain ⟨vs, hO, hI, hhi⟩ := h
  rw [mrows_length] at hO
  have hvl : vs.length = ks.length := by rw [hI.len, mrows_length]
  have HVL := Lib.hid hvl
  have HOW := Lib.hid hO
  have HIN := Lib.hid hI
  clear hhi hvl hO hI
  go_enter Try.func47, Try.ntmps47
  go_wp2
  go_loop [1, 5] (fun q i => ∃ k : Nat, k ≤ ks.length ∧ i = .int .i64 k ∧ q = .int .i64 (m + 2 * (total (ks.take k) : Int))) (fun _ i => ks.length - (intOf i).toNat)
  case atStart => exact ⟨0, Nat.zero_le _, rfl, by simp [total]⟩
  case round =>
    obtain ⟨k, hk, rfl, rfl⟩ := hrel
    by_cases hlt : k < ks.length
    · have hkv : k < vs.length := by rw [HVL.out]; exact hlt
      have hkr : k < (mrows m ks).length := by rw [mrows_length]; exact hlt
      have hrk : (mrows m ks)[k] = (ks[k].length, ints (marks (m + 2 * (total (ks.take k) : Int)) (2 * ks[k].length))) := by
        have := mrows_at ks m k hlt
        rw [List.getElem?_eq_getElem hkr] at this
        exact Option.some.inj this
      have hts := Lib.hid (total_take_succ ks k hlt)
      have hle := total_take_le ks (k + 1)
      have hle2 : total (ks.take k) + ks[k].length ≤ total ks := by rw [← hts.out]; exact hle
      clear hle
      obtain ⟨Ak, ck, hvk, hok⟩ := HIN.out.at_ k hkr hkv
      rw [hrk] at hvk hok
      obtain ⟨b, off, rfl, -, hc⟩ := HOW.out.reads (by omega)
      have hck := hc k hkv
      rw [hvk] at hck
      have hrd := (OwnR.mk hok).reads
      have hlj := len_le_total ks k hlt
      clear hc hvk hok hrk
      go_wp2_with fail
      refine (heldOrderS_r _ _ _ _ _ _ hrd (by omega) (by omega) (by omega)).mono ?_
      rintro e w' ⟨rfl, rfl⟩
      go_wp2
      go_round
      case rel => exact ⟨k + 1, by omega, by go_num, by rw [hts.out]; congr 1; omega⟩
      case measure => simp [intOf]; omega
    · obtain rfl : k = ks.length := by omega
      have HTT := Lib.hid (show total (ks.take ks.length) = total ks by rw [List.take_length])
      go_wp2
      go_ret
      exact ⟨ret_int (by first | rfl | rw [HTT.out]), rfl⟩
end Go.Proofs.Ytocafinppjfeeaa
