/- The draws of tasks. -/
import Derived.Test.YtjicpdleacnlaaaDoorDrawTk
import Derived.Test.YtjicpdleacnlaaaDoorAlive
set_option linter.unusedVariables false
set_option linter.unusedSimpArgs false
namespace Go.Proofs.YtjicpdleacnlaaaDoor
open Go.ChangeShapes Go.WideShapes Go.ChangeAt Go.RowKit

theorem InnI.lower {w : World} {lo lo' : Nat} {vs : List Value} {rows : List RowI} (h : InnI w lo vs rows) (hl : lo' ≤ lo) : InnI w lo' vs rows :=
  ⟨h.len, fun j hj hj' => by obtain ⟨Aj, cj, e, ho⟩ := h.at_ j hj hj'; exact ⟨Aj, cj, e, own_mono ho hl⟩, h.apart⟩
theorem TK.lower {w : World} {lo lo' : Nat} {v : Value} {ts : List Tsk} (h : TK w lo v ts) (hl : lo' ≤ lo) : TK w lo' v ts := by
  obtain ⟨ps, h1, h2, h3⟩ := h
  exact ⟨ps, h1, own_mono h2 hl, h3.lower hl⟩
theorem totT_small : ∀ ts : List Tsk, (∀ t ∈ ts, t.2.length ≤ 8) → totT ts ≤ 8 * ts.length
  | [], _ => by simp [totT]
  | t :: ts, h => by
    have h1 := totT_small ts fun x hx => h x (by simp [hx])
    have h2 := h t (by simp)
    simp only [totT, List.map_cons, List.sum_cons, List.length_cons] at h1 ⊢
    omega
/-- Tasks were drawn for a law. -/
def DrawTkL (w : World) (e : Ending) (w' : World) : Prop := ∃ (v : Value) (ts : List Tsk), e = .returned v ∧ TK w' w.heap.size v ts ∧ (ts.length ≤ 8 ∧ ts.length + totT ts ≤ 100) ∧ Below w.heap.size w w'
set_option maxHeartbeats 2000000 in
theorem drawTasksValid_any (A : Option Addr) (c : Nat) (xs : List Int) (w : World) (h : RV w w.heap.size A (bts xs)) (hc : xs.length ≤ c) (hl : xs.length ≤ 1048576) (hb : ∀ x ∈ xs, 0 ≤ x ∧ x ≤ 255) :
    Calls Tryd.prog 29 #[.slice A xs.length c] w (DrawTkL w) := by
  have HO := Lib.hid (open_any A c xs w h hc hl hb)
  clear hb h
  go_enter Tryd.func29, Tryd.ntmps29
  go_wp2_with fail
  refine HO.out.mono ?_
  rintro e w1 ⟨g, rfl, r1, b1⟩
  have hg := r1.lt
  go_wp2_with fail
  refine (l20Tasks_any w.heap.size g 0 2 _ r1 (by omega) (by omega) (by omega)).mono ?_
  rintro e w2 ⟨v, ts, rfl, o, ⟨hl1, hl2⟩, r2, c2⟩
  have hts := totT_small ts hl2
  go_wp2
  go_ret
  exact ⟨v, ts, rfl, o.lower b1.size, ⟨hl1, by omega⟩, Below.chg b1 c2 hg.1⟩
set_option maxHeartbeats 2000000 in
theorem drawTasksEnd_any (A : Option Addr) (c : Nat) (xs : List Int) (w : World) (h : RV w w.heap.size A (bts xs)) (hc : xs.length ≤ c) (hl : xs.length ≤ 1048576) (hb : ∀ x ∈ xs, 0 ≤ x ∧ x ≤ 255) :
    Calls Tryd.prog 32 #[.slice A xs.length c] w (DrawTkL w) := by
  have HO := Lib.hid (open_any A c xs w h hc hl hb)
  clear hb h
  go_enter Tryd.func32, Tryd.ntmps32
  go_wp2_with fail
  refine HO.out.mono ?_
  rintro e w1 ⟨g, rfl, r1, b1⟩
  have hg := r1.lt
  go_wp2_with fail
  refine (l20Tasks_any w.heap.size g 0 9 _ r1 (by omega) (by omega) (by omega)).mono ?_
  rintro e w2 ⟨v, ts, rfl, o, ⟨hl1, hl2⟩, r2, c2⟩
  have hts := totT_small ts hl2
  go_wp2
  go_ret
  exact ⟨v, ts, rfl, o.lower b1.size, ⟨hl1, by omega⟩, Below.chg b1 c2 hg.1⟩
set_option maxHeartbeats 2000000 in
theorem drawStartsEarly_any (A : Option Addr) (c : Nat) (xs : List Int) (w : World) (h : RV w w.heap.size A (bts xs)) (hc : xs.length ≤ c) (hl : xs.length ≤ 1048576) (hb : ∀ x ∈ xs, 0 ≤ x ∧ x ≤ 255) :
    Calls Tryd.prog 35 #[.slice A xs.length c] w (DrawTkL w) := by
  have HO := Lib.hid (open_any A c xs w h hc hl hb)
  clear hb h
  go_enter Tryd.func35, Tryd.ntmps35
  go_wp2_with fail
  refine HO.out.mono ?_
  rintro e w1 ⟨g, rfl, r1, b1⟩
  have hg := r1.lt
  go_wp2_with fail
  refine (l20Tasks_any w.heap.size g 0 9 _ r1 (by omega) (by omega) (by omega)).mono ?_
  rintro e w2 ⟨v, ts, rfl, o, ⟨hl1, hl2⟩, r2, c2⟩
  have hts := totT_small ts hl2
  go_wp2
  go_ret
  exact ⟨v, ts, rfl, o.lower b1.size, ⟨hl1, by omega⟩, Below.chg b1 c2 hg.1⟩
set_option maxHeartbeats 2000000 in
theorem drawStartsLate_any (A : Option Addr) (c : Nat) (xs : List Int) (w : World) (h : RV w w.heap.size A (bts xs)) (hc : xs.length ≤ c) (hl : xs.length ≤ 1048576) (hb : ∀ x ∈ xs, 0 ≤ x ∧ x ≤ 255) :
    Calls Tryd.prog 39 #[.slice A xs.length c] w (DrawTkL w) := by
  have HO := Lib.hid (open_any A c xs w h hc hl hb)
  clear hb h
  go_enter Tryd.func39, Tryd.ntmps39
  go_wp2_with fail
  refine HO.out.mono ?_
  rintro e w1 ⟨g, rfl, r1, b1⟩
  have hg := r1.lt
  go_wp2_with fail
  refine (l20Tasks_any w.heap.size g 0 9 _ r1 (by omega) (by omega) (by omega)).mono ?_
  rintro e w2 ⟨v, ts, rfl, o, ⟨hl1, hl2⟩, r2, c2⟩
  have hts := totT_small ts hl2
  go_wp2
  go_ret
  exact ⟨v, ts, rfl, o.lower b1.size, ⟨hl1, by omega⟩, Below.chg b1 c2 hg.1⟩
set_option maxHeartbeats 2000000 in
theorem drawLongestWay_any (A : Option Addr) (c : Nat) (xs : List Int) (w : World) (h : RV w w.heap.size A (bts xs)) (hc : xs.length ≤ c) (hl : xs.length ≤ 1048576) (hb : ∀ x ∈ xs, 0 ≤ x ∧ x ≤ 255) :
    Calls Tryd.prog 44 #[.slice A xs.length c] w (DrawTkL w) := by
  have HO := Lib.hid (open_any A c xs w h hc hl hb)
  clear hb h
  go_enter Tryd.func44, Tryd.ntmps44
  go_wp2_with fail
  refine HO.out.mono ?_
  rintro e w1 ⟨g, rfl, r1, b1⟩
  have hg := r1.lt
  go_wp2_with fail
  refine (l20Tasks_any w.heap.size g 0 9 _ r1 (by omega) (by omega) (by omega)).mono ?_
  rintro e w2 ⟨v, ts, rfl, o, ⟨hl1, hl2⟩, r2, c2⟩
  have hts := totT_small ts hl2
  go_wp2
  go_ret
  exact ⟨v, ts, rfl, o.lower b1.size, ⟨hl1, by omega⟩, Below.chg b1 c2 hg.1⟩
end Go.Proofs.YtjicpdleacnlaaaDoor
