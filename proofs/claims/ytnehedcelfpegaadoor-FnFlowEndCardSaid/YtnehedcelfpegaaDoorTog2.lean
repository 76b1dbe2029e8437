/- TogetherBest: what the program computes. -/
import Derived.Test.YtnehedcelfpegaaDoorTog1
set_option linter.unusedVariables false
set_option linter.unusedSimpArgs false
namespace Go.Proofs.YtnehedcelfpegaaDoor
open Go.ChangeShapes Go.WideShapes Go.ChangeAt Go.RowKit

set_option maxHeartbeats 4000000 in
theorem sort_nil (A : Option Addr) (c : Nat) (cbv : Value) (w : World) :
    Calls Tryd.prog 53 #[.slice A 0 c, .func (.func 54) #[] #[cbv]] w fun e w' => e = .returned (.tuple #[]) ∧ w = w' := by
  have h1 : Calls Tryd.prog 69 #[.slice A 0 c, .int .i64 0, .int .i64 0, .func (.func 54) #[] #[cbv]] w fun e w' => e = .returned (.tuple #[]) ∧ w = w' := by
    go_enter Tryd.func69, Tryd.ntmps69
    go_wp2
    go_loopw [8] (fun a wr => a = .int .i64 1 ∧ wr = w) (fun _ _ => 0)
    case atStart => exact ⟨rfl, rfl⟩
    case round =>
      obtain ⟨rfl, rfl⟩ := hrel
      go_wp2
      go_end0
      exact ⟨rfl, rfl⟩
  have H1 := Lib.hid h1
  clear h1
  have h2 : Calls Tryd.prog 65 #[.slice A 0 c, .int .i64 0, .func (.func 54) #[] #[cbv]] w fun e w' => e = .returned (.tuple #[]) ∧ w = w' := by
    go_enter Tryd.func65, Tryd.ntmps65
    go_wp2
    go_loopw [7, 8] (fun a b wr => a = .int .i64 0 ∧ b = .int .i64 20 ∧ wr = w) (fun _ _ _ => 0)
    case atStart => exact ⟨rfl, rfl, rfl⟩
    case round =>
      obtain ⟨rfl, rfl, rfl⟩ := hrel
      go_wp2_with (go_at_call 69; refine H1.out.mono ?_; rintro e w1 ⟨rfl, rfl⟩)
      go_loopw [6] (fun a wx => a = .int .i64 20 ∧ wx = wr) (fun _ _ => 0)
      case atStart => exact ⟨rfl, rfl⟩
      case round =>
        obtain ⟨rfl, rfl⟩ := hrel
        go_wp2
        go_end0
        exact ⟨rfl, rfl⟩
  have H2 := Lib.hid h2
  clear h2
  go_enter Tryd.func53, Tryd.ntmps53
  go_wp2_with (go_at_call 65; refine H2.out.mono ?_; rintro e w1 ⟨rfl, rfl⟩)
  go_end0
  exact ⟨rfl, rfl⟩

def togC (xs : List Int) (i j : Int) : Int := at0 xs j.toNat - at0 xs i.toNat
def togF (xs : List Int) : List Int := if spansB xs then sortTo (togC xs) (idx xs.length) (xs.length - 1) else []
theorem togF_no {xs : List Int} (h : spansB xs = false) : togF xs = [] := by simp [togF, h]
theorem togF_yes {xs : List Int} (h : spansB xs = true) : togF xs = sortTo (togC xs) (idx xs.length) (xs.length - 1) := by simp [togF, h]
theorem innS_length (cf : Int → Int → Int) : ∀ j l, (innS cf j l).length = l.length
  | 0, l => rfl
  | j + 1, l => by
    rw [innS]; split
    · rw [innS_length cf j, swp_length]
    · rfl
theorem sortTo_length (cf : Int → Int → Int) (l : List Int) : ∀ k, (sortTo cf l k).length = l.length
  | 0 => rfl
  | k + 1 => by rw [sortTo, innS_length, sortTo_length cf l k]
theorem Rng_idx (n : Nat) : Rng (idx n) := by
  intro k hk
  refine ⟨k, hk, ?_⟩
  rw [← at0_eq hk, idx_get]
set_option maxHeartbeats 4000000 in
theorem impl_togetherBest (A : Option Addr) (c : Nat) (xs : List Int) (w : World) (h : IS w w.heap.size A xs) (hl : xs.length ≤ 1048576) :
    Calls Tryd.prog 27 #[.slice A xs.length c] w (RetI w (togF xs)) := by
  cases hs : spansB xs
  · have HE := Lib.hid (togF_no hs)
    go_enter Tryd.func27, Tryd.ntmps27
    go_wp2_with (go_at_call 13; refine (impl_spansValid A c xs _ _ (h.below (below_al (Below.refl _ _) _)) hl).mono ?_; rintro e w1 ⟨rfl, rfl⟩)
    go_ret
    exact ⟨_, rfl, by rw [HE.out]; exact OI.nil _ _, below_al (Below.refl _ _) _⟩
  · have HE := Lib.hid (togF_yes hs)
    have HS := Lib.hid hs
    go_enter Tryd.func27, Tryd.ntmps27
    go_wp2_with (go_at_call 13; refine (impl_spansValid A c xs _ _ (h.below (below_al (Below.refl _ _) _)) hl).mono ?_; rintro e w1 ⟨rfl, rfl⟩)
    go_wp2_with (go_at_call 52; refine (indices_any xs.length _ hl).mono ?_; rintro e w2 ⟨v, rfl, o, b2⟩; obtain ⟨A2, c2, rfl, -⟩ := own_form o)
    have hb0 := Blk.new w 23 #[.slice A xs.length c]
    have hlt := hb0.lt
    have hb := hb0.below b2 hlt
    have bel : Below w.heap.size w w2 := below_step (below_al (Below.refl _ _) _) b2
    have O : OwnG w2 (w.heap.size + 1) 0 0 0 [] ∨ True := .inr trivial
    clear O
    generalize hn : (idx xs.length).length = n at *
    rw [idx_length] at hn
    subst hn
    by_cases h0 : xs.length = 0
    · have hx : xs = [] := List.eq_nil_of_length_eq_zero h0
      subst hx
      go_wp2_with (go_at_call 53; refine (sort_nil _ _ _ _).mono ?_; rintro e w3 ⟨rfl, rfl⟩)
      go_ret
      refine ⟨_, rfl, ?_, bel⟩
      rw [HE.out]
      exact own_mono o (by omega)
    · have o' : w2.ownsRow (w.alloc (Obj.cells #[Value.slice A xs.length c] 23)).heap.size 3 1 (.slice A2 xs.length c2) xs.length (ints (idx xs.length)) := by
        have := o
        rwa [OI, idx_length] at this
      clear o
      obtain ⟨g, rfl, hgb⟩ := own_head o' (by omega)
      have h6 := spans_len HS.out
      have hsort := sortStable_one (.pointer (some ⟨w.heap.size, 0, none⟩)) (togC xs) g xs.length c2 _ (idx xs.length) w2 o' hgb (idx_length _) (by omega) (Rng_idx _) (by
        intro W hW i j hi hj
        have hbW := hb.below hW hlt
        have := togClosure A c w.heap.size xs W w.heap.size (h.below (bel.trans (hW.mono (by omega)))) HS.out (hbW.cell 0 (by simp)) (hbW.frozen 0) i j hi hj
        simpa [togC] using this)
      have HSO := Lib.hid hsort
      clear hsort hs
      go_wp2_with (go_at_call 53; refine HSO.out.mono ?_; rintro e w3 ⟨rfl, o3, b3⟩)
      go_ret
      refine ⟨_, rfl, ?_, bel.trans (b3.mono (by omega))⟩
      rw [HE.out, OI, sortTo_length, idx_length]
      exact own_mono o3 (by omega)
end Go.Proofs.YtnehedcelfpegaaDoor
