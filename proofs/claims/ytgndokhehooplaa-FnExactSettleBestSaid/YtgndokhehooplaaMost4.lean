/- GroupsMost: the plain function; what the reference computes. -/
import Derived.Test.YtgndokhehooplaaMost3
set_option linter.unusedVariables false
set_option linter.unusedSimpArgs false
namespace Go.Proofs.Ytgndokhehooplaa
open Go.ChangeShapes Go.WideShapes Go.ChangeAt Go.RowKit

def bestM (T : List Int) (s : Nat) : Nat → Int
  | 0 => 1
  | k + 1 => if 0 < k ∧ k &&& s = k ∧ 1 ≤ at0 T k then max (bestM T s k) (at0 T k + at0 T (s - k)) else bestM T s k
theorem bestM_part (ow T : List Int) (s : Nat) : ∀ k, k ≤ s → PartV ow (at0 T) s (bestM T s k) (fun q => q < k)
  | 0, _ => PartV.start _ _ _ (fun p d _ _ _ => by omega)
  | k + 1, hk => by
    have ih := bestM_part ow T s k (by omega)
    rw [bestM]
    split
    · rename_i h
      exact ih.take h.1 (by omega) h.2.1 h.2.2 (fun q hq _ => by omega)
    · rename_i h
      exact ih.skip (fun q hq q1 _ q3 q4 => by
        rcases Nat.lt_or_ge q k with h5 | h5
        · exact h5
        · have : q = k := by omega
          subst this
          exact absurd ⟨q1, q3, q4⟩ h)
def tabL (ow : List Int) : Nat → List Int
  | 0 => [0]
  | k + 1 => tabL ow k ++ [if sumM ow (k + 1) = 0 then bestM (tabL ow k) (k + 1) (k + 1) else -1]
theorem tabL_length (ow : List Int) : ∀ k, (tabL ow k).length = k + 1
  | 0 => rfl
  | k + 1 => by rw [tabL, List.length_append, tabL_length ow k]; rfl
theorem tabL_ok (ow : List Int) : ∀ k, IsTab ow (at0 (tabL ow k)) (k + 1)
  | 0 => ⟨rfl, fun s h1 h2 => by omega⟩
  | k + 1 => by
    rw [tabL]
    refine tab_push (tabL_ok ow k) (tabL_length ow k) (by omega) ?_
    by_cases h0 : sumM ow (k + 1) = 0
    · rw [if_pos h0]
      exact (bestM_part ow (tabL ow k) (k + 1) (k + 1) (Nat.le_refl _)).all h0 (fun p _ h _ => h)
    · rw [if_neg h0]
      exact ⟨fun _ => rfl, fun h => absurd h h0, fun h => absurd h h0, fun h => absurd h h0⟩
theorem tab_same {ow : List Int} {T T' : Nat → Int} {N : Nat} (h : IsTab ow T N) (h' : IsTab ow T' N) : ∀ s, s < N → T s = T' s := by
  intro s
  induction s using Nat.strongRecOn with
  | _ s ih =>
    intro hs
    rcases Nat.eq_zero_or_pos s with e | hp
    · subst e; rw [h.1, h'.1]
    · have V := h.2 s hp hs
      have V' := h'.2 s hp hs
      have V2 := V.congr (fun p hps => ih p hps (by omega))
      by_cases h0 : sumM ow s = 0
      · have a1 : T s ≤ T' s := by
          rcases V2.is h0 with e | ⟨p, p1, p2, p3, p4, p5⟩
          · rw [e]; exact V'.pos h0
          · rw [p5]; exact V'.ge h0 p p1 p2 p3 p4
        have a2 : T' s ≤ T s := by
          rcases V'.is h0 with e | ⟨p, p1, p2, p3, p4, p5⟩
          · rw [e]; exact V2.pos h0
          · rw [p5]; exact V2.ge h0 p p1 p2 p3 p4
        omega
      · rw [V.no h0, V'.no h0]
def fullS (ow : List Int) : Nat := 2 ^ (nz ow).length - 1
def mostF (ow : List Int) : Int := if owedB ow then at0 (tabL (nz ow) (fullS ow)) (fullS ow) else -1
theorem mostF_no {ow : List Int} (h : owedB ow = false) : mostF ow = -1 := by simp [mostF, h]
theorem mostF_yes {ow : List Int} (h : owedB ow = true) : mostF ow = at0 (tabL (nz ow) (fullS ow)) (fullS ow) := by simp [mostF, h]
theorem full_lt (ow : List Int) : fullS ow + 1 = 2 ^ (nz ow).length := by
  have := Nat.pow_pos (a := 2) (n := (nz ow).length) (by omega)
  unfold fullS; omega
theorem most_nz {ow : List Int} {T : Nat → Int} (h : owedB ow = true) (hT : IsTab (nz ow) T (2 ^ (nz ow).length)) : T (fullS ow) = mostF ow := by
  rw [mostF_yes h]
  have h2 := tabL_ok (nz ow) (fullS ow)
  rw [full_lt] at h2
  exact tab_same hT h2 _ (by have := full_lt ow; omega)
theorem most_emb {ow : List Int} {T : Nat → Int} (h : owedB ow = true) (hT : IsTab ow T (2 ^ ow.length)) : T (emb ow (fullS ow)) = mostF ow := by
  rw [mostF_yes h]
  have h2 := tabL_ok (nz ow) (fullS ow)
  rw [full_lt] at h2
  exact tab_emb hT h2 _ (by have := full_lt ow; omega)
theorem owed_partsM {ow : List Int} (h : owedB ow = true) : ow.length ≤ 7 ∧ (∀ k, -9999 ≤ at0 ow k ∧ at0 ow k ≤ 9999) := by
  simp only [owedB, Bool.and_eq_true, decide_eq_true_eq, List.all_eq_true, inB_true] at h
  refine ⟨h.1, fun k => ?_⟩
  by_cases hk : k < ow.length
  · rw [← at0_eq hk]; exact h.2.1 _ (List.getElem_mem hk)
  · simp [at0, hk]
theorem nz_take_succ (ow : List Int) (k : Nat) (h : k < ow.length) : nz (ow.take (k + 1)) = nz (ow.take k) ++ (if at0 ow k = 0 then [] else [at0 ow k]) := by
  rw [nz, List.take_succ_eq_append_getElem h, List.filter_append, at0_eq h]
  congr 1
  by_cases e : at0 ow k = 0
  · rw [if_pos e, e]; rfl
  · rw [if_neg e]; simp [e]
theorem nz_len (ow : List Int) : (nz ow).length ≤ ow.length := List.length_filter_le _ _
theorem nz_at {ow : List Int} (hb : ∀ k, -9999 ≤ at0 ow k ∧ at0 ow k ≤ 9999) (k : Nat) : -9999 ≤ at0 (nz ow) k ∧ at0 (nz ow) k ≤ 9999 := by
  by_cases hk : k < (nz ow).length
  · have hm : at0 (nz ow) k ∈ nz ow := by rw [← at0_eq hk]; exact List.getElem_mem hk
    have hm2 := (List.mem_filter.1 hm).1
    obtain ⟨j, hj, e⟩ := List.getElem_of_mem hm2
    have := hb j
    rw [← at0_eq hj, e] at this
    exact this
  · simp [at0, hk]
set_option maxRecDepth 20000 in
set_option maxHeartbeats 8000000 in
theorem spec_groupsMost (A : Option Addr) (c : Nat) (ow : List Int) (w : World) (h : IS w w.heap.size A ow) (hl : ow.length ≤ 1048576) :
    Calls Try.prog 9 #[.slice A ow.length c] w fun e w' => e = .returned (.int .i64 (mostF ow)) ∧ Below w.heap.size w w' := by
  cases hv : owedB ow
  · have HE := Lib.hid (mostF_no hv)
    go_enter Try.func9, Try.ntmps9
    go_wp2_with (go_at_call 32; refine (spec_owedValid A c ow _ _ h hl).mono ?_; rintro e w1 ⟨rfl, rfl⟩)
    go_ret
    exact ⟨ret_int HE.out.symm, Below.refl _ _⟩
  · obtain ⟨h7, hb⟩ := owed_partsM hv
    have HB := Lib.hid hb
    have HV := Lib.hid hv
    clear hb
    go_enter Try.func9, Try.ntmps9
    go_wp2_with (go_at_call 32; refine (spec_owedValid A c ow _ _ h hl).mono ?_; rintro e w1 ⟨rfl, rfl⟩)
    clear hv
    go_loopw [3, 4] (fun v i wr => ∃ (k : Nat) (v0 : Value), k ≤ ow.length ∧ v0 = v ∧ i = .int .i64 (k : Int) ∧ OI wr w.heap.size v0 (nz (ow.take k)) ∧ Below w.heap.size w wr) (fun _ i _ => ow.length - (intOf i).toNat)
    case atStart => exact ⟨0, _, Nat.zero_le _, rfl, by go_num, own_empty w _ _ _ (Nat.le_refl _), below_al (Below.refl _ _) _⟩
    case round =>
      obtain ⟨k, v, hk, rfl, rfl, hO, hW⟩ := hrel
      by_cases hlt : k < ow.length
      · obtain ⟨b, off, rfl, hbl, hc⟩ := IS.at0_ (RV.below h hW) (by omega)
        have e1 := hc k hlt
        have HS := Lib.hid (nz_take_succ ow k hlt)
        have hnl := nz_len (ow.take k)
        have hnl2 : (ow.take k).length ≤ 7 := by rw [List.length_take]; omega
        clear hc
        generalize at0 ow k = x at *
        by_cases hx : x = 0
        · subst hx
          have HR := Lib.hid (show nz (ow.take (k + 1)) = nz (ow.take k) by rw [HS.out]; simp)
          have HO := Lib.hid hO
          clear hO
          go_wp2
          go_roundw
          case rel => exact ⟨k + 1, v, by omega, rfl, by go_num, by rw [HR.out]; exact HO.out, hW⟩
          case measure => (simp [intOf]) <;> omega
        · have HR := Lib.hid (show nz (ow.take (k + 1)) = nz (ow.take k) ++ [x] by rw [HS.out, if_neg hx])
          have hxb : (x == 0) = false := by rw [beq_eq_false_iff_ne]; exact hx
          have hsz := hW.size
          unfold OI at hO
          obtain ⟨n, hn⟩ : ∃ n, (nz (ow.take k)).length = n := ⟨_, rfl⟩
          rw [hn] at hO hnl
          have HN := Lib.hid hn
          clear hn
          go_wp2_with (at_builtin; refine wpList_app _ rfl _ _ 22 rfl int_EIM w.heap.size v n _ rfl (hO.alloc _) (some ⟨_, 0, none⟩) 1 1 [.int .i64 x] rfl rfl (rv_new _ _ _) (one1 _) (le_max (by omega)) (by omega) (by simp; omega) ?_; intro v3 w3 hO3 hg3 hv3)
          have hO4 := Lib.hid (oi_pushM HN.out hO3)
          have hb3 := Lib.hid (hW.trans (below_appM (w0 := w) hsz (hO.alloc _) hg3))
          clear hO3 hg3 hv3 hO
          go_roundw
          case rel => exact ⟨k + 1, _, by omega, rfl, by go_num, by rw [HR.out]; exact hO4.out, hb3.out⟩
          case measure => (simp [intOf]) <;> omega
      · obtain rfl : k = ow.length := by omega
        rw [List.take_length] at hO
        obtain ⟨A2, c2, rfl, hr2, -⟩ := OI.form hO
        have hnl := nz_len ow
        have HMN := Lib.hid (fun T hT => most_nz (T := T) HV.out hT)
        have HFL := Lib.hid (full_lt ow)
        have hcall := l5Groups_any A2 c2 (nz ow) wr hr2 (by omega) (nz_at HB.out)
        have HC := Lib.hid hcall
        clear hcall hO hr2
        obtain ⟨m, hm⟩ : ∃ m, (nz ow).length = m := ⟨_, rfl⟩
        rw [hm] at HMN HFL HC hnl ⊢
        have HM := Lib.hid hm
        clear hm
        go_wp2_with fail
        refine HC.out.mono ?_
        rintro e w2 ⟨v2, T, rfl, o2, hTl, hTT, hTB, b2⟩
        rw [HM.out] at hTl hTT
        have HR := Lib.hid (HMN.out _ hTT)
        obtain ⟨A3, c3, rfl, hr3, -⟩ := OI.form o2
        obtain ⟨f, hf⟩ : ∃ f, fullS ow = f := ⟨_, rfl⟩
        rw [hf] at HR HFL
        have hTl2 : T.length = f + 1 := by rw [hTl, ← HFL.out]
        have HTL := Lib.hid hTl2
        have hf7 : f ≤ 127 := by have h1 := HFL.out; have h2 : 2 ^ m ≤ 2 ^ 7 := Nat.pow_le_pow_right (by omega) (by omega); omega
        have hfi : (f : Int) < (f : Int) + 1 := by omega
        obtain ⟨b, off, rfl, hbl, hc⟩ := IS.at0_ hr3 (by omega)
        have e1 := hc f (by omega)
        rw [HR.out] at e1
        rw [hTl2]
        have hbel := below_step hW b2
        clear hTl2 hTl hTT hTB o2 hr3 hc hf HC
        go_wp2
        go_ret
        exact ⟨rfl, hbel⟩
end Go.Proofs.Ytgndokhehooplaa
