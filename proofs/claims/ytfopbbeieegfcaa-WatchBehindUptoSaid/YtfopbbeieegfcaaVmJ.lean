/-
  A part of the proof: an abstract run of the program, shown to be what the model does, and what it comes to.
-/
import Derived.Test.YtfopbbeieegfcaaVmI
set_option linter.unusedVariables false
set_option linter.unusedSimpArgs false
set_option linter.unusedSectionVars false
set_option linter.unnecessarySimpa false
namespace Go.Vm
open Go

section
variable {P : Program} {ty : Nat → Option TI} (hty : TyOk P ty) {γ : Gh} {S : St} {w : World}

theorem asD_ok {x : V} {y : D} {v : Value} (h : asD x = some y) (hx : RV γ S w x v) : RD γ.fz w y v := by
  unfold asD at h
  split at h <;> cases h <;> cases hx <;> assumption

theorem asDs_ok : ∀ {xs : List V} {ys : List D}, asDs xs = some ys → ys.length = xs.length ∧ ∀ (j : Nat) (y : D), ys[j]? = some y → ∃ x, xs[j]? = some x ∧ asD x = some y
  | [], ys, h => by simp [asDs] at h; subst h; exact ⟨rfl, fun j y h => by simp at h⟩
  | x :: xs, ys, h => by
    simp only [asDs] at h
    cases hx : asD x with
    | none => simp [hx] at h
    | some y =>
      simp only [hx, Option.bind_some, Option.map_eq_some_iff] at h
      obtain ⟨zs, h, rfl⟩ := h
      obtain ⟨h1, h2⟩ := asDs_ok h
      refine ⟨by simp [h1], fun j z hz => ?_⟩
      cases j with
      | zero => simp at hz; subst hz; exact ⟨x, rfl, hx⟩
      | succ j => simp at hz; exact h2 j z hz

theorem optInt_ok {x : Option V} {v : Option Value} {r : Option Int} (h : optInt x = some r) (hx : ∀ y, x = some y → ∃ u, v = some u ∧ RV γ S w y u) (hn : x = none → v = none) :
    (r = none ∧ v = none) ∨ ∃ k n, r = some n ∧ v = some (.int k n) := by
  cases x with
  | none => simp [optInt] at h; exact .inl ⟨h.symm, hn rfl⟩
  | some y =>
    obtain ⟨u, rfl, hu⟩ := hx y rfl
    simp only [optInt, Option.map_eq_some_iff] at h
    obtain ⟨⟨k, n⟩, h, rfl⟩ := h
    unfold intOf at h
    split at h <;> cases h
    cases hu with
    | d _ _ hu => cases hu; exact .inr ⟨k, n, rfl, rfl⟩

theorem sliceBounds_ok (isSlice : Bool) (len cap : Nat) {lo hi mx : Option Value} {l h m : Option Int} (hl : (l = none ∧ lo = none) ∨ ∃ k n, l = some n ∧ lo = some (.int k n))
    (hh : (h = none ∧ hi = none) ∨ ∃ k n, h = some n ∧ hi = some (.int k n)) (hm : (m = none ∧ mx = none) ∨ ∃ k n, m = some n ∧ mx = some (.int k n))
    (h0 : 0 ≤ l.getD 0) (h1 : l.getD 0 ≤ h.getD len) (h2 : h.getD len ≤ m.getD cap) (h3 : m.getD cap ≤ cap) (h4 : m.isSome = true → h.isSome = true) :
    (Instr.sliceBounds isSlice len cap lo hi mx).run P w = .ok ((l.getD 0).toNat, (h.getD len).toNat, (m.getD cap).toNat) w := by
  rcases hl with ⟨rfl, rfl⟩ | ⟨k1, n1, rfl, rfl⟩ <;> rcases hh with ⟨rfl, rfl⟩ | ⟨k2, n2, rfl, rfl⟩ <;> rcases hm with ⟨rfl, rfl⟩ | ⟨k3, n3, rfl, rfl⟩ <;>
    simp only [Option.getD_none, Option.getD_some, Option.isSome_some, Option.isSome_none] at h0 h1 h2 h3 h4 <;>
    (try (simp at h4; done)) <;>
    simp only [Instr.sliceBounds, Sem.run_bind, Sem.run_pure, Result.andThen_ok, Option.getD_none, Option.getD_some, Option.isSome_none, Option.isSome_some, Int.toNat_natCast, Int.toNat_zero]
  all_goals
    first
      | rfl
      | (repeat (first | rw [run_sliceBound w _ _ _ _ (by omega) (by omega)] | simp only [Result.andThen_ok])
         done)

theorem sub_read {nn : Bool} {sz : Nat} {xs : List D} {a : Option Addr} {cap : Nat} (h : RD γ.fz w (.sl nn sz xs) (.slice a xs.length cap)) {l k m : Nat} (hl : l ≤ k) (hk : k ≤ xs.length) (hkm : k ≤ m) (hm : m ≤ cap) :
    RD γ.fz w (.sl nn sz ((xs.take k).drop l)) (.slice (if m = l then a else a.map (·.add (l * sz))) (k - l) (m - l)) := by
  have hlen : ((xs.take k).drop l).length = k - l := by simp; omega
  rcases h.sl_inv with ⟨rfl, rfl, e⟩ | ⟨rfl, a', cap', vs, e, hs, hcap, hmax, hsz, hc, hr⟩
  · cases e
    obtain rfl : m = 0 := by omega
    obtain rfl : k = 0 := by omega
    obtain rfl : l = 0 := by omega
    simp only [List.take_zero, List.drop_zero]
    simpa using RD.nils sz
  · cases e
    have hget : ∀ (i : Nat) (x : D), ((xs.take k).drop l)[i]? = some x → xs[l + i]? = some x := fun i x hx => by
      rw [List.getElem?_drop, List.getElem?_take] at hx
      split at hx
      · exact hx
      · cases hx
    have hmem : ∀ x ∈ (xs.take k).drop l, x ∈ xs := fun x hx => List.mem_of_mem_take (List.mem_of_mem_drop hx)
    by_cases hml : m = l
    · rw [if_pos hml]
      have he : (xs.take k).drop l = [] := List.eq_nil_of_length_eq_zero (by rw [hlen]; omega)
      rw [he]
      have h1 : k - l = ([] : List D).length := by simp; omega
      rw [h1]
      exact .sl sz [] a' _ vs (.inl rfl) (by simp) (by omega) (fun x hx => by cases hx) (fun i j hi => by simp at hi) (fun i j x y hx => by simp at hx)
    · rw [if_neg hml]
      rw [← hlen]
      simp only [Option.map_some]
      have hadd : xs = [] ∨ (a'.add (l * sz)) = ⟨a'.block, a'.off + l * sz, none⟩ := by
        rcases hs with h | h
        · exact .inl h
        · refine .inr ?_
          obtain ⟨b, o, s⟩ := a'
          simp only at h
          subst h
          rw [Addr.add_lit]
      refine .sl sz _ _ _ (fun i j => vs (l + i) j) ?_ (by rw [hlen]; omega) (by omega) (fun x hx => hsz x (hmem x hx)) (fun i j hi hj => ?_) (fun i j x y hx hy => hr (l + i) j x y (hget i x hx) hy)
      · rcases hadd with h | h
        · exact .inl (by rw [h]; simp)
        · exact .inr (by rw [h])
      · rcases hadd with h | h
        · rw [h] at hi; simp at hi
        · rw [h]
          simp only
          have := hc (l + i) j (by rw [hlen] at hi; omega) hj
          rw [Nat.add_mul] at this
          rw [show a'.off + l * sz + i * sz + j = a'.off + (l * sz + i * sz) + j by omega]
          exact this

include hty
theorem sliceV_ok {E : Env} (hE : E.ty = ty) {t : Nat} {x y : V} {lo hi mx : Option V} {v : Value} {lov hiv mxv : Option Value} (h : sliceV E t x lo hi mx = some y) (hx : RV γ S w x v)
    (h1 : ∀ z, lo = some z → ∃ u, lov = some u ∧ RV γ S w z u) (h1' : lo = none → lov = none) (h2 : ∀ z, hi = some z → ∃ u, hiv = some u ∧ RV γ S w z u) (h2' : hi = none → hiv = none)
    (h3 : ∀ z, mx = some z → ∃ u, mxv = some u ∧ RV γ S w z u) (h3' : mx = none → mxv = none) :
    ∃ u, (Instr.sliceAt t v lov hiv mxv).run P w = .ok u w ∧ RV γ S w y u := by
  subst hE
  unfold sliceV at h
  cases hl : optInt lo with
  | none => simp [hl] at h
  | some l =>
    cases hh : optInt hi with
    | none => simp [hl, hh] at h
    | some k =>
      cases hm : optInt mx with
      | none => simp [hl, hh, hm] at h
      | some m =>
        simp only [hl, hh, hm, Option.bind_some] at h
        have g1 := optInt_ok hl h1 h1'
        have g2 := optInt_ok hh h2 h2'
        have g3 := optInt_ok hm h3 h3'
        split at h
        · rename_i s
          cases ht : E.ty t with
          | none => simp [ht] at h
          | some i =>
            simp only [ht, Option.bind_some] at h
            split at h <;> first | (cases h; done) | skip
            rename_i hd
            have hP := hty.desc ht
            rw [hd] at hP
            simp only [descOk] at hP
            split at hP <;> first | (cases hP; done) | skip
            rename_i hu
            unfold sliceStr at h
            cases m with
            | some m => simp at h
            | none =>
              simp only at h
              split at h <;> first | (cases h; done) | skip
              split at h <;> first | (cases h; done) | skip
              split at h <;> first | (cases h; done) | skip
              rename_i c1 c2 c3
              cases h
              cases hx with
              | d _ _ hx =>
                cases hx
                have hb := sliceBounds_ok (P := P) (w := w) false s.size s.size g1 g2 (m := none) (mx := none) (.inl ⟨rfl, rfl⟩) c1 c2 (by simpa using c3) (by simp) (by simp)
                rcases g3 with ⟨_, rfl⟩ | ⟨_, _, h, _⟩
                · exact ⟨_, by simp [Instr.sliceAt, Instr.slice, run_underlying hu, hb], .d _ _ (.str _)⟩
                · cases h
        · cases hr : sliceOf x with
          | none => simp [hr] at h
          | some r =>
            obtain ⟨nn, sz, xs⟩ := r
            unfold Env.elem at h
            cases ht : E.ty t with
            | none => simp [hr, ht] at h
            | some ti =>
              simp only [hr, ht, Option.bind_some] at h
              cases hd : ti.desc <;> rw [hd] at h <;> simp only [Option.bind_none, Option.bind_some] at h <;> first | (cases h; done) | skip
              rename_i e es eb
              unfold sliceSl at h
              simp only at h
              split at h <;> first | (cases h; done) | skip
              rename_i hsz
              subst hsz
              have hu := (hty.slice ht hd).1
              have hs := hty.sliceSize ht hd w
              have hrd := sliceOf_ok hr hx
              obtain ⟨a, cap, rfl, hcap⟩ : ∃ a cap, v = .slice a xs.length cap ∧ xs.length ≤ cap := by
                rcases hrd.sl_inv with ⟨_, rfl, rfl⟩ | ⟨_, a, cap, vs, rfl, _, hcap, _⟩
                · exact ⟨none, 0, rfl, Nat.le_refl _⟩
                · exact ⟨_, _, rfl, hcap⟩
              split at h <;> first | (cases h; done) | skip
              split at h <;> first | (cases h; done) | skip
              rename_i c1 c2
              cases m with
              | none =>
                simp only at h
                split at h <;> first | (cases h; done) | skip
                rename_i c3
                cases h
                have hb := sliceBounds_ok (P := P) (w := w) true xs.length cap g1 g2 (m := none) (mx := none) (.inl ⟨rfl, rfl⟩) c1 c2 (by simp only [Option.getD_none]; omega) (by simp) (by simp)
                have hsub := sub_read hrd (l := (l.getD 0).toNat) (k := (k.getD xs.length).toNat) (m := cap) (by omega) (by omega) (by omega) (Nat.le_refl _)
                rcases g3 with ⟨_, rfl⟩ | ⟨_, _, h, _⟩
                · refine ⟨_, ?_, .d _ _ hsub⟩
                  simp [Instr.sliceAt, Instr.slice, run_underlying hu, hb, hs]
                · cases h
              | some m =>
                simp only at h
                split at h <;> first | (cases h; done) | skip
                split at h <;> first | (cases h; done) | skip
                rename_i c3 c4
                subst c3
                cases h
                simp only [Option.getD_some] at c2
                have hb := sliceBounds_ok (P := P) (w := w) true xs.length cap g1 g2 g3 c1 (by simpa using c2) (by simp) (by simp only [Option.getD_some]; omega) (by simp)
                have hsub := sub_read hrd (l := (l.getD 0).toNat) (k := m.toNat) (m := m.toNat) (by omega) (by omega) (Nat.le_refl _) (by omega)
                have hlen : ((xs.take m.toNat).drop (l.getD 0).toNat).length = m.toNat - (l.getD 0).toNat := by simp; omega
                refine ⟨.slice (if m.toNat = (l.getD 0).toNat then a else a.map (·.add ((l.getD 0).toNat * es))) (m.toNat - (l.getD 0).toNat) (m.toNat - (l.getD 0).toNat), ?_, ?_⟩
                · simp [Instr.sliceAt, Instr.slice, run_underlying hu, hb, hs]
                · rw [← hlen] at hsub ⊢
                  exact .fsl _ _ _ _ hsub

end
end Go.Vm
