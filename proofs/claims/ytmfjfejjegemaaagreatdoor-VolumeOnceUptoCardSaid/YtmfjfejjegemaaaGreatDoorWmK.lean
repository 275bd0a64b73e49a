/-
  A part of the proof: an abstract run of the program, shown to be what the model does, and what it comes to.
-/
import Derived.Test.YtmfjfejjegemaaaGreatDoorWmJ
set_option linter.unusedVariables false
set_option linter.unusedSimpArgs false
set_option linter.unnecessarySimpa false
set_option linter.defProp false
set_option linter.unusedSectionVars false
namespace Go.Wm
open Go
variable [GlobReq]

theorem fill_enum (sz : Nat) : ∀ (ps : List (Nat × Value)) (s : Nat) (cs : Array Value), ps.map (·.1) = (List.range ps.length).map (s + ·) → (∀ p ∈ ps, p.2.cells.size = sz) → (s + ps.length) * sz ≤ cs.size →
    ∃ r : Array Value, Instr.fill (fun i => some (i * sz, sz)) cs ps = some r ∧ r.toList = cs.toList.take (s * sz) ++ ps.flatMap (·.2.cells.toList) ++ cs.toList.drop ((s + ps.length) * sz)
  | [], s, cs, _, _, _ => ⟨cs, rfl, by simp⟩
  | (i, v) :: ps, s, cs, hi, hs, hl => by
    simp only [List.map_cons, List.length_cons, List.range_succ_eq_map, List.map_map, List.cons.injEq, Nat.add_zero] at hi
    obtain ⟨rfl, hi⟩ := hi
    have hv : v.cells.size = sz := hs (i, v) (by simp)
    have hl' : i * sz + sz + ps.length * sz ≤ cs.size := by
      have := hl
      simp only [List.length_cons] at this
      have e : (i + (ps.length + 1)) * sz = i * sz + sz + ps.length * sz := by rw [Nat.add_mul, Nat.add_mul, Nat.one_mul]; omega
      omega
    have hset := foldl_set_list (i * sz) v.cells cs (by omega)
    obtain ⟨r, h1, h2⟩ := fill_enum sz ps (i + 1) (v.cells.zipIdx.foldl (fun cs (c, j) => cs.setIfInBounds (i * sz + j) c) cs) (by
      rw [hi]
      apply List.map_congr_left
      intro a _
      simp only [Function.comp]
      omega) (fun p hp => hs p (List.mem_cons_of_mem _ hp)) (by
        have e : (v.cells.zipIdx.foldl (fun cs (c, j) => cs.setIfInBounds (i * sz + j) c) cs).size = cs.size := by
          have := congrArg List.length hset
          simp only [Array.length_toList, List.length_append, List.length_take, List.length_drop] at this
          rw [this]; omega
        rw [e]
        have : (i + 1 + ps.length) * sz = i * sz + sz + ps.length * sz := by rw [Nat.add_mul, Nat.add_mul, Nat.one_mul]
        omega)
    refine ⟨r, ?_, ?_⟩
    · unfold Instr.fill
      simp only [ne_eq, Bool.or_eq_true, decide_eq_true_eq]
      rw [if_neg (by omega)]
      exact h1
    · rw [h2, hset]
      have e0 : (cs.toList.take (i * sz)).length = i * sz := by simp; omega
      have e1 : (i + 1) * sz = i * sz + sz := by rw [Nat.add_mul, Nat.one_mul]
      have e2 : (cs.toList.take (i * sz) ++ v.cells.toList).length = (i + 1) * sz := by rw [List.length_append, e0, e1, Array.length_toList, hv]
      rw [← e2, List.take_left, List.flatMap_cons]
      simp only [List.append_assoc]
      congr 3
      have e3 : (i + 1 + ps.length) * sz = (cs.toList.take (i * sz)).length + (v.cells.toList.length + ps.length * sz) := by
        have e4 : v.cells.toList.length = sz := by rw [Array.length_toList]; exact hv
        rw [e0, e4, Nat.add_mul, Nat.add_mul, Nat.one_mul]; omega
      rw [e3, List.drop_append, List.drop_of_length_le (by omega), Nat.add_sub_cancel_left, List.nil_append, List.drop_append, List.drop_of_length_le (by omega), Nat.add_sub_cancel_left, List.nil_append, List.drop_drop]
      congr 1
      rw [hv, List.length_cons, Nat.add_mul, Nat.add_mul, Nat.one_mul]
      omega

theorem flatMap_get {sz : Nat} : ∀ (us : List Value) (_ : ∀ u ∈ us, u.cells.size = sz) (i j : Nat), j < sz → (us.flatMap (·.cells.toList))[i * sz + j]? = (us[i]?).bind fun u => u.cells[j]?
  | [], _, i, j, _ => by simp
  | u :: us, h, i, j, hj => by
    have hu := h u (by simp)
    rw [List.flatMap_cons]
    cases i with
    | zero => rw [List.getElem?_append_left (by rw [Array.length_toList]; omega)]; simp
    | succ i =>
      rw [List.getElem?_append_right (by rw [Array.length_toList, Nat.add_mul, Nat.one_mul]; omega)]
      rw [Array.length_toList, hu, show (i + 1) * sz + j - sz = i * sz + j by rw [Nat.add_mul, Nat.one_mul]; omega]
      simpa using flatMap_get us (fun u hu => h u (List.mem_cons_of_mem _ hu)) i j hj


theorem flat_of {n sz : Nat} {r : Array Value} (h : r.size = n * sz) : flat n sz (fun i j => r.getD (i * sz + j) undef) = r.toList := by
  apply List.ext_getElem?
  intro k
  by_cases hk : k < n * sz
  · have h0 : 0 < sz := by
      rcases Nat.eq_zero_or_pos sz with rfl | h0
      · simp at hk
      · exact h0
    have hd := Nat.div_add_mod k sz
    rw [Nat.mul_comm] at hd
    have hlt : k < r.size := by omega
    simp [flat, List.getElem?_range hk, hd, hlt]
  · rw [List.getElem?_eq_none (by rw [flat_length]; omega), List.getElem?_eq_none (by simp; omega)]

section
variable {P : Program} {ty : Nat → Option TI} (hty : TyOk P ty) {γ : Gh} {S : St} {w : World}

theorem optInt_ok {x : Option V} {v : Option Value} {r : Option Int} (h : optInt x = some r) (hx : ∀ y, x = some y → ∃ u, v = some u ∧ RV γ S w y u) (hn : x = none → v = none) :
    (r = none ∧ v = none) ∨ ∃ k n, r = some n ∧ v = some (.int k n) := by
  cases x with
  | none => simp [optInt] at h; exact .inl ⟨h.symm, hn rfl⟩
  | some y =>
    obtain ⟨u, rfl, hu⟩ := hx y rfl
    simp only [optInt, Option.map_eq_some_iff] at h
    obtain ⟨⟨k, n⟩, h, rfl⟩ := h
    unfold intOf at h
    split at h <;> cases h
    cases hu with
    | d _ _ hu => cases hu; exact .inr ⟨k, n, rfl, rfl⟩

theorem sliceBounds_ok (isSlice : Bool) (len cap : Nat) {lo hi mx : Option Value} {l h m : Option Int} (hl : (l = none ∧ lo = none) ∨ ∃ k n, l = some n ∧ lo = some (.int k n))
    (hh : (h = none ∧ hi = none) ∨ ∃ k n, h = some n ∧ hi = some (.int k n)) (hm : (m = none ∧ mx = none) ∨ ∃ k n, m = some n ∧ mx = some (.int k n))
    (h0 : 0 ≤ l.getD 0) (h1 : l.getD 0 ≤ h.getD len) (h2 : h.getD len ≤ m.getD cap) (h3 : m.getD cap ≤ cap) (h4 : m.isSome = true → h.isSome = true) :
    (Instr.sliceBounds isSlice len cap lo hi mx).run P w = .ok ((l.getD 0).toNat, (h.getD len).toNat, (m.getD cap).toNat) w := by
  rcases hl with ⟨rfl, rfl⟩ | ⟨k1, n1, rfl, rfl⟩ <;> rcases hh with ⟨rfl, rfl⟩ | ⟨k2, n2, rfl, rfl⟩ <;> rcases hm with ⟨rfl, rfl⟩ | ⟨k3, n3, rfl, rfl⟩ <;>
    simp only [Option.getD_none, Option.getD_some, Option.isSome_some, Option.isSome_none] at h0 h1 h2 h3 h4 <;>
    (try (simp at h4; done)) <;>
    simp only [Instr.sliceBounds, Sem.run_bind, Sem.run_pure, Result.andThen_ok, Option.getD_none, Option.getD_some, Option.isSome_none, Option.isSome_some, Int.toNat_natCast, Int.toNat_zero]
  all_goals
    first
      | rfl
      | (repeat (first | rw [run_sliceBound w _ _ _ _ (by omega) (by omega)] | simp only [Result.andThen_ok])
         done)


theorem bounds_ok {n l h : Nat} {lo hi : Option Int} (hb : bounds n lo hi = some (l, h)) : 0 ≤ lo.getD 0 ∧ lo.getD 0 ≤ hi.getD n ∧ hi.getD n ≤ n ∧ l = (lo.getD 0).toNat ∧ h = (hi.getD n).toNat ∧ l ≤ h ∧ h ≤ n := by
  unfold bounds at hb
  split at hb <;> first | (cases hb; done) | skip
  split at hb <;> first | (cases hb; done) | skip
  split at hb <;> first | (cases hb; done) | skip
  rename_i h1 h2 h3
  simp only [Option.some.injEq, Prod.mk.injEq] at hb
  obtain ⟨rfl, rfl⟩ := hb
  exact ⟨h1, h2, h3, rfl, rfl, by omega, by omega⟩

theorem sub_read {sz : Nat} {xs : List D} {a : Option Addr} {cap : Nat} (hxs : ∀ x ∈ xs, x.cells.length = sz) (h : RD γ.fz w (.sl xs) (.slice a xs.length cap)) {l k m : Nat} (hl : l ≤ k) (hk : k ≤ xs.length) (hkm : k ≤ m) (hm : m ≤ cap) :
    RD γ.fz w (.sl ((xs.take k).drop l)) (.slice (if m = l then a else a.map (·.add (l * sz))) (k - l) (m - l)) := by
  have hlen : ((xs.take k).drop l).length = k - l := by simp; omega
  by_cases he : (xs.take k).drop l = []
  · rw [he]
    have h0 : k - l = ([] : List D).length := by rw [← hlen, he]
    rw [h0]
    have hcap : cap ≤ maxLen := by
      rcases h.sl_inv with ⟨_, e⟩ | ⟨_, _, cap', _, e, _, _, hmax, _⟩
      · injection e with e1 e2 e3; subst e3; exact Nat.zero_le _
      · injection e with e1 e2 e3; subst e3; exact hmax
    have hnone : a = none → cap = 0 := fun ha => by
      rcases h.sl_inv with ⟨_, e⟩ | ⟨_, _, _, _, e, _⟩
      · injection e with e1 e2 e3
      · injection e with e1 e2 e3; rw [ha] at e1; cases e1
    cases a with
    | none =>
      have := hnone rfl
      have e1 : m - l = 0 := by omega
      simp only [Option.map_none, ite_self, e1]
      exact .nils
    | some a =>
      by_cases hml : m = l
      · rw [if_pos hml]
        exact .sl sz [] a _ (fun _ _ => undef) (.inl rfl) (by simp) (by omega) (fun x hx => by cases hx) (fun i j hi => by simp at hi) (fun i j x y hx => by simp at hx)
      · rw [if_neg hml]
        exact .sl sz [] _ _ (fun _ _ => undef) (.inl rfl) (by simp) (by omega) (fun x hx => by cases hx) (fun i j hi => by simp at hi) (fun i j x y hx => by simp at hx)
  · rcases h.sl_inv with ⟨rfl, e⟩ | ⟨sz', a', cap', vs, e, hs, hcap, hmax, hsz, hc, hr⟩
    · simp at he
    · cases e
      have hne : xs ≠ [] := fun e => by subst e; simp at he
      obtain ⟨x0, r0, hx0⟩ := List.exists_cons_of_ne_nil hne
      obtain rfl : sz' = sz := by rw [← hxs x0 (by rw [hx0]; simp)]; exact (hsz x0 (by rw [hx0]; simp)).1.symm
      have hpos : 0 < k - l := by
        rw [← hlen]; exact List.length_pos_iff.2 he
      have hget : ∀ (i : Nat) (x : D), ((xs.take k).drop l)[i]? = some x → xs[l + i]? = some x := fun i x hx => by
        rw [List.getElem?_drop, List.getElem?_take] at hx
        split at hx
        · exact hx
        · cases hx
      have hmem : ∀ x ∈ (xs.take k).drop l, x ∈ xs := fun x hx => List.mem_of_mem_take (List.mem_of_mem_drop hx)
      rw [if_neg (by omega)]
      rw [← hlen]
      simp only [Option.map_some]
      have hadd : (a'.add (l * sz')) = ⟨a'.block, a'.off + l * sz', none⟩ := by
        rcases hs with h | h
        · exact absurd h hne
        · obtain ⟨b, o, s⟩ := a'
          simp only at h
          subst h
          rw [Addr.add_lit]
      refine .sl sz' _ _ _ (fun i j => vs (l + i) j) (.inr (by rw [hadd])) (by rw [hlen]; omega) (by omega) (fun x hx => hsz x (hmem x hx)) (fun i j hi hj => ?_) (fun i j x y hx hy => hr (l + i) j x y (hget i x hx) hy)
      rw [hadd]
      simp only
      have := hc (l + i) j (by rw [hlen] at hi; omega) hj
      rw [Nat.add_mul] at this
      rw [show a'.off + l * sz' + i * sz' + j = a'.off + (l * sz' + i * sz') + j by omega]
      exact this

/-- a piece of a frozen row is data -/
theorem fro_rd (hI : Inv γ S w) {o lo n e sz : Nat} {xs : List D} {v : Value} (ho : S[o]? = some (.fro e sz xs)) (hx : RV γ S w (.sl o lo n) v) : RD γ.fz w (.sl ((xs.drop lo).take n)) v := by
  have hrow : rowAt S o = some (e, sz, xs) := by simp [rowAt, ho, AObj.rowOf]
  obtain ⟨hle, h⟩ := hx.sl_row hrow
  have hlen : ((xs.drop lo).take n).length = n := by simp; omega
  rcases h with ⟨rfl, a, rfl⟩ | ⟨b, cap, cur, h1, rfl, h3, h4, h5, h6⟩
  · simp only [List.take_zero]
    cases a with
    | none => exact .nils
    | some a => exact .sl 0 [] a 0 (fun _ _ => undef) (.inl rfl) (by simp) (by simp) (fun x hx => by cases hx) (fun i j hi => by simp at hi) (fun i j x y hx => by simp at hx)
  · obtain ⟨⟨cur', g1, g2, g3, g4⟩, g5⟩ := (hI.obj o _ ho).2 b h1
    rw [h5] at g1
    cases g1
    have := RD.sl_mk (fz := γ.fz) (w := w) (sz := sz) (xs := (xs.drop lo).take n) (b := b) (off := lo * sz) (cap := cap) (vs := cellsAt cur sz lo) (by rw [hlen]; exact h3) h4
      (fun x hx => g2 x (List.mem_of_mem_drop (List.mem_of_mem_take hx)))
      (fun k u hk => by
        obtain ⟨i, j, hi, hj, rfl, rfl⟩ := flat_inv _ hk
        rw [hlen] at hi
        have hlt := idx_lt (n := xs.length) (i := lo + i) (by omega) hj
        have e1 : lo * sz + (i * sz + j) = (lo + i) * sz + j := by rw [Nat.add_mul]; omega
        rw [e1]
        refine ⟨g5 _ hlt, ?_⟩
        rw [cell_of_row w b _ cur e _ h5]
        have : (lo + i) * sz + j < cur.size := by omega
        simp [cellsAt, this])
      (fun i j x y hx hy => by
        obtain ⟨hx', _⟩ := take_drop_get hx
        obtain ⟨v, q1, q2⟩ := g4 (lo + i) j x y hx' hy
        simpa [cellsAt, q1] using q2)
    rwa [hlen] at this

/-- a row that nobody will write any more -/
theorem freeze_row (hI : Inv γ S w) {o e sz : Nat} {xs : List D} (hr : rowAt S o = some (e, sz, xs)) :
    ∃ γ', Inv γ' (S.set o (.fro e sz xs)) w ∧ Ext S.length γ S w γ' (S.set o (.fro e sz xs)) w ∧ γ'.mu = γ.mu := by
  obtain ⟨ob, ho, hro⟩ := rowAt_some hr
  have hlo := (List.getElem?_eq_some_iff.1 ho).1
  cases ob <;> simp only [AObj.rowOf, Option.some.injEq, Prod.mk.injEq, reduceCtorEq] at hro
  case fro e' sz' xs' =>
    obtain ⟨rfl, rfl, rfl⟩ := hro
    rw [set_same ho]
    exact ⟨γ, hI, Ext.refl (Nat.le_refl _), rfl⟩
  case row e' sz' xs' =>
    obtain ⟨rfl, rfl, rfl⟩ := hro
    have hok := hI.obj o _ ho
    cases hb : γ.mu o with
    | none =>
      have hxe := hok.1 hb
      subst hxe
      obtain ⟨h1, h2⟩ := renew (γ' := γ) (w' := w) hI ho (.fro e' sz' []) (fun _ _ => rfl) (fun b h => by rw [hb] at h; cases h) (fun _ _ => rfl) (Nat.le_refl _) (fun _ _ h => h) (fun _ _ h => .inl h) rfl rfl rfl
        (.inr ⟨rfl, fun b h => (by rw [hb] at h; cases h), [], Nat.le_refl _, .inr rfl⟩) (fun _ => ⟨fun _ => rfl, fun b h => (by rw [hb] at h; cases h)⟩)
      exact ⟨γ, h1, h2, rfl⟩
    | some b =>
      obtain ⟨⟨cur, g1, g2⟩, g3⟩ := hok.2 b hb
      let γ' : Gh := { mu := γ.mu, fz := fun c k => γ.fz c k ∨ (c = b ∧ k < xs'.length * sz'), gl := γ.gl }
      have he : Ext S.length γ S w γ' (S.set o (.fro e' sz' xs')) w :=
        Ext.setObj (γ' := γ') hI ho hb (fun _ _ => rfl) rfl (fun _ _ => rfl) (fun _ _ h => .inl h) (fun c k h => h.imp id fun h => h.1) (fun _ _ => rfl)
          (.inr ⟨rfl, fun b' _ => .refl, xs', Nat.le_refl _, .inr rfl⟩) rfl rfl rfl
      refine ⟨γ', Inv.setObj (γ' := γ') hI ho hb (fun _ _ => rfl) rfl (fun _ _ => rfl) (fun c k h => h.imp id fun h => ⟨h.1, ?_⟩) he ⟨fun hn => (by rw [show γ'.mu o = γ.mu o from rfl, hb] at hn; cases hn), fun b' hb' => ?_⟩, he, rfl⟩
      · rw [cell_of_row w b _ cur e' _ g1]
        have : k < cur.size := Nat.lt_of_lt_of_le h.2 g2.2.1
        exact ⟨cur[k], by simp [this]⟩
      · have : b' = b := by have h := hb'; simp only [γ', hb] at h; exact (Option.some.inj h).symm
        subst this
        exact ⟨⟨cur, g1, g2.mono he.fz he.cell⟩, fun k hk => .inr ⟨rfl, hk⟩⟩

theorem RV.sl_sub {o l n lo' n' : Nat} {v : Value} (hx : RV γ S w (.sl o l n) v) {e sz : Nat} {xs : List D} (hr : rowAt S o = some (e, sz, xs)) {p q : Nat} (h1 : p ≤ q) (h2 : q ≤ n) (hlo : lo' = l + p) (hn : n' = q - p) :
    ∃ a cap, v = .slice a n cap ∧ n ≤ cap ∧ RV γ S w (.sl o lo' n') (.slice (if cap = p then a else a.map (·.add (p * sz))) (q - p) (cap - p)) := by
  subst hlo hn
  obtain ⟨ob, ho, hro⟩ := rowAt_some hr
  obtain ⟨hle, h⟩ := hx.sl_row hr
  rcases h with ⟨rfl, a, rfl⟩ | ⟨b, cap, cur, g1, rfl, g3, g4, g5, g6⟩
  · obtain rfl : q = 0 := by omega
    obtain rfl : p = 0 := by omega
    refine ⟨a, 0, rfl, Nat.le_refl _, .sl o _ _ ob _ (.zero rfl) ho (.inr ⟨_, hro⟩) fun e1 sz1 xs1 hr1 => ?_⟩
    rw [hro] at hr1
    cases hr1
    exact ⟨by omega, .inl ⟨rfl, a, by simp⟩⟩
  · refine ⟨_, cap, rfl, g3, .sl o _ _ ob _ ⟨rfl, fun h => by rw [if_neg (by omega)]; exact ⟨_, _, _, rfl⟩⟩ ho (.inr ⟨_, hro⟩) fun e1 sz1 xs1 hr1 => ?_⟩
    rw [hro] at hr1
    cases hr1
    refine ⟨by omega, ?_⟩
    by_cases hcp : cap = p
    · rw [if_pos hcp]
      refine .inl ⟨by omega, some ⟨b, l * sz, none⟩, ?_⟩
      have e1 : q - p = 0 := by omega
      have e2 : cap - p = 0 := by omega
      rw [e1, e2]
    · rw [if_neg hcp]
      refine .inr ⟨b, cap - p, cur, g1, ?_, by omega, by omega, g5, ?_⟩
      · simp [Addr.add_lit, Nat.add_mul]
      · rw [← g6]
        congr 1
        omega

include hty
theorem sliceV_ok (hI : Inv γ S w) {E : Env} (hE : E.ty = ty) {t : Nat} {x y : V} {lo hi mx : Option V} {v : Value} {lov hiv mxv : Option Value} {W : List (Nat × AObj)} (h : sliceV E t S x lo hi mx = some (y, W)) (hx : RV γ S w x v)
    (h1 : ∀ z, lo = some z → ∃ u, lov = some u ∧ RV γ S w z u) (h1' : lo = none → lov = none) (h2 : ∀ z, hi = some z → ∃ u, hiv = some u ∧ RV γ S w z u) (h2' : hi = none → hiv = none)
    (h3 : ∀ z, mx = some z → ∃ u, mxv = some u ∧ RV γ S w z u) (h3' : mx = none → mxv = none) :
    ∃ u γ', (Instr.sliceAt t v lov hiv mxv).run P w = .ok u w ∧ Inv γ' (applyW S W) w ∧ Ext S.length γ S w γ' (applyW S W) w ∧ RV γ' (applyW S W) w y u := by
  subst hE
  unfold sliceV at h
  cases hl : optInt lo with
  | none => simp [hl] at h
  | some l =>
    cases hh : optInt hi with
    | none => simp [hl, hh] at h
    | some k =>
      cases hm : optInt mx with
      | none => simp [hl, hh, hm] at h
      | some m =>
        simp only [hl, hh, hm, Option.bind_some] at h
        have g1 := optInt_ok hl h1 h1'
        have g2 := optInt_ok hh h2 h2'
        have g3 := optInt_ok hm h3 h3'
        have same : ∀ (u : Value), W = [] → (Instr.sliceAt t v lov hiv mxv).run P w = .ok u w → RV γ S w y u →
            ∃ u γ', (Instr.sliceAt t v lov hiv mxv).run P w = .ok u w ∧ Inv γ' (applyW S W) w ∧ Ext S.length γ S w γ' (applyW S W) w ∧ RV γ' (applyW S W) w y u := fun u hW hr hv => by
          subst hW; exact ⟨u, γ, hr, hI, Ext.refl (Nat.le_refl _), hv⟩
        split at h
        · rename_i s
          cases ht : E.ty t with
          | none => simp [ht] at h
          | some i =>
            simp only [ht, Option.bind_some] at h
            split at h <;> first | (cases h; done) | skip
            rename_i hd
            have hP := hty.desc ht
            rw [hd] at hP
            simp only [descOk] at hP
            split at hP <;> first | (cases hP; done) | skip
            rename_i hu
            unfold sliceStr at h
            cases m with
            | some m => simp at h
            | none =>
              simp only [Option.map_eq_some_iff, Prod.mk.injEq] at h
              obtain ⟨z, ⟨p, hb, rfl⟩, rfl, rfl⟩ := h
              cases hx with
              | d _ _ hx =>
                cases hx with
                | str _ s' hs' =>
                  subst hs'
                  have hsz : s'.data.toList.length = s'.size := by rw [Array.length_toList]; rfl
                  rw [hsz] at hb
                  obtain ⟨c1, c2, c3, e1, e2, c4, c5⟩ := bounds_ok hb
                  have hb := sliceBounds_ok (P := P) (w := w) false s'.size s'.size g1 g2 (m := none) (mx := none) (.inl ⟨rfl, rfl⟩) c1 c2 (by simpa using c3) (by simp) (by simp)
                  rw [← e1, ← e2] at hb
                  rcases g3 with ⟨_, rfl⟩ | ⟨_, _, h, _⟩
                  · refine same (.string (s'.extract p.1 p.2)) rfl (by simp [Instr.sliceAt, Instr.slice, run_underlying hu, hb]) (.d _ _ (.str _ _ ?_))
                    simp [ByteArray.data_extract, List.extract_eq_drop_take']
                  · cases h
        · rename_i o lr n
          cases hr : rowAt S o with
          | none => simp [hr] at h
          | some r =>
            obtain ⟨e0, sz, xs⟩ := r
            unfold Env.elem at h
            cases ht : E.ty t with
            | none => simp [hr, ht] at h
            | some ti =>
              simp only [hr, ht, Option.bind_some] at h
              cases hd : ti.desc <;> rw [hd] at h <;> simp only [Option.bind_none, Option.bind_some] at h <;> first | (cases h; done) | skip
              rename_i e es eb
              split at h <;> first | (cases h; done) | skip
              rename_i hsz
              subst hsz
              cases hb : bounds n l k with
              | none => simp [hb] at h
              | some p =>
                simp only [hb, Option.bind_some] at h
                obtain ⟨c1, c2, c3, e1, e2, c4, c5⟩ := bounds_ok hb
                have hu := (hty.slice ht hd).1
                have hs := hty.sliceSize ht hd w
                obtain ⟨a, cap, rfl, hcap, hsub⟩ := hx.sl_sub hr c4 c5 (lo' := lr + p.1) (n' := p.2 - p.1) rfl rfl
                cases m with
                | none =>
                  simp only [Option.some.injEq, Prod.mk.injEq] at h
                  obtain ⟨rfl, rfl⟩ := h
                  have hb := sliceBounds_ok (P := P) (w := w) true n cap g1 g2 (m := none) (mx := none) (.inl ⟨rfl, rfl⟩) c1 c2 (by simp only [Option.getD_none]; omega) (by simp) (by simp)
                  rw [← e1, ← e2] at hb
                  rcases g3 with ⟨_, rfl⟩ | ⟨_, _, h, _⟩
                  · exact same _ rfl (by simp [Instr.sliceAt, Instr.slice, run_underlying hu, hb, hs]) hsub
                  · cases h
                | some m =>
                  simp only at h
                  split at h <;> first | (cases h; done) | skip
                  rename_i hkm
                  subst hkm
                  simp only [Option.some.injEq, Prod.mk.injEq] at h
                  obtain ⟨rfl, rfl⟩ := h
                  simp only [Option.getD_some] at c2 c3 e2
                  have hb := sliceBounds_ok (P := P) (w := w) true n cap g1 g2 g3 c1 (by simpa using c2) (by simp) (by simp only [Option.getD_some]; omega) (by simp)
                  simp only [Option.getD_some] at hb
                  rw [← e1, ← e2] at hb
                  by_cases hq : p.2 = p.1
                  · refine same (.slice a (p.2 - p.1) (p.2 - p.1)) rfl (by simp [Instr.sliceAt, Instr.slice, run_underlying hu, hb, hs, hq]) ?_
                    have h0 : p.2 - p.1 = 0 := by omega
                    rw [h0]
                    exact .csl0 _ _ _
                  · refine same (.slice (a.map (·.add (p.1 * es))) (p.2 - p.1) (p.2 - p.1)) rfl (by simp [Instr.sliceAt, Instr.slice, run_underlying hu, hb, hs, hq]) ?_
                    have hcp : ¬ cap = p.1 := by omega
                    rw [if_neg hcp] at hsub
                    exact .csl _ _ _ _ _ hsub
        · rename_i hn1 hn2
          cases hr : sliceOf S x with
          | none => simp [hr] at h
          | some xs =>
            unfold Env.elem at h
            cases ht : E.ty t with
            | none => simp [hr, ht] at h
            | some ti =>
              simp only [hr, ht, Option.bind_some] at h
              cases hd : ti.desc <;> rw [hd] at h <;> simp only [Option.bind_none, Option.bind_some] at h <;> first | (cases h; done) | skip
              rename_i e es eb
              split at h <;> first | (cases h; done) | skip
              rename_i hall
              have hszs : ∀ x ∈ xs, x.cells.length = es := fun x hx => by simpa using List.all_eq_true.1 hall x hx
              cases hb : bounds xs.length l k with
              | none => simp [hb] at h
              | some p =>
                simp only [hb, Option.bind_some] at h
                obtain ⟨c1, c2, c3, e1, e2, c4, c5⟩ := bounds_ok hb
                have hu := (hty.slice ht hd).1
                have hs := hty.sliceSize ht hd w
                have hrd := sliceOf_ok hr (fun o lo n e => hn2 o lo n e) hx
                obtain ⟨a, cap, rfl, hcap⟩ : ∃ a cap, v = .slice a xs.length cap ∧ xs.length ≤ cap := by
                  rcases hrd.sl_inv with ⟨rfl, rfl⟩ | ⟨_, a, cap, vs, rfl, _, hcap, _⟩
                  · exact ⟨none, 0, rfl, Nat.le_refl _⟩
                  · exact ⟨_, _, rfl, hcap⟩
                cases m with
                | none =>
                  simp only [Option.some.injEq, Prod.mk.injEq] at h
                  obtain ⟨rfl, rfl⟩ := h
                  have hb := sliceBounds_ok (P := P) (w := w) true xs.length cap g1 g2 (m := none) (mx := none) (.inl ⟨rfl, rfl⟩) c1 c2 (by simp only [Option.getD_none]; omega) (by simp) (by simp)
                  rw [← e1, ← e2] at hb
                  have hsub := sub_read hszs hrd (l := p.1) (k := p.2) (m := cap) c4 c5 (by omega) (Nat.le_refl _)
                  rcases g3 with ⟨_, rfl⟩ | ⟨_, _, h, _⟩
                  · exact same _ rfl (by simp [Instr.sliceAt, Instr.slice, run_underlying hu, hb, hs]) (.d _ _ hsub)
                  · cases h
                | some m =>
                  simp only at h
                  split at h <;> first | (cases h; done) | skip
                  rename_i hkm
                  subst hkm
                  simp only [Option.some.injEq, Prod.mk.injEq] at h
                  obtain ⟨rfl, rfl⟩ := h
                  simp only [Option.getD_some] at c2 c3 e2
                  have hb := sliceBounds_ok (P := P) (w := w) true xs.length cap g1 g2 g3 c1 (by simpa using c2) (by simp) (by simp only [Option.getD_some]; omega) (by simp)
                  simp only [Option.getD_some] at hb
                  rw [← e1, ← e2] at hb
                  have hsub := sub_read hszs hrd (l := p.1) (k := p.2) (m := p.2) c4 c5 (Nat.le_refl _) (by omega)
                  have hlen : ((xs.take p.2).drop p.1).length = p.2 - p.1 := by simp; omega
                  refine same (.slice (if p.2 = p.1 then a else a.map (·.add (p.1 * es))) (p.2 - p.1) (p.2 - p.1)) rfl ?_ ?_
                  · simp [Instr.sliceAt, Instr.slice, run_underlying hu, hb, hs]
                  · rw [← hlen] at hsub ⊢
                    exact .fsl _ _ hsub

end
end Go.Wm
