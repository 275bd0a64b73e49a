/-
  A part of the proof: an abstract run of the program, shown to be what the model does, and what it comes to.
-/
import Derived.Test.YtmfjfejjegemaaaGreatDoorWmT
set_option linter.unusedVariables false
set_option linter.unusedSimpArgs false
set_option linter.unnecessarySimpa false
set_option linter.defProp false
set_option linter.unusedSectionVars false
namespace Go.Wm
open Go
variable [GlobReq]
noncomputable section

section
variable {P : Program} {E : Env} {ops : Array Oper} {n : Nat} {Q : Exit → Act → World → Prop} {γ0 : Gh} {S0 S1 S' : St} {w0 : World} {T0 T' : Tm} {rs : List Rec} {base : Nat}

/-- where a drawn region stands when the operations of 'listed' have run -/
structure Mid (E : Env) (ops : Array Oper) (n : Nat) (rs : List Rec) (base : Nat) (T0 : Tm) (γ0 : Gh) (S1 : St) (w0 : World) (L : Array Bool) (γ : Gh) (w : World) (a : Act) : Prop where
  size : L.size = ops.size
  closed : ∀ (j : Nat) (o : Oper), ops[j]? = some o → L.getD j false = true → ∀ e ∈ o.after, Region.binds .any e = true → L.getD e.on false = true
  inv : Inv γ (putsS rs (fun k => L.getD k false) 0 S1) w
  ext : Ext S1.length γ0 S1 w0 γ (putsS rs (fun k => L.getD k false) 0 S1) w
  rt : RT n γ (putsS rs (fun k => L.getD k false) 0 S1) w (putsT ops.toList rs (fun k => L.getD k false) 0 T0) a
  holes : ∀ (i : Nat) (o : Oper), ops[i]? = some o → L.getD i false = false → ∀ j, j < needsMax E o.op →
    (putsS rs (fun k => L.getD k false) 0 S1)[atOf E ops.toList base i + j]? = some .dead ∧ γ.mu (atOf E ops.toList base i + j) = none

theorem idle_nil {r : Rec} (h : r.idle = true) : r.rd = [] ∧ r.wr = [] ∧ r.nd = 0 := by
  unfold Rec.idle at h
  simp at h
  exact ⟨h.1.1, h.1.2, h.2⟩
theorem via_spec {i j : Nat} {o : Oper} (ho : ops[j]? = some o) (h : via ops i j = true) : ∃ e ∈ o.after, Region.binds .any e = true ∧ direct ops i e.on = true := by
  unfold via at h
  simp only [ho, Array.any_eq_true] at h
  obtain ⟨k, hk, h⟩ := h
  simp at h
  exact ⟨o.after[k], Array.getElem_mem hk, h.1, h.2⟩
/-- one waits for the other -/
def waits (ops : Array Oper) (i j : Nat) : Prop := direct ops i j = true ∨ via ops i j = true
theorem apartRec_spec {i j : Nat} {p q : Rec} (h : apartRec ops i j p q = true) : (∀ x, x ∈ keysOf p.wr → x ∈ List.range' q.at_ q.nd → False) ∧ (waits ops i j ∨ ∀ x, x ∈ keysOf q.wr → x ∈ List.range' p.at_ p.nd → False) ∧
    (waits ops i j ∨ ((∀ x, x ∈ keysOf p.wr → x ∈ q.rd → False) ∧ (∀ x, x ∈ keysOf p.wr → x ∈ keysOf q.wr → False) ∧ (∀ x, x ∈ keysOf q.wr → x ∈ p.rd → False))) := by
  unfold apartRec at h
  simp only [Bool.and_eq_true] at h
  obtain ⟨h1, h2⟩ := h
  refine ⟨disjB_spec h1, ?_⟩
  split at h2
  · rename_i h
    simp only [Bool.and_eq_true, Bool.or_eq_true] at h
    rcases h with h | h
    · exact ⟨.inl (.inl h), .inl (.inl h)⟩
    · exact ⟨.inr (disjB_spec h.1), .inr ⟨disjB_spec h.2.1.1, disjB_spec h.2.1.2, disjB_spec h.2.2⟩⟩
  · exact ⟨.inl (.inr h2), .inl (.inr h2)⟩

theorem looks_tmp {o : Oper} {t : Tmp} (h : Operand.tmp t ∈ o.op.operands.toList) : t ∈ o.looksAt ops := by
  unfold Oper.looksAt
  exact List.mem_append_left _ (List.mem_filterMap.2 ⟨_, h, rfl⟩)
theorem looks_guard {o : Oper} {g : Nat} {b : Bool} {d : Tmp} (hg : o.guard = some (g, b)) (hd : (ops[g]?).bind (·.dst) = some d) : d ∈ o.looksAt ops := by
  unfold Oper.looksAt
  refine List.mem_append_right _ ?_
  simp [hg, hd]
theorem countP_le_of {p q : Nat → Bool} (h : ∀ k, p k = q k) (l : List Nat) : l.countP p = l.countP q := by
  rw [show p = q from funext h]

variable (hty : TyOk P E.ty) (hcall : CallOk P E)
include hty hcall
theorem mid_ok (hdst : ∀ (j : Nat) (o : Oper) k, ops[j]? = some o → o.dst = some k → k < n) (hpB : pairB ops = true) (hev : evOpsD E ops ops.toList base T0 S1 = some (T', S', rs)) (hck : checkD ops 0 [] rs = true)
    (hQ : ∀ γ w a, Inv γ S' w → Ext S1.length γ0 S1 w0 γ S' w → RT n γ S' w T' a → Q .normal a w) :
    ∀ (fuel : Nat) (L : Array Bool) (γ : Gh) (w : World) (a : Act), (List.range ops.size).countP (fun k => !L.getD k false) ≤ fuel → Mid E ops n rs base T0 γ0 S1 w0 L γ w a → wpAny P .any ops Q fuel L a w := by
  obtain ⟨hback, hpair⟩ := pairB_spec hpB
  obtain ⟨hlen, hTf, hSf, hrec⟩ := evOpsD_spec E ops ops.toList 0 base T0 S1 T' S' rs hev
  obtain ⟨_, happ⟩ := checkD_spec ops rs 0 [] hck
  have hget : ∀ (i : Nat), ops.toList[i]? = ops[i]? := fun i => by simp
  have hgd : ∀ (L : Array Bool) (i : Nat), L.size = ops.size → i < ops.size → L.getD i true = L.getD i false := fun L i h1 h2 => by simp [h1, h2]
  -- when nothing is ready, everything has run
  have hend : ∀ (L : Array Bool) (γ : Gh) (w : World) (a : Act), Mid E ops n rs base T0 γ0 S1 w0 L γ w a → Region.ready .any ops L = [] → Q .normal a w := fun L γ w a M hr => by
    have all : ∀ i, i < ops.size → L.getD i false = true := fun i => by
      induction i using Nat.strongRecOn with
      | _ i ih =>
        intro hi
        cases hL : L.getD i false with
        | true => rfl
        | false =>
          exfalso
          have : i ∈ Region.ready .any ops L := by
            rw [mem_ready]
            refine ⟨by rw [hgd L i M.size hi]; exact hL, ops[i], by simp [hi], fun e he hb => ?_⟩
            have := hback i ops[i] (by simp [hi]) e he hb
            exact ih e.on this (by omega)
          rw [hr] at this
          cases this
    have e1 : putsS rs (fun k => L.getD k false) 0 S1 = S' := by
      rw [hSf]
      apply List.ext_getElem?
      intro x
      refine putsS_congr rs 0 _ _ rfl fun j r hj _ => ?_
      have : j < rs.length := (List.getElem?_eq_some_iff.1 hj).1
      have : j < ops.size := by simpa [hlen] using this
      simp only [Nat.zero_add]
      exact all j this
    have e2 : ∀ i, T'.get i = (putsT ops.toList rs (fun k => L.getD k false) 0 T0).get i := fun i => by
      rw [hTf]
      refine putsT_congr ops.toList rs 0 _ _ rfl fun j o hj _ => ?_
      have : j < ops.toList.length := (List.getElem?_eq_some_iff.1 hj).1
      simp only [Nat.zero_add]
      exact (all j (by simpa using this)).symm
    have h1 := M.inv
    have h2 := M.ext
    have h3 := M.rt
    rw [e1] at h1 h2 h3
    exact hQ γ w a h1 h2 (h3.congr e2)
  intro fuel
  induction fuel with
  | zero =>
    intro L γ w a hf M
    have hr : Region.ready .any ops L = [] := by
      rw [List.eq_nil_iff_forall_not_mem]
      intro i hi
      rw [mem_ready] at hi
      obtain ⟨h1, o, ho, _⟩ := hi
      have hlt : i < ops.size := (Array.getElem?_eq_some_iff.1 ho).1
      have h0 : (List.range ops.size).countP (fun k => !L.getD k false) = 0 := by omega
      rw [List.countP_eq_zero] at h0
      have := h0 i (List.mem_range.2 hlt)
      rw [hgd L i M.size hlt] at h1
      simp [h1] at this
    exact ⟨hr, hend L γ w a M hr⟩
  | succ fuel ih =>
    intro L γ w a hf M
    refine ⟨hend L γ w a M, fun i hi => ?_⟩
    rw [mem_ready] at hi
    obtain ⟨hL, o, ho, hafter⟩ := hi
    have hlt : i < ops.size := (Array.getElem?_eq_some_iff.1 ho).1
    rw [hgd L i M.size hlt] at hL
    obtain ⟨r, hr, hrc⟩ := hrec i o (by rw [hget]; exact ho)
    simp only [Nat.zero_add] at hrc
    -- the listed set behind this step
    have hq : ∀ k, k ≠ i → (L.setIfInBounds i true).getD k false = L.getD k false := fun k hk => getD_set_ne false (Ne.symm hk)
    have hqi : (L.setIfInBounds i true).getD i false = true := by simp [M.size, hlt]
    have hcnt : (List.range ops.size).countP (fun k => !(L.setIfInBounds i true).getD k false) ≤ fuel := by
      have := countP_flip (p := fun k => !L.getD k false) (q := fun k => !(L.setIfInBounds i true).getD k false) (i := i) (by simp only [hL]; rfl) (by simp only [hqi]; rfl) (fun k hk => by simp only [hq k hk]) (List.range ops.size) List.nodup_range (List.mem_range.2 hlt)
      omega
    have hclosed : ∀ (j : Nat) (o : Oper), ops[j]? = some o → (L.setIfInBounds i true).getD j false = true → ∀ e ∈ o.after, Region.binds .any e = true → (L.setIfInBounds i true).getD e.on false = true := fun j oj hoj hj e he hb => by
      refine getD_set_true ?_
      by_cases hji : j = i
      · subst hji
        rw [ho] at hoj
        cases hoj
        exact hafter e he hb
      · exact M.closed j oj hoj (by rwa [hq j hji] at hj) e he hb
    -- a listed operation behind this one does not wait for it
    have hno : ∀ k (ok : Oper), ops[k]? = some ok → L.getD k false = true → direct ops i k = true → False := fun k ok hok hk hd => by
      obtain ⟨e, he, hb, rfl⟩ := direct_spec hok hd
      have := M.closed k ok hok hk e he hb
      rw [hL] at this
      cases this
    have hyes : ∀ k, direct ops k i = true → L.getD k false = true := fun k hd => by
      obtain ⟨e, he, hb, rfl⟩ := direct_spec ho hd
      exact hafter e he hb
    have hyesW : ∀ k, waits ops k i → L.getD k false = true := fun k hd => by
      rcases hd with hd | hd
      · exact hyes k hd
      · obtain ⟨e, he, hb, h2⟩ := via_spec ho hd
        have hL := hafter e he hb
        cases hm : ops[e.on]? with
        | none => unfold direct at h2; rw [hm] at h2; cases h2
        | some om =>
          obtain ⟨e2, he2, hb2, rfl⟩ := direct_spec hm h2
          exact M.closed e.on om hm hL e2 he2 hb2
    have hnoW : ∀ k (ok : Oper), ops[k]? = some ok → L.getD k false = true → waits ops i k → False := fun k ok hok hk hd => by
      rcases hd with hd | hd
      · exact hno k ok hok hk hd
      · obtain ⟨e, he, hb, h2⟩ := via_spec hok hd
        have hL := M.closed k ok hok hk e he hb
        cases hm : ops[e.on]? with
        | none => unfold direct at h2; rw [hm] at h2; cases h2
        | some om => exact hno e.on om hm hL h2
    have hokr : ∀ (k : Nat) (rk : Rec), rs[k]? = some rk → ∃ ok, ops[k]? = some ok := fun k rk hk => by
      have : k < rs.length := (List.getElem?_eq_some_iff.1 hk).1
      have : k < ops.size := by simpa [hlen] using this
      exact ⟨ops[k], by simp [this]⟩
    have hTS : (∀ (k : Nat) (o' : Oper), ops.toList[k]? = some o' → i < 0 + k → L.getD (0 + k) false = true → ∀ d, o.dst = some d → o'.dst ≠ some d) := fun k ok hk hik hLk d hd => by
      rw [hget] at hk
      simp only [Nat.zero_add] at hik hLk
      rcases hpair i k o ok hik ho hk with h1 | h1
      · exact absurd h1 (fun h1 => hno k ok hk hLk h1)
      · exact (Oper.apart_spec h1).2.1 d hd
    have hSS : (∀ (k : Nat) (r' : Rec), rs[k]? = some r' → i < 0 + k → L.getD (0 + k) false = true → ∀ x, x ∈ keysOf r.wr → x ∈ keysOf r'.wr → False) := fun k rk hk hik hLk x hx hx' => by
      simp only [Nat.zero_add] at hik hLk
      obtain ⟨ok, hok⟩ := hokr k rk hk
      cases hi1 : r.idle with
      | true => rw [(idle_nil hi1).2.1] at hx; cases hx
      | false =>
        cases hi2 : rk.idle with
        | true => rw [(idle_nil hi2).2.1] at hx'; cases hx'
        | false =>
          have := happ i k r rk hik hr hk hi1 hi2
          simp only [Nat.zero_add] at this
          rcases (apartRec_spec this).2.2 with h1 | h1
          · exact hnoW k ok hok hLk h1
          · exact h1.2.1 x hx hx'
    have hTadd : ∀ x, (putsT ops.toList rs (fun k => (L.setIfInBounds i true).getD k false) 0 T0).get x = ((putsT ops.toList rs (fun k => L.getD k false) 0 T0).put o.dst r.val).get x :=
      fun x => putsT_add x _ _ i r o hL hqi hq ops.toList rs 0 i T0 (by omega) (by rw [hget]; exact ho) hr hTS
    have hSadd : putsS rs (fun k => (L.setIfInBounds i true).getD k false) 0 S1 = applyW (putsS rs (fun k => L.getD k false) 0 S1) r.wr :=
      putsS_add rs _ _ i r hL hqi hq 0 i S1 (by omega) hr hSS
    -- what it looks at stands as in the lexical order
    have hTlook : ∀ t, t ∈ o.looksAt ops → (putsT ops.toList rs (fun k => decide (k < i)) 0 T0).get t = (putsT ops.toList rs (fun k => L.getD k false) 0 T0).get t := fun t ht =>
      putsT_congr ops.toList rs 0 _ _ rfl fun k ok hk hd => by
        rw [hget] at hk
        simp only [Nat.zero_add]
        rcases Nat.lt_trichotomy k i with h | h | h
        · have : L.getD k false = true := by
            rcases hpair k i ok o h hk ho with h1 | h1
            · exact hyes k h1
            · exact absurd ht ((Oper.apart_spec h1).1 t hd)
          simp [h, this]
        · subst h
          rw [hL]; simp
        · have : L.getD k false = false := by
            cases hLk : L.getD k false with
            | false => rfl
            | true =>
              rcases hpair i k o ok h ho hk with h1 | h1
              · exact absurd h1 (fun h1 => hno k ok hk hLk h1)
              · exact absurd ht ((Oper.apart_spec h1).2.2 t hd)
          rw [this]
          simp
          omega
    have hSlook : ∀ x, x ∈ r.rd → (putsS rs (fun k => decide (k < i)) 0 S1)[x]? = (putsS rs (fun k => L.getD k false) 0 S1)[x]? := fun x hx =>
      putsS_congr rs 0 _ _ rfl fun k rk hk hkx => by
        simp only [Nat.zero_add]
        obtain ⟨ok, hok⟩ := hokr k rk hk
        have hi1 : r.idle = false := by
          cases hi1 : r.idle with
          | true => rw [(idle_nil hi1).1] at hx; cases hx
          | false => rfl
        have hi2 : rk.idle = false := by
          cases hi2 : rk.idle with
          | true => rw [(idle_nil hi2).2.1] at hkx; cases hkx
          | false => rfl
        rcases Nat.lt_trichotomy k i with h | h | h
        · have : L.getD k false = true := by
            have := happ k i rk r h hk hr hi2 hi1
            simp only [Nat.zero_add] at this
            rcases (apartRec_spec this).2.2 with h1 | h1
            · exact hyesW k h1
            · exact (h1.1 x hkx hx).elim
          simp [h, this]
        · subst h
          rw [hL]; simp
        · have : L.getD k false = false := by
            cases hLk : L.getD k false with
            | false => rfl
            | true =>
              have := happ i k r rk h hr hk hi1 hi2
              simp only [Nat.zero_add] at this
              rcases (apartRec_spec this).2.2 with h1 | h1
              · exact (hnoW k ok hok hLk h1).elim
              · exact (h1.2.2 x hkx hx).elim
          rw [this]
          simp
          omega
    generalize hTi : putsT ops.toList rs (fun k => decide (k < i)) 0 T0 = Ti at hrc hTlook
    generalize hSi : putsS rs (fun k => decide (k < i)) 0 S1 = Si at hrc hSlook
    -- the step's frame
    have hholes : ∀ γ' w', Ext (putsS rs (fun k => L.getD k false) 0 S1).length γ (putsS rs (fun k => L.getD k false) 0 S1) w γ' (applyW (putsS rs (fun k => L.getD k false) 0 S1) r.wr) w' →
        ∀ (k : Nat) (ok : Oper), ops[k]? = some ok → (L.setIfInBounds i true).getD k false = false → ∀ j, j < needsMax E ok.op →
          (applyW (putsS rs (fun k => L.getD k false) 0 S1) r.wr)[atOf E ops.toList base k + j]? = some .dead ∧ γ'.mu (atOf E ops.toList base k + j) = none := fun γ' w' hE k ok hok hk j hj => by
      have hki : k ≠ i := fun e => by subst e; rw [hqi] at hk; cases hk
      rw [hq k hki] at hk
      obtain ⟨g1, g2⟩ := M.holes k ok hok hk j hj
      obtain ⟨rk, hrk, hrck⟩ := hrec k ok (by rw [hget]; exact hok)
      have hnd : rk.at_ = atOf E ops.toList base k ∧ rk.nd = needsMax E ok.op := by
        simp only [recOf] at hrck
        split at hrck
        · rw [Option.bind_eq_some_iff] at hrck
          obtain ⟨_, _, hrck⟩ := hrck
          rw [Option.bind_eq_some_iff] at hrck
          obtain ⟨_, _, hrck⟩ := hrck
          split at hrck <;> cases hrck
          exact ⟨rfl, rfl⟩
        · rw [Option.bind_eq_some_iff] at hrck
          obtain ⟨_, _, hrck⟩ := hrck
          split at hrck
          · rw [Option.bind_eq_some_iff] at hrck
            obtain ⟨_, _, hrck⟩ := hrck
            rw [Option.bind_eq_some_iff] at hrck
            obtain ⟨_, _, hrck⟩ := hrck
            split at hrck <;> cases hrck
            exact ⟨rfl, rfl⟩
          · cases hrck
            exact ⟨rfl, rfl⟩
      have hmem : atOf E ops.toList base k + j ∈ List.range' rk.at_ rk.nd := by
        rw [List.mem_range'_1, hnd.1, hnd.2]
        omega
      have hi2 : rk.idle = false := by
        cases h : rk.idle with
        | true => have := (idle_nil h).2.2; omega
        | false => rfl
      have hoff : ∀ p ∈ r.wr, p.1 ≠ atOf E ops.toList base k + j := fun p hp e => by
        have hx : atOf E ops.toList base k + j ∈ keysOf r.wr := List.mem_map.2 ⟨p, hp, e⟩
        have hi1 : r.idle = false := by
          cases h : r.idle with
          | true => rw [(idle_nil h).2.1] at hp; cases hp
          | false => rfl
        rcases Nat.lt_or_gt_of_ne hki with h | h
        · have := happ k i rk r h hrk hr hi2 hi1
          rcases (apartRec_spec this).2.1 with h1 | h1
          · simp only [Nat.zero_add] at h1
            rw [hyesW k h1] at hk
            cases hk
          · exact h1 _ hx hmem
        · have := happ i k r rk h hr hrk hi1 hi2
          exact (apartRec_spec this).1 _ hx hmem
      have e := applyW_other hoff (S := putsS rs (fun k => L.getD k false) 0 S1)
      refine ⟨e.trans g1, ?_⟩
      have hlt' : atOf E ops.toList base k + j < (putsS rs (fun k => L.getD k false) 0 S1).length := (List.getElem?_eq_some_iff.1 g1).1
      exact (hE.obj _ _ hlt' g1 (e.trans g1)).trans g2
    have hd : ∀ k, o.dst = some k → k < n := fun k hk => hdst i o k ho hk
    have hlenL : (putsS rs (fun k => L.getD k false) 0 S1).length = S1.length := putsS_length _ _ _ _
    -- it goes on from there
    have hnext : ∀ γ' w' u, Inv γ' (applyW (putsS rs (fun k => L.getD k false) 0 S1) r.wr) w' → Ext (putsS rs (fun k => L.getD k false) 0 S1).length γ (putsS rs (fun k => L.getD k false) 0 S1) w γ' (applyW (putsS rs (fun k => L.getD k false) 0 S1) r.wr) w' →
        RV γ' (applyW (putsS rs (fun k => L.getD k false) 0 S1) r.wr) w' r.val u → wpAny P .any ops Q fuel (L.setIfInBounds i true) (a.put o.dst u) w' := fun γ' w' u k1 k2 k3 => by
      refine ih (L.setIfInBounds i true) γ' w' (a.put o.dst u) hcnt ⟨by simp [M.size], hclosed, ?_, ?_, ?_, ?_⟩
      · rw [hSadd]; exact k1
      · rw [hSadd]; exact M.ext.trans (k2.less (by omega))
      · rw [hSadd]; exact ((M.rt.mono k2).put hd k3).congr hTadd
      · rw [hSadd]; exact hholes γ' w' k2
    have hrun : ((footR E Si Ti o.op).bind fun rd => (evOp E (atOf E ops.toList base i) Ti Si o.op).bind fun q => if needs E Ti o.op ≤ needsMax E o.op then some (Rec.mk q.1 q.2 rd (atOf E ops.toList base i) (needsMax E o.op)) else none) = some r →
        o.wp P a w (wpAny P .any ops Q fuel (L.setIfInBounds i true)) Q := fun h => by
      rw [Option.bind_eq_some_iff] at h
      obtain ⟨rd, hrd, h⟩ := h
      rw [Option.bind_eq_some_iff] at h
      obtain ⟨⟨y, W⟩, he, h⟩ := h
      split at h <;> cases h
      rename_i hne
      have hops : ∀ t, Operand.tmp t ∈ o.op.operands.toList → Ti.get t = (putsT ops.toList rs (fun k => L.getD k false) 0 T0).get t := fun t ht => hTlook t (looks_tmp ht)
      rw [evOp_congr hops hrd hSlook] at he
      rw [needs_congr hops] at hne
      exact evOp_ok hty hcall M.inv M.rt he (fun j hj => M.holes i o ho hL j (by omega)) fun u γ' w' k1 k2 k3 => hnext γ' w' u k1 k2 k3
    unfold wpOp
    simp only [ho]
    simp only [recOf] at hrc
    split at hrc
    · rename_i hg
      have : Region.wanted o (yielded ops a.tmps) = true := by simp [Region.wanted, hg]
      rw [if_pos this]
      exact .inl (hrun hrc)
    · rename_i j want hg
      rw [Option.bind_eq_some_iff] at hrc
      obtain ⟨b, hb, hrc⟩ := hrc
      have hb' : guardOf ops (putsT ops.toList rs (fun k => L.getD k false) 0 T0) j = some b := by
        rw [← hb]
        unfold guardOf
        cases hd : (ops[j]?).bind (·.dst) with
        | none => rfl
        | some d => simp only [hTlook d (looks_guard hg hd)]
      have hy := guard_ok M.rt hb'
      by_cases hbw : b = some want
      · subst hbw
        rw [if_pos rfl] at hrc
        have : Region.wanted o (yielded ops a.tmps) = true := by simp [Region.wanted, hg, hy]
        rw [if_pos this]
        exact .inl (hrun hrc)
      · rw [if_neg hbw] at hrc
        cases hrc
        have : Region.wanted o (yielded ops a.tmps) = false := by simp [Region.wanted, hg, hy, hbw]
        rw [this]
        simp only [Bool.false_eq_true, if_false]
        exact hnext γ w _ M.inv (Ext.refl (Nat.le_refl _)) .und

theorem draw_ok {id : Nat} (hm : P.follows .mixedOrders = true) (hdst : ∀ (j : Nat) (o : Oper) k, ops[j]? = some o → o.dst = some k → k < n) (hpB : pairB ops = true) {T : Tm} {S : St} {γ : Gh} {w : World} {a : Act}
    (h : evDraw E ops T S = some (T', S')) (hI : Inv γ S w) (hT : RT n γ S w T a)
    (hQ : ∀ γ' w' a', Inv γ' S' w' → Ext S.length γ S w γ' S' w' → RT n γ' S' w' T' a' → Q .normal a' w') : (Code.region id ops true).wp P Q a w := by
  unfold evDraw at h
  rw [Option.bind_eq_some_iff] at h
  obtain ⟨⟨T1, S1, rs⟩, hev, h⟩ := h
  simp only at h
  split at h <;> cases h
  rename_i hck
  refine wp_region_any hm ?_
  have hI1 : Inv γ S w.drew := hI.drew
  obtain ⟨γ1, h1, h2, h3⟩ := pad_ok hI1 (totalMax E ops.toList)
  have h2' := (Ext.drew hI).trans h2
  refine mid_ok hty hcall (γ0 := γ1) (w0 := w.drew) hdst hpB hev hck (fun γ' w' a' k1 k2 k3 => hQ γ' w' a' k1 (h2'.trans (k2.less (by simp [padS]))) k3) ops.size _ γ1 _ a ?_ ?_
  · exact Nat.le_trans (List.countP_le_length) (by simp)
  · have hz : ∀ k, (Array.replicate ops.size false).getD k false = false := fun k => by
      by_cases hk : k < ops.size <;> simp [hk]
    have e : putsS rs (fun k => (Array.replicate ops.size false).getD k false) 0 (padS S (totalMax E ops.toList)) = padS S (totalMax E ops.toList) := putsS_none _ _ _ _ fun k _ => hz k
    refine ⟨by simp, fun j o ho hj => (by rw [hz j] at hj; exact absurd hj (by decide)), (by rw [e]; exact h1), (by rw [e]; exact Ext.refl (Nat.le_refl _)), ?_, fun i o ho _ j hj => ?_⟩
    · rw [e, putsT_none _ _ _ _ _ (fun k _ => hz k)]
      exact hT.mono h2'
    · rw [e]
      have := atOf_range E ops.toList S.length i o (by simpa using ho)
      have := h3 (atOf E ops.toList S.length i - S.length + j) (by omega)
      rwa [show S.length + (atOf E ops.toList S.length i - S.length + j) = atOf E ops.toList S.length i + j by omega] at this
end
end
end Go.Wm
