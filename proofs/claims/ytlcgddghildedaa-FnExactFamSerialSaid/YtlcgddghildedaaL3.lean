/- The laws of code, functions and arguments; no condition beyond those that each theorem states. -/
import Derived.Test.YtlcgddghildedaaL2
import Derived.Deep.LoopGhost
import Derived.ProofKit
set_option linter.unusedVariables false
set_option linter.unusedSimpArgs false
namespace PM
open Go

/-! ## States that read alike -/
def SEq (σ τ : S) : Prop := (∀ t, find σ.tmps t = find τ.tmps t) ∧ ∀ κ, find σ.objs κ = find τ.objs κ
theorem SEq.refl (σ : S) : SEq σ σ := ⟨fun _ => rfl, fun _ => rfl⟩
theorem SEq.symm {σ τ : S} (h : SEq σ τ) : SEq τ σ := ⟨fun t => (h.1 t).symm, fun t => (h.2 t).symm⟩
theorem SEq.trans {σ τ υ : S} (h : SEq σ τ) (g : SEq τ υ) : SEq σ υ := ⟨fun t => (h.1 t).trans (g.1 t), fun t => (h.2 t).trans (g.2 t)⟩

section
variable {P : Program} {cx : Cx} {F : Fr} {ι ι' : Im} {σ τ : S} {a : Act} {w w' : World} {objs objs' : Obs}

theorem Sim.seq (h : SEq σ τ) (s : Sim cx F ι σ a w) : Sim cx F ι τ a w ∧ Ext ι σ.objs w ι τ.objs w := by
  have e : Ext ι σ.objs w ι τ.objs w := Ext.same fun o => (h.2 o).symm
  exact ⟨⟨s.defers, s.size, fun t x hx => VR.ext e (s.tmps t x ((h.1 t).trans hx)), s.heap.same fun o => (h.2 o).symm, s.pin⟩, e⟩

/-- Drawing an order leaves memory as it is. -/
theorem Sim.drew (s : Sim cx F ι σ a w) (n : Nat) : Sim cx F ι σ a { w with drawn := n } ∧ Ext ι σ.objs w ι σ.objs { w with drawn := n } := by
  have e : Ext ι σ.objs w ι σ.objs { w with drawn := n } := by
    refine ⟨fun b hb => ⟨hb, rfl⟩, fun o ob ho => ⟨ob, ho, ?_⟩⟩
    cases ob with
    | box cs => exact ⟨⟨cs, rfl⟩, rfl⟩
    | arr fr a => exact ⟨fr, a, rfl, rfl, rfl, rfl⟩
    | dead => trivial
  refine ⟨⟨s.defers, s.size, fun t x hx => VR.ext e (s.tmps t x hx), ?_, s.pin⟩, e⟩
  have H := s.heap
  exact ⟨fun o ob ho => ObOK.ext e rfl rfl (fun _ _ => rfl) (H.obok o ob ho), H.inj, H.own, H.size, H.os, H.tape, H.output, H.keep, H.fresh, H.gd, H.gdF⟩

/-- May this temporary be written? -/
def DOk (F : Fr) (d : Nat) : Prop := d < F.n ∧ ∀ v, (d, v) ∉ F.pins
theorem Sim.put {dst : Option Nat} {v : V} {vv : Value} (s : Sim cx F ι τ a w) (A : After cx F ι τ.objs w ι' objs' w' v vv) (hd : ∀ d, dst = some d → DOk F d) :
    Sim cx F ι' ((⟨τ.tmps, objs'⟩ : S).put dst v) (a.put dst vv) w' := by
  have old : ∀ t x, find τ.tmps t = some x → VR cx w' (okOf w' objs' ι') objs' ι' x (a.tmps.getD t Go.undef) := fun t x hx => VR.ext A.ext (s.tmps t x hx)
  cases dst with
  | none => exact ⟨s.defers, s.size, old, A.heap, s.pin⟩
  | some d =>
    refine ⟨s.defers, by simpa [Act.put] using s.size, fun t x hx => ?_, A.heap, fun t u hu => ?_⟩
    have hx2 : (if d = t then some v else find τ.tmps t) = some x := by rw [← find_cons]; exact hx
    by_cases e : d = t
    · rw [if_pos e] at hx2
      subst e
      cases Option.some.inj hx2
      have hlt : d < a.tmps.size := by rw [s.size]; exact (hd d rfl).1
      rw [Array.getD_eq_getD_getElem?]
      simp only [Act.put]
      rw [Array.getElem?_setIfInBounds_self_of_lt hlt]
      exact A.val
    · rw [if_neg e] at hx2
      have := old t x hx2
      rw [Array.getD_eq_getD_getElem?] at this ⊢
      simp only [Act.put]
      rw [Array.getElem?_setIfInBounds_ne e]
      exact this
    · have e : d ≠ t := fun e => by subst e; exact (hd d rfl).2 u hu
      have := s.pin t u hu
      rw [Array.getD_eq_getD_getElem?] at this ⊢
      simp only [Act.put]
      rw [Array.getElem?_setIfInBounds_ne e]
      exact this
end

theorem put_objs (σ : S) (d : Option Nat) (v : V) : (σ.put d v).objs = σ.objs := by cases d <;> rfl
theorem put_find (σ : S) (d : Option Nat) (v : V) (t : Nat) : find (σ.put d v).tmps t = if d = some t then some v else find σ.tmps t := by
  cases d with
  | none => simp [S.put]
  | some q =>
    simp only [S.put, find_cons]
    by_cases e : q = t
    · subst e; simp
    · simp [e]
/-- Writing a temporary's own value again. -/
theorem put_same {σ : S} {t : Nat} {v : V} (h : find σ.tmps t = some v) : SEq σ (σ.put (some t) v) := by
  refine ⟨fun q => ?_, fun κ => rfl⟩
  rw [put_find]
  by_cases e : t = q
  · subst e; simp [h]
  · simp [e]

/-- What one operation does, from one state to another one. -/
def OpTo (P : Program) (cx : Cx) (ops : Array Oper) (i : Nat) (τ τ' : S) : Prop :=
  ∀ F ι a w Q (K : Act → World → Prop), Sim cx F ι τ a w → (∀ o d, ops[i]? = some o → o.dst = some d → DOk F d) →
    (∀ ι' a' w', Sim cx F ι' τ' a' w' → Ext ι τ.objs w ι' τ'.objs w' → K a' w') → wpOp P ops Q i K a w

section
variable {P : Program} {cx : Cx} {ops : Array Oper} {i : Nat} {o : Oper} {σ τ : S} {v : V} {n u : Obs}

theorem OpTo.seq {τ1 τ1' : S} (h : OpTo P cx ops i τ τ1) (e : SEq τ1 τ1') : OpTo P cx ops i τ τ1' := by
  intro F ι a w Q K hs hd hK
  refine h F ι a w Q K hs hd fun ι' a' w' hs' he' => ?_
  obtain ⟨h1, h2⟩ := hs'.seq e
  exact hK ι' a' w' h1 (he'.trans h2)

/-- Is the operation executed? -/
def Want (ops : Array Oper) (o : Oper) (τ : S) (b : Bool) : Prop :=
  ∀ cx F ι a w, Sim cx F ι τ a w → Region.wanted o (yielded ops a.tmps) = b

theorem OpTo.of_res (ho : ops[i]? = some o) (hw : Want ops o τ true) (hr : Res P cx o τ v n u) (hf : freshKeys τ.objs n = true) : OpTo P cx ops i τ ((⟨τ.tmps, u ++ (n ++ τ.objs)⟩ : S).put o.dst v) := by
  intro F ι a w Q K hs hd hK
  have hdst : ∀ d, o.dst = some d → DOk F d := fun d h => hd o d ho h
  unfold wpOp
  simp only [ho, hw cx F ι a w hs, if_true]
  refine .inl ?_
  unfold Oper.wp
  rcases hr F ι a w hs hf with ⟨vv, w', ι', h1, A⟩ | ⟨w', ι', h1, A⟩ | ⟨f, args, h1, h2⟩
  · rw [h1]
    exact hK ι' _ w' (hs.put A hdst) (by rw [put_objs]; exact A.ext)
  · rw [h1]
    exact hK ι' _ w' (hs.put A hdst) (by rw [put_objs]; exact A.ext)
  · rw [h1]
    refine h2.mono fun e w' he => ?_
    obtain ⟨vv, ι', rfl, A⟩ := he
    exact hK ι' _ w' (hs.put A hdst) (by rw [put_objs]; exact A.ext)

theorem OpTo.of_skip (ho : ops[i]? = some o) (hw : Want ops o τ false) : OpTo P cx ops i τ (τ.put o.dst .undef) := by
  intro F ι a w Q K hs hd hK
  have hdst : ∀ d, o.dst = some d → DOk F d := fun d h => hd o d ho h
  unfold wpOp
  simp only [ho, hw cx F ι a w hs, Bool.false_eq_true, if_false]
  have := hs.put (dst := o.dst) (v := .undef) (vv := Go.undef) ⟨hs.heap, Ext.refl, rfl⟩ hdst
  exact hK ι _ w this (by rw [put_objs]; exact Ext.refl)

theorem want_none (hg : o.guard = none) : Want ops o τ true := by
  intro cx F ι a w _
  simp [Region.wanted, hg]
theorem yielded_bool {all : List Oper} (hops : ops.toList = all) {j t : Nat} {oj : Oper} (hj : nth all j = some oj) (ht : oj.dst = some t) {b : Bool} {a : Act} (hb : a.tmps.getD t Go.undef = .bool b) : yielded ops a.tmps j = some b := by
  have h1 : ops[j]? = some oj := by rw [← hops, nth_eq] at hj; simpa using hj
  have h2 : a.tmps[t]? = some (.bool b) := by
    cases h : a.tmps[t]? with
    | none => rw [Array.getD_eq_getD_getElem?, h] at hb; cases hb
    | some x => rw [Array.getD_eq_getD_getElem?, h] at hb; simp at hb; rw [hb]
  simp [yielded, h1, ht, h2]
theorem yielded_undef {all : List Oper} (hops : ops.toList = all) {j t : Nat} {oj : Oper} (hj : nth all j = some oj) (ht : oj.dst = some t) {a : Act} (hb : a.tmps.getD t Go.undef = Go.undef) : yielded ops a.tmps j = none := by
  have h1 : ops[j]? = some oj := by rw [← hops, nth_eq] at hj; simpa using hj
  unfold yielded
  simp only [h1, Option.bind_some, ht]
  cases h : a.tmps[t]? with
  | none => rfl
  | some x => rw [Array.getD_eq_getD_getElem?, h] at hb; simp at hb; rw [hb]; rfl
theorem want_bool {all : List Oper} (hops : ops.toList = all) {j t : Nat} {oj : Oper} {want b : Bool} (hg : o.guard = some (j, want)) (hj : nth all j = some oj) (ht : oj.dst = some t) (hb : find τ.tmps t = some (.bool b)) : Want ops o τ (b == want) := by
  intro cx F ι a w hs
  have h1 : a.tmps.getD t Go.undef = .bool b := hs.tmps t _ hb
  simp only [Region.wanted, hg, yielded_bool hops hj ht h1]
  cases b <;> cases want <;> rfl
theorem want_undef {all : List Oper} (hops : ops.toList = all) {j t : Nat} {oj : Oper} {want : Bool} (hg : o.guard = some (j, want)) (hj : nth all j = some oj) (ht : oj.dst = some t) (hb : find τ.tmps t = some .undef) : Want ops o τ false := by
  intro cx F ι a w hs
  have h1 : a.tmps.getD t Go.undef = Go.undef := hs.tmps t _ hb
  simp only [Region.wanted, hg, yielded_undef hops hj ht h1]
  cases want <;> rfl
end

/-! ## Whole forms are what they were -/
theorem fC_eq (v : V) (k : V → R) : fC v k = k v := by
  cases v <;> try rfl
  rename_i a; cases a <;> rfl
theorem fCs_eq : ∀ (l : List V) (k : List V → R), fCs l k = k l
  | [], k => rfl
  | v :: l, k => by simp only [fCs, fC_eq, fCs_eq]
theorem fA_eq (v : V) (k : V → R) : fA v k = k v := by
  cases v <;> simp only [fA, fCs_eq, fC_eq]
theorem fAs_eq : ∀ (l : List V) (k : List V → R), fAs l k = k l
  | [], k => rfl
  | v :: l, k => by simp only [fAs, fA_eq, fAs_eq]
theorem fV_eq (v : V) (k : V → R) : fV v k = k v := by
  cases v <;> simp only [fV, fAs_eq, fA_eq]
theorem onBool_eq (b : Bool) (k : Bool → R) : onBool b k = k b := by cases b <;> rfl
theorem fB_eq (b : Ob) (k : Ob → R) : fB b k = k b := by
  cases b with
  | box cs => simp only [fB, fCs_eq]
  | arr fr a => cases a <;> simp only [fB, onBool_eq]
  | dead => rfl
theorem fT_eq : ∀ (l : List (Nat × V)) (k : List (Nat × V) → R), fT l k = k l
  | [], k => rfl
  | (t, v) :: l, k => by simp only [fT, fV_eq, fT_eq]
theorem fO_eq : ∀ (l : Obs) (k : Obs → R), fO l k = k l
  | [], k => rfl
  | (t, v) :: l, k => by simp only [fO, fB_eq, fO_eq]
theorem fS_eq (σ : S) (k : S → R) : fS σ k = k σ := by simp only [fS, fT_eq, fO_eq]
end PM

namespace PM
open Go

/-! ## Footprints -/
def AgF (f : Foot) (σ τ : S) : Prop := (∀ t, t ∈ f.rt ∨ t ∈ f.wt → find τ.tmps t = find σ.tmps t) ∧ ∀ κ, κ ∈ f.ro ∨ κ ∈ f.wo → find τ.objs κ = find σ.objs κ
structure OpF (P : Program) (cx : Cx) (ops : Array Oper) (i : Nat) (f : Foot) (σ σ1 : S) : Prop where
  frameT : ∀ t, t ∉ f.wt → find σ1.tmps t = find σ.tmps t
  frameO : ∀ κ, κ ∉ f.wo → find σ1.objs κ = find σ.objs κ
  run : ∀ τ, AgF f σ τ → ∃ τ1, OpTo P cx ops i τ τ1 ∧ (∀ t, t ∈ f.wt → find τ1.tmps t = find σ1.tmps t) ∧ (∀ t, t ∉ f.wt → find τ1.tmps t = find τ.tmps t) ∧
    (∀ κ, κ ∈ f.wo → find τ1.objs κ = find σ1.objs κ) ∧ ∀ κ, κ ∉ f.wo → find τ1.objs κ = find τ.objs κ

theorem mem_opTmps : ∀ {l : List Operand} {t : Nat}, Operand.tmp t ∈ l → t ∈ opTmps l
  | x :: l, t, h => by
    rcases List.mem_cons.1 h with h | h
    · subst h; simp [opTmps]
    · have := mem_opTmps h
      cases x <;> simp [opTmps, this]
theorem mem_refsOf {tmps : List (Nat × V)} {t : Nat} {v : V} (hv : find tmps t = some v) {κ : Nat} (hκ : κ ∈ refs1 [] v) : ∀ {l : List Nat}, t ∈ l → κ ∈ refsOf tmps l
  | x :: l, h => by
    simp only [refsOf]
    rcases List.mem_cons.1 h with h | h
    · subst h; rw [hv]; exact List.mem_append.2 (.inl hκ)
    · have := mem_refsOf hv hκ h
      split
      · exact List.mem_append.2 (.inr this)
      · exact this
theorem find_keys : ∀ {n : Obs} {κ : Nat}, κ ∉ keysOf n → find n κ = none
  | [], _, _ => rfl
  | (o, b) :: n, κ, h => by
    simp only [keysOf, List.mem_cons, not_or] at h
    rw [find_cons, if_neg fun e => h.1 e.symm]
    exact find_keys h.2
theorem keys_find : ∀ {n : Obs} {κ : Nat}, κ ∈ keysOf n → ∃ b, find n κ = some b
  | (o, b) :: n, κ, h => by
    rw [find_cons]
    by_cases e : o = κ
    · exact ⟨b, by rw [if_pos e]⟩
    · rw [if_neg e]
      simp only [keysOf, List.mem_cons] at h
      exact keys_find (h.resolve_left fun e' => e e'.symm)
theorem freshKeys_ag {objs objs' : Obs} : ∀ {n : Obs}, (∀ κ ∈ keysOf n, find objs' κ = find objs κ) → freshKeys objs' n = freshKeys objs n
  | [], _ => rfl
  | (o, b) :: n, h => by
    simp only [freshKeys, h o (by simp [keysOf]), freshKeys_ag (n := n) fun κ hκ => h κ (by simp [keysOf, hκ])]

section
variable {P : Program} {cx : Cx} {ops : Array Oper} {i : Nat} {o : Oper} {σ σ1 τ : S} {v : V} {n u : Obs}

/-- An operation that is executed. -/
theorem opF_run {gt : List Nat} {σg : S} (ho : ops[i]? = some o) (hσ : SEq σ σg) (hw : ∀ τ : S, (∀ t ∈ gt, find τ.tmps t = find σ.tmps t) → Want ops o τ true)
    (hs : ∀ τ, Ag o.op.operands.toList σg τ → Res P cx o τ v n u) (hf : freshKeys σg.objs n = true) :
    OpF P cx ops i ⟨gt ++ opTmps o.op.operands.toList, optL o.dst, refsOf σg.tmps (opTmps o.op.operands.toList), keysOf n ++ keysOf u⟩ σ ((⟨σg.tmps, u ++ (n ++ σg.objs)⟩ : S).put o.dst v) := by
  have hnot : ∀ κ, κ ∉ keysOf n ++ keysOf u → find n κ = none ∧ find u κ = none := fun κ h => by
    simp only [List.mem_append, not_or] at h
    exact ⟨find_keys h.1, find_keys h.2⟩
  have hdst : ∀ t, t ∉ optL o.dst → o.dst ≠ some t := fun t h e => h (by rw [e]; simp [optL])
  have hdst' : ∀ t, t ∈ optL o.dst → o.dst = some t := fun t h => by
    cases hd : o.dst with
    | none => rw [hd] at h; simp [optL] at h
    | some d => rw [hd] at h; simp [optL] at h; rw [h]
  refine ⟨fun t ht => ?_, fun κ hκ => ?_, fun τ ag => ?_⟩
  · rw [put_find, if_neg (hdst t ht)]; exact (hσ.1 t).symm
  · rw [put_objs]
    obtain ⟨h1, h2⟩ := hnot κ hκ
    simp only [find_append, h1, h2, Option.none_or]
    exact (hσ.2 κ).symm
  · have hag : Ag o.op.operands.toList σg τ := by
      intro x hx
      cases x with
      | tmp t =>
        refine ⟨(ag.1 t (.inl (List.mem_append.2 (.inr (mem_opTmps hx))))).trans (hσ.1 t), fun v hv κ hκ => ?_⟩
        rw [← hσ.2 κ]
        exact ag.2 κ (.inl (mem_refsOf hv hκ (mem_opTmps hx)))
      | _ => trivial
    have hfr : freshKeys τ.objs n = true := by
      rw [← hf]
      refine freshKeys_ag fun κ hκ => ?_
      rw [← hσ.2 κ]
      exact ag.2 κ (.inr (List.mem_append.2 (.inl hκ)))
    refine ⟨_, OpTo.of_res ho (hw τ fun t ht => ag.1 t (.inl (List.mem_append.2 (.inl ht)))) (hs τ hag) hfr, fun t ht => ?_, fun t ht => ?_, fun κ hκ => ?_, fun κ hκ => ?_⟩
    · rw [put_find, put_find, if_pos (hdst' t ht), if_pos (hdst' t ht)]
    · rw [put_find, if_neg (hdst t ht)]
    · rw [put_objs, put_objs]
      have : find τ.objs κ = find σg.objs κ := (ag.2 κ (.inr hκ)).trans (hσ.2 κ)
      simp only [find_append, this]
    · rw [put_objs]
      obtain ⟨h1, h2⟩ := hnot κ hκ
      simp only [find_append, h1, h2, Option.none_or]

/-- An operation that is not executed. -/
theorem opF_skip {gt ts : List Nat} {σg : S} (ho : ops[i]? = some o) (hσ : SEq σ σg) (hw : ∀ τ : S, (∀ t ∈ gt, find τ.tmps t = find σ.tmps t) → Want ops o τ false) :
    OpF P cx ops i ⟨gt ++ ts, optL o.dst, [], []⟩ σ (σg.put o.dst .undef) := by
  have hdst : ∀ t, t ∉ optL o.dst → o.dst ≠ some t := fun t h e => h (by rw [e]; simp [optL])
  have hdst' : ∀ t, t ∈ optL o.dst → o.dst = some t := fun t h => by
    cases hd : o.dst with
    | none => rw [hd] at h; simp [optL] at h
    | some d => rw [hd] at h; simp [optL] at h; rw [h]
  refine ⟨fun t ht => ?_, fun κ hκ => ?_, fun τ ag => ?_⟩
  · rw [put_find, if_neg (hdst t ht)]; exact (hσ.1 t).symm
  · rw [put_objs]; exact (hσ.2 κ).symm
  · refine ⟨_, OpTo.of_skip ho (hw τ fun t ht => ag.1 t (.inl (List.mem_append.2 (.inl ht)))), fun t ht => ?_, fun t ht => ?_, fun κ hκ => ?_, fun κ hκ => ?_⟩
    · rw [put_find, put_find, if_pos (hdst' t ht), if_pos (hdst' t ht)]
    · rw [put_find, if_neg (hdst t ht)]
    · cases hκ
    · rw [put_objs]
end

theorem clash_ok {f g : Foot} (h : clash f g = false) : (∀ t, t ∈ f.wt → t ∉ g.rt ∧ t ∉ g.wt) ∧ (∀ t, t ∈ f.rt → t ∉ g.wt) ∧ (∀ κ, κ ∈ f.wo → κ ∉ g.ro ∧ κ ∉ g.wo) ∧ ∀ κ, κ ∈ f.ro → κ ∉ g.wo := by
  have hmem : ∀ (l : List Nat) (x : Nat), mem l x = true ↔ x ∈ l := by
    intro l x
    induction l with
    | nil => simp [mem]
    | cons y l ih =>
      simp only [mem]
      cases hb : Nat.beq y x with
      | true => have := Nat.eq_of_beq_eq_true hb; simp [this]
      | false =>
        have hne : y ≠ x := fun e => by subst e; simp at hb
        simp [ih, hne.symm]
  have hmeet : ∀ (l m : List Nat), meet l m = false → ∀ x, x ∈ l → x ∉ m := by
    intro l m h x hx hm
    induction l with
    | nil => cases hx
    | cons y l ih =>
      simp only [meet] at h
      split at h
      · cases h
      · rename_i hn
        rcases List.mem_cons.1 hx with rfl | hx
        · rw [(hmem m x).2 hm] at hn; cases hn
        · exact ih h hx
  simp only [clash, Bool.or_eq_false_iff] at h
  obtain ⟨⟨⟨⟨⟨h1, h2⟩, h3⟩, h4⟩, h5⟩, h6⟩ := h
  exact ⟨fun t ht => ⟨hmeet _ _ h1 t ht, hmeet _ _ h3 t ht⟩, fun t ht => hmeet _ _ h2 t ht, fun t ht => ⟨hmeet _ _ h4 t ht, hmeet _ _ h6 t ht⟩, fun t ht => hmeet _ _ h5 t ht⟩
/-! ## A region in the order of its text, looked at op by op -/
structure Good (P : Program) (cx : Cx) (ops : Array Oper) (σs : Nat → S) (ft : Nat → Foot) (bf : Nat → List Nat) (i : Nat) : Prop where
  edge : ∀ o, ops[i]? = some o → ∀ e ∈ edgesOf o.after.toList, e < i
  bef : ∀ o, ops[i]? = some o → ∀ x ∈ bf i, x ∈ edgesOf o.after.toList ∨ ∃ e ∈ edgesOf o.after.toList, x ∈ bf e
  ord : ∀ j, j < i → clash (ft j) (ft i) = true → j ∈ bf i
  op : OpF P cx ops i (ft i) (σs i) (σs (i + 1))

theorem allLt_ok : ∀ {l : List Nat} {n : Nat}, allLt n l = true → ∀ e ∈ l, e < n
  | x :: l, n, h, e, he => by
    simp only [allLt] at h
    split at h
    · rename_i hb
      rcases List.mem_cons.1 he with rfl | he
      · exact Nat.le_of_ble_eq_true hb
      · exact allLt_ok h e he
    · cases h
theorem orderly_ok {f : Foot} {b : List Nat} {ft : Nat → Foot} : ∀ {n : Nat} {fs : List Foot}, fs.length = n → (∀ i, i < n → nth fs (n - 1 - i) = some (ft i)) → orderly f b n fs = true → ∀ j, j < n → clash (ft j) f = true → j ∈ b
  | 0, _, _, _, _, j, hj, _ => by omega
  | n + 1, [], hl, _, _, j, hj, _ => by simp at hl
  | n + 1, g :: l, hl, h, ho, j, hj, hc => by
    have hg : g = ft n := by
      have := h n (by omega)
      simpa [nth] using this
    have hrec : orderly f b n l = true → j < n → j ∈ b := fun ho' hj' => by
      refine orderly_ok (ft := ft) (by simpa using hl) (fun i hi => ?_) ho' j hj' hc
      have := h i (by omega)
      rw [show n + 1 - 1 - i = (n - 1 - i) + 1 by omega] at this
      simpa [nth] using this
    simp only [orderly, Nat.add_sub_cancel] at ho
    by_cases hjn : j = n
    · subst hjn
      rw [← hg] at hc
      simp only [hc] at ho
      split at ho
      · rename_i hm; exact mem_iff.1 hm
      · cases ho
    · split at ho
      · exact hrec ho (by omega)
      · split at ho
        · exact hrec ho (by omega)
        · cases ho
theorem joinNew_mem {x : Nat} : ∀ {l a : List Nat}, x ∈ joinNew a l → x ∈ a ∨ x ∈ l
  | [], a, h => .inl h
  | y :: l, a, h => by
    simp only [joinNew] at h
    split at h
    · rcases joinNew_mem h with h | h
      · exact .inl h
      · exact .inr (List.mem_cons.2 (.inr h))
    · rcases joinNew_mem h with h | h
      · rcases List.mem_cons.1 h with rfl | h
        · exact .inr (by simp)
        · exact .inl h
      · exact .inr (List.mem_cons.2 (.inr h))
theorem beforeOf_mem {bs : List (List Nat)} {n : Nat} : ∀ {es : List Nat} {x : Nat}, x ∈ beforeOf bs n es → x ∈ es ∨ ∃ e ∈ es, ∃ b, nth bs (n - 1 - e) = some b ∧ x ∈ b
  | [], x, h => by simp [beforeOf] at h
  | e :: es, x, h => by
    simp only [beforeOf] at h
    rcases joinNew_mem h with h | h
    · rcases beforeOf_mem h with h | ⟨e', h1, h2⟩
      · exact .inl (List.mem_cons.2 (.inr h))
      · exact .inr ⟨e', List.mem_cons.2 (.inr h1), h2⟩
    · rcases List.mem_cons.1 h with rfl | h
      · exact .inl (by simp)
      · split at h
        · rename_i b hb; exact .inr ⟨e, by simp, b, hb, h⟩
        · cases h
end PM

namespace PM
open Go

section
variable {P : Program} {cx : Cx} {Γ : Gam} {run : Run} {E : Env} {all : List Oper} {base : Nat} {n : Nat} {fs : List Foot} {bs : List (List Nat)} {o : Oper} {rest : List Oper} {σ : S} {k : S → R} {r : V} {ops : Array Oper}

/-- What stands behind an operation in a region whose order is open. -/
def NextD (run : Run) (E : Env) (cx : Cx) (all : List Oper) (base n : Nat) (fs : List Foot) (bs : List (List Nat)) (o : Oper) (rest : List Oper) (k : S → R) (gt : List Nat) (σ : S) (wo ro : List Nat) : R :=
  match allLt n (edgesOf o.after.toList) with
  | false => none
  | true => match orderly ⟨gt ++ opTmps o.op.operands.toList, optL o.dst, ro, wo⟩ (beforeOf bs n (edgesOf o.after.toList)) n fs with
    | true => pops std cx run E true all base (n + 1) (⟨gt ++ opTmps o.op.operands.toList, optL o.dst, ro, wo⟩ :: fs) (beforeOf bs n (edgesOf o.after.toList) :: bs) rest σ k
    | false => none
theorem nextD_some {gt : List Nat} {wo ro : List Nat} {σ1 : S} (h : NextD run E cx all base n fs bs o rest k gt σ1 wo ro = some r) :
    allLt n (edgesOf o.after.toList) = true ∧ orderly ⟨gt ++ opTmps o.op.operands.toList, optL o.dst, ro, wo⟩ (beforeOf bs n (edgesOf o.after.toList)) n fs = true ∧
      pops std cx run E true all base (n + 1) (⟨gt ++ opTmps o.op.operands.toList, optL o.dst, ro, wo⟩ :: fs) (beforeOf bs n (edgesOf o.after.toList) :: bs) rest σ1 k = some r := by
  unfold NextD at h
  split at h
  · cases h
  · rename_i h1
    split at h
    · rename_i h2; exact ⟨h1, h2, h⟩
    · cases h

def GoD (run : Run) (E : Env) (cx : Cx) (all : List Oper) (base n : Nat) (fs : List Foot) (bs : List (List Nat)) (o : Oper) (rest : List Oper) (k : S → R) (gt : List Nat) (σ : S) : R :=
  match inline? E.inl o with
  | some _ => none
  | none => pop std cx E.Γ (base + 32 * (match o.dst with | some t => t | none => 0)) o σ fun v m u => match freshKeys σ.objs m with
    | true => fV v fun v => NextD run E cx all base n fs bs o rest k gt ((⟨σ.tmps, u ++ (m ++ σ.objs)⟩ : S).put o.dst v) (keysOf m ++ keysOf u) (refsOf σ.tmps (opTmps o.op.operands.toList))
    | false => none

theorem pops_draw_eq : pops std cx run E true all base n fs bs (o :: rest) σ k =
    match o.guard with
    | none => GoD run E cx all base n fs bs o rest k [] σ
    | some (j, want) => onOpt (nth all j) fun oj => onOpt oj.dst fun t => match find σ.tmps t with
      | some (.bool b) => match b == want with
        | true => GoD run E cx all base n fs bs o rest k [t] (σ.put (some t) (.bool b))
        | false => NextD run E cx all base n fs bs o rest k [t] ((σ.put (some t) (.bool b)).put o.dst .undef) [] []
      | some .undef => NextD run E cx all base n fs bs o rest k [t] (σ.put o.dst .undef) [] []
      | _ => none := by
  rw [pops]
  cases hg : o.guard with
  | none =>
    simp only [GoD, NextD, hg]
    cases hi : inline? E.inl o with
    | none => rfl
    | some x => rfl
  | some gw =>
    obtain ⟨j, want⟩ := gw
    simp only [hg]
    cases hj : nth all j with
    | none => rfl
    | some oj =>
      simp only [onOpt]
      cases ht : oj.dst with
      | none => rfl
      | some t =>
        simp only
        cases hf : find σ.tmps t with
        | none => rfl
        | some v =>
          cases v <;> try rfl
          rename_i b
          cases b <;> cases want <;> simp only [onBool, GoD, NextD, optL] <;> first | rfl | (cases hi : inline? E.inl o <;> rfl)

theorem goD_some (hc : CxOk P cx) (hΓ : GamOk P cx E.Γ) {gt : List Nat} {σg : S} (ho : ops[n]? = some o) (hσ : SEq σ σg) (hw : ∀ τ : S, (∀ t ∈ gt, find τ.tmps t = find σ.tmps t) → Want ops o τ true)
    (h : GoD run E cx all base n fs bs o rest k gt σg = some r) :
    ∃ f σ1, allLt n (edgesOf o.after.toList) = true ∧ orderly f (beforeOf bs n (edgesOf o.after.toList)) n fs = true ∧ OpF P cx ops n f σ σ1 ∧
      pops std cx run E true all base (n + 1) (f :: fs) (beforeOf bs n (edgesOf o.after.toList) :: bs) rest σ1 k = some r := by
  unfold GoD at h
  split at h
  · cases h
  · obtain ⟨v, m, u, h1, h2⟩ := pop_sound hc hΓ h
    dsimp only at h1
    split at h1
    · rename_i hf
      rw [fV_eq] at h1
      obtain ⟨g1, g2, g3⟩ := nextD_some h1
      exact ⟨_, _, g1, g2, opF_run ho hσ hw h2 hf, g3⟩
    · cases h1

theorem pops_draw_step (hc : CxOk P cx) (hΓ : GamOk P cx E.Γ) (hops : ops.toList = all) (ho : ops[n]? = some o) (h : pops std cx run E true all base n fs bs (o :: rest) σ k = some r) :
    ∃ f σ1, allLt n (edgesOf o.after.toList) = true ∧ orderly f (beforeOf bs n (edgesOf o.after.toList)) n fs = true ∧ OpF P cx ops n f σ σ1 ∧
      pops std cx run E true all base (n + 1) (f :: fs) (beforeOf bs n (edgesOf o.after.toList) :: bs) rest σ1 k = some r := by
  rw [pops_draw_eq] at h
  cases hg : o.guard with
  | none =>
    simp only [hg] at h
    exact goD_some hc hΓ ho (SEq.refl σ) (fun τ _ => want_none hg) h
  | some gw =>
    obtain ⟨j, want⟩ := gw
    simp only [hg] at h
    obtain ⟨oj, hj, h1⟩ := onOpt_some h
    obtain ⟨t, ht, h2⟩ := onOpt_some h1
    split at h2
    · rename_i b hb
      split at h2
      · rename_i hbw
        refine goD_some hc hΓ ho (put_same hb) (fun τ hτ => ?_) h2
        have := want_bool (τ := τ) hops hg hj ht ((hτ t (by simp)).trans hb)
        rw [hbw] at this
        exact this
      · rename_i hbw
        obtain ⟨g1, g2, g3⟩ := nextD_some h2
        refine ⟨_, _, g1, g2, opF_skip ho (put_same hb) (fun τ hτ => ?_), g3⟩
        have := want_bool (τ := τ) hops hg hj ht ((hτ t (by simp)).trans hb)
        rw [hbw] at this
        exact this
    · rename_i hb
      obtain ⟨g1, g2, g3⟩ := nextD_some h2
      exact ⟨_, _, g1, g2, opF_skip ho (SEq.refl σ) (fun τ hτ => want_undef hops hg hj ht ((hτ t (by simp)).trans hb)), g3⟩
    · cases h2

/-- The whole region, op by op. -/
theorem pops_draw_inv (hc : CxOk P cx) (hΓ : GamOk P cx E.Γ) (hops : ops.toList = all) : ∀ {rest : List Oper} {n : Nat} {fs : List Foot} {bs : List (List Nat)} {σs : Nat → S} {ft : Nat → Foot} {bf : Nat → List Nat},
    n ≤ ops.size → (∀ i, i < n → Good P cx ops σs ft bf i) → fs.length = n → (∀ i, i < n → nth fs (n - 1 - i) = some (ft i)) → (∀ i, i < n → nth bs (n - 1 - i) = some (bf i)) → all.drop n = rest →
    pops std cx run E true all base n fs bs rest (σs n) k = some r →
    ∃ (σs' : Nat → S) (ft' : Nat → Foot) (bf' : Nat → List Nat), (∀ i, i < ops.size → Good P cx ops σs' ft' bf' i) ∧ (∀ i, i ≤ n → σs' i = σs i) ∧ k (σs' ops.size) = some r
  | [], n, fs, bs, σs, ft, bf, hn, hg, _, _, _, hr, h => by
    have hle : n = ops.size := by
      have := List.drop_eq_nil_iff.1 hr
      rw [← hops] at this
      simp at this; omega
    subst hle
    rw [pops] at h
    exact ⟨σs, ft, bf, hg, fun i _ => rfl, h⟩
  | o :: rest, n, fs, bs, σs, ft, bf, hn, hg, hl, h1, h2, hr, h => by
    have ho : ops[n]? = some o := by
      have := congrArg (·[0]?) hr
      rw [← hops] at this
      simpa [List.getElem?_drop] using this
    have hlt : n < ops.size := (Array.getElem?_eq_some_iff.1 ho).1
    obtain ⟨f, σ1, g1, g2, g3, g4⟩ := pops_draw_step hc hΓ hops ho h
    have hedge := allLt_ok g1
    have hord := orderly_ok hl h1 g2
    generalize hb : beforeOf bs n (edgesOf o.after.toList) = b at *
    obtain ⟨σs', ft', bf', k1, k2, k3⟩ := pops_draw_inv hc hΓ hops (rest := rest) (n := n + 1) (fs := f :: fs) (bs := b :: bs) (σs := fun i => if i ≤ n then σs i else σ1) (ft := fun i => if i < n then ft i else f) (bf := fun i => if i < n then bf i else b)
      hlt (fun i hi => by
        by_cases hin : i < n
        · have G := hg i hin
          refine ⟨G.edge, fun o' ho' x hx => ?_, fun j hj hcl => ?_, ?_⟩
          · simp only [hin, if_true] at hx
            rcases G.bef o' ho' x hx with h' | ⟨e, he, hxe⟩
            · exact .inl h'
            · have := G.edge o' ho' e he
              exact .inr ⟨e, he, by simpa [show e < n by omega] using hxe⟩
          · simp only [hin, show j < n by omega, if_true] at hcl ⊢
            exact G.ord j hj hcl
          · simpa [hin, show i ≤ n by omega, show i + 1 ≤ n by omega] using G.op
        · have : i = n := by omega
          subst this
          refine ⟨fun o' ho' e he => ?_, fun o' ho' x hx => ?_, fun j hj hcl => ?_, ?_⟩
          · rw [ho] at ho'; cases ho'; exact hedge e he
          · rw [ho] at ho'; cases ho'
            simp only [Nat.lt_irrefl, if_false] at hx
            rw [← hb] at hx
            rcases beforeOf_mem hx with h' | ⟨e, he, b', hb', hxb⟩
            · exact .inl h'
            · have hei := hedge e he
              rw [h2 e hei] at hb'
              cases hb'
              exact .inr ⟨e, he, by simpa [hei] using hxb⟩
          · simp only [Nat.lt_irrefl, if_false, hj, if_true] at hcl ⊢
            exact hord j hj hcl
          · simp only [Nat.lt_irrefl, if_false, Nat.le_refl, if_true, show ¬ i + 1 ≤ i by omega]; exact g3)
      (by simp [hl]) (fun i hi => by
        by_cases hin : i < n
        · rw [show n + 1 - 1 - i = (n - 1 - i) + 1 by omega]
          simpa [nth, hin] using h1 i hin
        · have : i = n := by omega
          subst this
          simp [nth])
      (fun i hi => by
        by_cases hin : i < n
        · rw [show n + 1 - 1 - i = (n - 1 - i) + 1 by omega]
          simpa [nth, hin] using h2 i hin
        · have : i = n := by omega
          subst this
          simp [nth])
      (by
        have := congrArg List.tail hr
        simpa [List.tail_drop] using this)
      (by simp only [show ¬ n + 1 ≤ n by omega, if_false]; exact g4)
    exact ⟨σs', ft', bf', k1, fun i hi => by rw [k2 i (by omega)]; simp [hi], k3⟩
end
end PM

namespace PM
open Go

/-! ## Whatever order is drawn, the region comes to one end -/
/-- One place's value while some of the operations are done. -/
def Pos {α : Type} (m : Nat) (W : Nat → Prop) (val : Nat → α) (D : Nat → Prop) (y : α) : Prop :=
  ∃ p, p ≤ m ∧ (p = 0 ∨ ∃ i, p = i + 1 ∧ D i ∧ W i) ∧ (∀ i, D i → W i → i < p) ∧ y = val p
section
variable {α : Type} {m : Nat} {W : Nat → Prop} {val : Nat → α} {D : Nat → Prop} {y : α}
theorem frame_to (hf : ∀ i, i < m → ¬ W i → val (i + 1) = val i) {p : Nat} : ∀ {d : Nat}, p + d ≤ m → (∀ i, p ≤ i → i < p + d → ¬ W i) → val (p + d) = val p
  | 0, _, _ => rfl
  | d + 1, h, hn => by
    rw [← Nat.add_assoc, hf (p + d) (by omega) (hn _ (by omega) (by omega))]
    exact frame_to hf (by omega) fun i h1 h2 => hn i h1 (by omega)
theorem Pos.at (h : Pos m W val D y) (hf : ∀ i, i < m → ¬ W i → val (i + 1) = val i) {j : Nat} (hj : j < m) (hjD : ¬ D j) (ho : ∀ i, i < m → i ≠ j → W i → (i < j → D i) ∧ (j < i → ¬ D i)) : y = val j := by
  obtain ⟨p, h1, h2, h3, rfl⟩ := h
  have hpj : p ≤ j := by
    rcases h2 with h2 | ⟨i, h2, hD, hW⟩
    · omega
    · subst h2
      by_cases e : i = j
      · subst e; exact (hjD hD).elim
      · rcases Nat.lt_or_ge i j with h | h
        · omega
        · exact ((ho i (by omega) e hW).2 (by omega) hD).elim
  have := frame_to hf (p := p) (d := j - p) (by omega) (fun i hi1 hi2 hW => by
    have hD := (ho i (by omega) (by omega) hW).1 (by omega)
    have := h3 i hD hW
    omega)
  rw [show p + (j - p) = j by omega] at this
  exact this.symm
theorem Pos.write {j : Nat} (hj : j < m) (hW : W j) (h : ∀ i, D i → W i → i < j) : Pos m W val (fun i => i = j ∨ D i) (val (j + 1)) :=
  ⟨j + 1, hj, .inr ⟨j, rfl, .inl rfl, hW⟩, fun i hi hWi => by rcases hi with rfl | hi; omega; have := h i hi hWi; omega, rfl⟩
theorem Pos.keep {j : Nat} (hW : ¬ W j) (h : Pos m W val D y) : Pos m W val (fun i => i = j ∨ D i) y := by
  obtain ⟨p, h1, h2, h3, h4⟩ := h
  refine ⟨p, h1, ?_, fun i hi hWi => ?_, h4⟩
  · rcases h2 with h2 | ⟨i, h2, hD, hWi⟩
    · exact .inl h2
    · exact .inr ⟨i, h2, .inr hD, hWi⟩
  · rcases hi with rfl | hi
    · exact (hW hWi).elim
    · exact h3 i hi hWi
theorem Pos.all (h : Pos m W val D y) (hf : ∀ i, i < m → ¬ W i → val (i + 1) = val i) (hD : ∀ i, i < m → D i) : y = val m := by
  obtain ⟨p, h1, h2, h3, rfl⟩ := h
  have := frame_to hf (p := p) (d := m - p) (by omega) (fun i hi1 hi2 hW => by
    have := h3 i (hD i (by omega)) hW
    omega)
  rw [show p + (m - p) = m by omega] at this
  exact this.symm
theorem Pos.congr {D' : Nat → Prop} (h : Pos m W val D y) (e : ∀ i, D i ↔ D' i) : Pos m W val D' y := by
  have : D = D' := funext fun i => propext (e i)
  rw [← this]; exact h
end

theorem edges_mem {l : List Edge} {e : Edge} (h : e ∈ l) (hb : Region.binds .any e = true) : e.on ∈ edgesOf l := by
  induction l with
  | nil => cases h
  | cons x l ih =>
    rcases List.mem_cons.1 h with rfl | h
    · simp only [edgesOf]
      cases hg : e.ground <;> simp [Region.binds, hg] at hb ⊢
    · have := ih h
      simp only [edgesOf]
      cases x.ground <;> simp [this]
theorem mem_edges {l : List Edge} {x : Nat} (h : x ∈ edgesOf l) : ∃ e ∈ l, Region.binds .any e = true ∧ e.on = x := by
  induction l with
  | nil => cases h
  | cons y l ih =>
    simp only [edgesOf] at h
    have step : x ∈ edgesOf l → ∃ e ∈ y :: l, Region.binds .any e = true ∧ e.on = x := fun h' => by
      obtain ⟨e, h1, h2⟩ := ih h'
      exact ⟨e, List.mem_cons.2 (.inr h1), h2⟩
    cases hg : y.ground <;> rw [hg] at h <;> simp only at h
    case textOnly => exact step h
    case gcOnly => exact step h
    all_goals
      rcases List.mem_cons.1 h with rfl | h
      · exact ⟨y, by simp, by simp [Region.binds, hg], rfl⟩
      · exact step h

def undone (l : List Bool) : Nat := (l.filter fun b => !b).length
theorem undone_set : ∀ {l : List Bool} {i : Nat}, l[i]? = some false → undone (l.set i true) + 1 = undone l
  | [], i, h => by simp at h
  | b :: l, 0, h => by simp at h; subst h; simp [undone]
  | b :: l, i + 1, h => by
    have := undone_set (l := l) (i := i) (by simpa using h)
    simp only [List.set_cons_succ, undone, List.filter_cons] at this ⊢
    cases b <;> simp at this ⊢ <;> omega
theorem undone_zero : ∀ {l : List Bool}, undone l = 0 → ∀ i, i < l.length → l[i]? = some true
  | [], _, i, hi => by simp at hi
  | b :: l, h, i, hi => by
    cases b with
    | false => simp [undone] at h
    | true =>
      cases i with
      | zero => rfl
      | succ i => simpa using undone_zero (l := l) (by simpa [undone] using h) i (by simpa using hi)
theorem undone_replicate (n : Nat) : undone (List.replicate n false) = n := by
  induction n with
  | zero => rfl
  | succ n ih => simp [undone, List.replicate_succ] at ih ⊢

section
variable {P : Program} {cx : Cx} {ops : Array Oper} {σs : Nat → S} {ft : Nat → Foot} {bf : Nat → List Nat} {F : Fr} {Q : Exit → Act → World → Prop} {ι0 : Im} {w0 : World}

theorem region_any (hg : ∀ i, i < ops.size → Good P cx ops σs ft bf i) (hd : ∀ (i : Nat) (o : Oper) (d : Nat), ops[i]? = some o → o.dst = some d → DOk F d)
    (hQ : ∀ ι' a' w', Sim cx F ι' (σs ops.size) a' w' → Ext ι0 (σs 0).objs w0 ι' (σs ops.size).objs w' → Q .normal a' w') :
    ∀ (fuel : Nat) (listed : Array Bool) (τ : S) (ι : Im) (a : Act) (w : World), listed.size = ops.size → undone listed.toList ≤ fuel → (∀ i, listed.getD i false = true → ∀ x ∈ bf i, listed.getD x false = true) →
      (∀ t, Pos ops.size (fun i => t ∈ (ft i).wt) (fun p => find (σs p).tmps t) (fun i => listed.getD i false = true) (find τ.tmps t)) →
      (∀ κ, Pos ops.size (fun i => κ ∈ (ft i).wo) (fun p => find (σs p).objs κ) (fun i => listed.getD i false = true) (find τ.objs κ)) →
      Sim cx F ι τ a w → Ext ι0 (σs 0).objs w0 ι τ.objs w → wpAny P .any ops Q fuel listed a w := by
  have frT : ∀ t i, i < ops.size → ¬ t ∈ (ft i).wt → find (σs (i + 1)).tmps t = find (σs i).tmps t := fun t i hi h => (hg i hi).op.frameT t h
  have frO : ∀ t i, i < ops.size → ¬ t ∈ (ft i).wo → find (σs (i + 1)).objs t = find (σs i).objs t := fun t i hi h => (hg i hi).op.frameO t h
  have getD_of : ∀ (l : Array Bool) (i : Nat), i < l.size → l.getD i true = l.getD i false := fun l i h => by simp [h]
  -- the end
  have fin : ∀ (listed : Array Bool) (τ : S) (ι : Im) (a : Act) (w : World), (∀ i, i < ops.size → listed.getD i false = true) →
      (∀ t, Pos ops.size (fun i => t ∈ (ft i).wt) (fun p => find (σs p).tmps t) (fun i => listed.getD i false = true) (find τ.tmps t)) →
      (∀ κ, Pos ops.size (fun i => κ ∈ (ft i).wo) (fun p => find (σs p).objs κ) (fun i => listed.getD i false = true) (find τ.objs κ)) →
      Sim cx F ι τ a w → Ext ι0 (σs 0).objs w0 ι τ.objs w → Q .normal a w := by
    intro listed τ ι a w hall hT hO hs he
    have hseq : SEq τ (σs ops.size) := ⟨fun t => (hT t).all (frT t) hall, fun κ => (hO κ).all (frO κ) hall⟩
    obtain ⟨h1, h2⟩ := hs.seq hseq
    exact hQ ι a w h1 (he.trans h2)
  intro fuel
  induction fuel with
  | zero =>
    intro listed τ ι a w hsz hun hcl hT hO hs he
    have hall : ∀ i, i < ops.size → listed.getD i false = true := fun i hi => by
      have := undone_zero (by omega : undone listed.toList = 0) i (by simpa [hsz] using hi)
      simp at this
      simp [this]
    refine ⟨?_, fin listed τ ι a w hall hT hO hs he⟩
    cases hr : Region.ready .any ops listed with
    | nil => rfl
    | cons i l =>
      have hi : i ∈ Region.ready .any ops listed := by rw [hr]; simp
      obtain ⟨h1, o, ho, _⟩ := mem_ready.1 hi
      have hlt := (Array.getElem?_eq_some_iff.1 ho).1
      rw [getD_of listed i (by omega), hall i hlt] at h1
      cases h1
  | succ fuel ih =>
    intro listed τ ι a w hsz hun hcl hT hO hs he
    refine ⟨fun hnil => ?_, fun j hj => ?_⟩
    · refine fin listed τ ι a w (fun i => ?_) hT hO hs he
      induction i using Nat.strongRecOn with
      | _ i ihi =>
        intro hi
        cases hli : listed.getD i false with
        | true => rfl
        | false =>
          exfalso
          have ho : ops[i]? = some ops[i] := Array.getElem?_eq_getElem hi
          have : i ∈ Region.ready .any ops listed := mem_ready.2 ⟨by rw [getD_of listed i (by omega)]; exact hli, _, ho, fun e he' hb => by
            have hm := edges_mem (l := ops[i].after.toList) (by simpa using he') hb
            have hlt := (hg i hi).edge _ ho _ hm
            exact ihi _ hlt (by omega)⟩
          rw [hnil] at this
          cases this
    · obtain ⟨h1, o, ho, hall⟩ := mem_ready.1 hj
      have hlt := (Array.getElem?_eq_some_iff.1 ho).1
      have hjD : ¬ listed.getD j false = true := by
        rw [getD_of listed j (by omega)] at h1
        rw [h1]; simp
      have G := hg j hlt
      have hbj : ∀ x ∈ bf j, listed.getD x false = true := fun x hx => by
        have hed : ∀ e ∈ edgesOf o.after.toList, listed.getD e false = true := fun e he' => by
          obtain ⟨ed, m1, m2, rfl⟩ := mem_edges he'
          exact hall ed (by simpa using m1) m2
        rcases G.bef o ho x hx with h' | ⟨e, he', hxe⟩
        · exact hed x h'
        · exact hcl e (hed e he') x hxe
      -- the order of this operation and another one that clashes with it
      have hclash : ∀ i, i < ops.size → i ≠ j → clash (ft i) (ft j) = true ∨ clash (ft j) (ft i) = true → (i < j → listed.getD i false = true) ∧ (j < i → ¬ listed.getD i false = true) := by
        intro i hi hne hc
        have sym : clash (ft i) (ft j) = true ∧ clash (ft j) (ft i) = true := by
          constructor
          · cases hcc : clash (ft i) (ft j) with
            | true => rfl
            | false =>
              exfalso
              obtain ⟨c1, c2, c3, c4⟩ := clash_ok hcc
              rcases hc with hc | hc
              · rw [hcc] at hc; cases hc
              · have hm : ∀ (l m : List Nat), meet l m = true → ∃ x, x ∈ l ∧ x ∈ m := by
                  intro l m h
                  induction l with
                  | nil => simp [meet] at h
                  | cons y l ih =>
                    simp only [meet] at h
                    split at h
                    · rename_i hy; exact ⟨y, by simp, mem_iff.1 hy⟩
                    · obtain ⟨x, h1, h2⟩ := ih h; exact ⟨x, by simp [h1], h2⟩
                simp only [clash, Bool.or_eq_true] at hc
                rcases hc with ((((hc | hc) | hc) | hc) | hc) | hc
                all_goals obtain ⟨x, x1, x2⟩ := hm _ _ hc
                · exact (c2 x x2) x1
                · exact (c1 x x2).1 x1
                · exact (c1 x x2).2 x1
                · exact (c4 x x2) x1
                · exact (c3 x x2).1 x1
                · exact (c3 x x2).2 x1
          · cases hcc : clash (ft j) (ft i) with
            | true => rfl
            | false =>
              exfalso
              obtain ⟨c1, c2, c3, c4⟩ := clash_ok hcc
              rcases hc with hc | hc
              · have hm : ∀ (l m : List Nat), meet l m = true → ∃ x, x ∈ l ∧ x ∈ m := by
                  intro l m h
                  induction l with
                  | nil => simp [meet] at h
                  | cons y l ih =>
                    simp only [meet] at h
                    split at h
                    · rename_i hy; exact ⟨y, by simp, mem_iff.1 hy⟩
                    · obtain ⟨x, h1, h2⟩ := ih h; exact ⟨x, by simp [h1], h2⟩
                simp only [clash, Bool.or_eq_true] at hc
                rcases hc with ((((hc | hc) | hc) | hc) | hc) | hc
                all_goals obtain ⟨x, x1, x2⟩ := hm _ _ hc
                · exact (c2 x x2) x1
                · exact (c1 x x2).1 x1
                · exact (c1 x x2).2 x1
                · exact (c4 x x2) x1
                · exact (c3 x x2).1 x1
                · exact (c3 x x2).2 x1
              · rw [hcc] at hc; cases hc
        refine ⟨fun hij => hbj i (G.ord i hij sym.1), fun hji hD => ?_⟩
        exact hjD (hcl i hD j ((hg i hi).ord j hji sym.2))
      have nclash : ∀ {f g : Foot}, ¬ clash f g = true → clash f g = false := fun h => by simpa using h
      have cT : ∀ t, (t ∈ (ft j).rt ∨ t ∈ (ft j).wt) → ∀ i, i < ops.size → i ≠ j → t ∈ (ft i).wt → (i < j → listed.getD i false = true) ∧ (j < i → ¬ listed.getD i false = true) := by
        intro t ht i hi hne hw
        refine hclash i hi hne (.inl ?_)
        by_cases hc : clash (ft i) (ft j) = true
        · exact hc
        · obtain ⟨c1, _⟩ := clash_ok (nclash hc)
          rcases ht with ht | ht
          · exact ((c1 t hw).1 ht).elim
          · exact ((c1 t hw).2 ht).elim
      have cO : ∀ t, (t ∈ (ft j).ro ∨ t ∈ (ft j).wo) → ∀ i, i < ops.size → i ≠ j → t ∈ (ft i).wo → (i < j → listed.getD i false = true) ∧ (j < i → ¬ listed.getD i false = true) := by
        intro t ht i hi hne hw
        refine hclash i hi hne (.inl ?_)
        by_cases hc : clash (ft i) (ft j) = true
        · exact hc
        · obtain ⟨_, _, c1, _⟩ := clash_ok (nclash hc)
          rcases ht with ht | ht
          · exact ((c1 t hw).1 ht).elim
          · exact ((c1 t hw).2 ht).elim
      have hag : AgF (ft j) (σs j) τ := ⟨fun t ht => (hT t).at (frT t) hlt hjD (cT t ht), fun κ hκ => (hO κ).at (frO κ) hlt hjD (cO κ hκ)⟩
      obtain ⟨τ1, hop, w1, w2, w3, w4⟩ := G.op.run τ hag
      refine hop F ι a w Q _ hs (fun o d h1 h2 => hd j o d h1 h2) fun ι' a' w' hs' he' => ?_
      have hset : ∀ i, (listed.setIfInBounds j true).getD i false = true ↔ (i = j ∨ listed.getD i false = true) := by
        intro i
        by_cases e : i = j
        · subst e; simp [show i < listed.size by omega]
        · rw [getD_set_ne false (Ne.symm e)]; simp [e]
      have hlj : listed.toList[j]? = some false := by
        have hjs : j < listed.size := by omega
        have : listed[j]? = some listed[j] := Array.getElem?_eq_getElem hjs
        have h2 : listed[j] = false := by
          simp [hjs] at hjD; exact hjD
        rw [Array.getElem?_toList, this, h2]
      refine ih (listed.setIfInBounds j true) τ1 ι' a' w' (by simpa using hsz) ?_ (fun i hi x hx => ?_) (fun t => ?_) (fun κ => ?_) hs' (he.trans he')
      · have := undone_set hlj
        rw [Array.toList_setIfInBounds]; omega
      · rw [hset] at hi ⊢
        rcases hi with rfl | hi
        · exact .inr (hbj x hx)
        · exact .inr (hcl i hi x hx)
      · refine Pos.congr (D := fun i => i = j ∨ listed.getD i false = true) ?_ (fun i => (hset i).symm)
        by_cases ht : t ∈ (ft j).wt
        · rw [w1 t ht]
          exact Pos.write (W := fun i => t ∈ (ft i).wt) (val := fun p => find (σs p).tmps t) hlt ht fun i hi hW => by
            have hi' : i < ops.size := by
              rcases Nat.lt_or_ge i listed.size with h | h
              · omega
              · simp [Array.getElem?_eq_none h] at hi
            have hne : i ≠ j := fun e => by subst e; exact hjD hi
            rcases Nat.lt_or_ge i j with h | h
            · exact h
            · exact ((cT t (.inr ht) i hi' hne hW).2 (by omega) hi).elim
        · rw [w2 t ht]
          exact (hT t).keep ht
      · refine Pos.congr (D := fun i => i = j ∨ listed.getD i false = true) ?_ (fun i => (hset i).symm)
        by_cases ht : κ ∈ (ft j).wo
        · rw [w3 κ ht]
          exact Pos.write (W := fun i => κ ∈ (ft i).wo) (val := fun p => find (σs p).objs κ) hlt ht fun i hi hW => by
            have hi' : i < ops.size := by
              rcases Nat.lt_or_ge i listed.size with h | h
              · omega
              · simp [Array.getElem?_eq_none h] at hi
            have hne : i ≠ j := fun e => by subst e; exact hjD hi
            rcases Nat.lt_or_ge i j with h | h
            · exact h
            · exact ((cO κ (.inr ht) i hi' hne hW).2 (by omega) hi).elim
        · rw [w4 κ ht]
          exact (hO κ).keep ht

/-- The number of the temporaries, and those that stay as they are. -/
def Fits (F : Fr) (n : Nat × List Nat) : Prop := F.n = n.1 ∧ F.pins.map (·.1) = n.2
def DIn (n : Nat × List Nat) (d : Nat) : Prop := d < n.1 ∧ d ∉ n.2
theorem DIn.fits {F : Fr} {n : Nat × List Nat} {d : Nat} (h : DIn n d) (hf : Fits F n) : DOk F d :=
  ⟨by rw [hf.1]; exact h.1, fun v hv => h.2 (by rw [← hf.2]; exact List.mem_map.2 ⟨(d, v), hv, rfl⟩)⟩
/-- A region whose order is drawn. -/
theorem region_draw {run : Run} {E : Env} {base id : Nat} {k : S → R} {r : V} {σ : S} (hc : CxOk P cx) (hΓ : GamOk P cx E.Γ) (hm : P.follows .mixedOrders = true)
    {n : Nat × List Nat} (hd : ∀ (i : Nat) (o : Oper) (d : Nat), ops[i]? = some o → o.dst = some d → DIn n d) (h : pops std cx run E true ops.toList base 0 [] [] ops.toList σ k = some r) :
    ∃ σ', k σ' = some r ∧ ∀ F, Fits F n → ∀ Q ι0 a w0, Sim cx F ι0 σ a w0 → (∀ ι' a' w', Sim cx F ι' σ' a' w' → Ext ι0 σ.objs w0 ι' σ'.objs w' → Q Exit.normal a' w') → (Code.region id ops true).wp P Q a w0 := by
  obtain ⟨σs, ft, bf, h1, h2, h3⟩ := pops_draw_inv (ops := ops) (fs := []) (bs := []) (n := 0) (σs := fun _ => σ) (ft := fun _ => ⟨[], [], [], []⟩) (bf := fun _ => []) hc hΓ rfl (Nat.zero_le _) (fun i hi => by omega) rfl (fun i hi => by omega) (fun i hi => by omega) rfl h
  have h0 : σs 0 = σ := h2 0 (Nat.le_refl _)
  refine ⟨σs ops.size, h3, fun F hn Q ι0 a w0 hs hQ => wp_region_any hm ?_⟩
  have hd := fun i o d h1 h2 => (hd i o d h1 h2).fits hn
  obtain ⟨hs1, he1⟩ := hs.drew (w0.drawn + 1)
  have no : ∀ i, (Array.replicate ops.size false).getD i false = true → False := fun i hi => by
    by_cases hi' : i < ops.size
    · simp [hi'] at hi
    · simp [hi'] at hi
  refine region_any (ι0 := ι0) (w0 := w0) h1 hd (by rw [h0]; exact hQ) ops.size _ σ ι0 a _ (by simp) ?_ (fun i hi => (no i hi).elim) (fun t => ?_) (fun κ => ?_) hs1 (by rw [h0]; exact he1)
  · simp [undone_replicate]
  · exact ⟨0, Nat.zero_le _, .inl rfl, fun i hi => (no i hi).elim, by show _ = find (σs 0).tmps t; rw [h0]⟩
  · exact ⟨0, Nat.zero_le _, .inl rfl, fun i hi => (no i hi).elim, by show _ = find (σs 0).objs κ; rw [h0]⟩
end
end PM

namespace PM
open Go

/-! ## Functions in place -/
structure FnIs (P : Program) (f : FuncId) (fn : Func) : Prop where
  get : P.funcs[f]? = some fn
  enter : ∀ args w, (callFunc f args).run P w = .ok (.enter f args) w
def dstOk (n : Nat × List Nat) : List Oper → Bool
  | [] => true
  | o :: l => match o.dst with
    | none => dstOk n l
    | some d => match Nat.blt d n.1, mem n.2 d with
      | true, false => dstOk n l
      | _, _ => false
def dstsOk (n : Nat × List Nat) : Code → Bool
  | .region _ ops _ => dstOk n ops.toList
  | .seq a b => match dstsOk n a with
    | true => dstsOk n b
    | false => false
  | .cond _ a b => match dstsOk n a with
    | true => dstsOk n b
    | false => false
  | .block _ c => dstsOk n c
  | .loop c => dstsOk n c
  | _ => true
/-- Every loop stands in a block of its own. -/
def lpOk : Code → Bool
  | .block _ (.loop b) => lpOk b
  | .block _ c => lpOk c
  | .seq a b => match lpOk a with
    | true => lpOk b
    | false => false
  | .cond _ a b => match lpOk a with
    | true => lpOk b
    | false => false
  | .loop _ => false
  | _ => true
def loopsOf : Code → List (Nat × Code)
  | .block id (.loop b) => (id, b) :: loopsOf b
  | .block _ c => loopsOf c
  | .seq a b => loopsOf a ++ loopsOf b
  | .cond _ a b => loopsOf a ++ loopsOf b
  | .loop b => loopsOf b
  | _ => []
/-- What is looked at of a function's code. -/
def fnChk (ps : List Nat) (fn : Func) : Bool := match fn.body with
  | none => false
  | some c => match dstsOk (fn.ntmps, ps) c with
    | false => false
    | true => match lpOk c with
      | false => false
      | true => nodup ((loopsOf c).map (·.1))
theorem fnChk_ok {ps : List Nat} {fn : Func} {c : Code} (hb : fn.body = some c) (h : fnChk ps fn = true) : dstsOk (fn.ntmps, ps) c = true ∧ lpOk c = true ∧ ((loopsOf c).map (·.1)).Nodup := by
  simp only [fnChk, hb] at h
  split at h
  · cases h
  · rename_i h1
    split at h
    · cases h
    · rename_i h2
      exact ⟨h1, h2, nodup_ok h⟩
def RunOk (P : Program) (cx : Cx) (run : Run) : Prop := ∀ fn key vs objs k r, fnChk [] fn = true → run fn key vs objs k = some r → ∃ v objs', k v objs' = some r ∧
  ∀ f F ι w ws, FnIs P f fn → Heap cx F ι objs w → All2 (VR cx w (okOf w objs ι) objs ι) vs ws → Calls P f ws.toArray w fun e w' => ∃ vv ι', e = .returned vv ∧ After cx F ι objs w ι' objs' w' v vv
def InlOk (P : Program) (inl : List (Nat × Func)) : Prop := ∀ f fn, find inl f = some fn → FnIs P f fn ∧ fnChk [] fn = true

theorem dstOk_ok {n : Nat × List Nat} : ∀ {l : List Oper}, dstOk n l = true → ∀ (i : Nat) (o : Oper) (d : Nat), l[i]? = some o → o.dst = some d → DIn n d
  | [], _, i, o, d, h, _ => by simp at h
  | x :: l, hl, i, o, d, h, hd => by
    simp only [dstOk] at hl
    cases i with
    | zero =>
      simp at h; subst h
      rw [hd] at hl
      simp only at hl
      split at hl
      · rename_i hb hm; exact ⟨Nat.le_of_ble_eq_true hb, fun hx => by rw [mem_iff.2 hx] at hm; cases hm⟩
      · cases hl
    | succ i =>
      refine dstOk_ok (l := l) ?_ i o d (by simpa using h) hd
      split at hl
      · exact hl
      · split at hl
        · exact hl
        · cases hl

section
variable {P : Program} {cx : Cx} {run : Run} {E : Env} {all : List Oper} {base : Nat} {n : Nat} {o : Oper} {rest : List Oper} {σ : S} {k : S → R} {r : V} {ops : Array Oper}

theorem ev0s_all : ∀ {xs : List Operand} {σ : S} {k : List V → R} {r : V}, ev0s xs σ k = some r →
    ∃ vs, k vs = some r ∧ ∀ F ι a w, Sim cx F ι σ a w → All2 (VR cx w (okOf w σ.objs ι) σ.objs ι) vs (xs.map a.eval)
  | [], σ, k, r, h => ⟨[], h, fun _ _ _ _ _ => trivial⟩
  | x :: xs, σ, k, r, h => by
    simp only [ev0s] at h
    obtain ⟨v, h1, h2⟩ := ev0_sound (cx := cx) h
    obtain ⟨vs, h3, h4⟩ := ev0s_all h1
    refine ⟨v :: vs, h3, fun F ι a w hs => ⟨(h2 σ ?_).2 F ι a w hs, h4 F ι a w hs⟩⟩
    cases x with
    | tmp t => exact ⟨rfl, fun _ _ _ _ => rfl⟩
    | _ => trivial

def NextS (run : Run) (E : Env) (cx : Cx) (all : List Oper) (base n : Nat) (rest : List Oper) (k : S → R) (σ : S) : R := pops std cx run E false all base (n + 1) [] [] rest σ k
def GoS (run : Run) (E : Env) (cx : Cx) (all : List Oper) (base n : Nat) (o : Oper) (rest : List Oper) (k : S → R) (σ : S) : R :=
  match inline? E.inl o with
  | some (fn, args, _) => ev0s args.toList σ fun vs => run fn (base + 32 * (match o.dst with | some t => t | none => 0)) vs σ.objs fun v os => fV v fun v => NextS run E cx all base n rest k ((⟨σ.tmps, os⟩ : S).put o.dst v)
  | none => pop std cx E.Γ (base + 32 * (match o.dst with | some t => t | none => 0)) o σ fun v m u => match freshKeys σ.objs m with
    | true => fV v fun v => NextS run E cx all base n rest k ((⟨σ.tmps, u ++ (m ++ σ.objs)⟩ : S).put o.dst v)
    | false => none

theorem pops_seq_eq : pops std cx run E false all base n [] [] (o :: rest) σ k =
    match o.guard with
    | none => GoS run E cx all base n o rest k σ
    | some (j, want) => onOpt (nth all j) fun oj => onOpt oj.dst fun t => match find σ.tmps t with
      | some (.bool b) => match b == want with
        | true => GoS run E cx all base n o rest k (σ.put (some t) (.bool b))
        | false => NextS run E cx all base n rest k ((σ.put (some t) (.bool b)).put o.dst .undef)
      | some .undef => NextS run E cx all base n rest k (σ.put o.dst .undef)
      | _ => none := by
  rw [pops]
  cases hg : o.guard with
  | none =>
    simp only [GoS, NextS, hg]
    cases hi : inline? E.inl o with
    | none => rfl
    | some x => rfl
  | some gw =>
    obtain ⟨j, want⟩ := gw
    simp only [hg]
    cases hj : nth all j with
    | none => rfl
    | some oj =>
      simp only [onOpt]
      cases ht : oj.dst with
      | none => rfl
      | some t =>
        simp only
        cases hf : find σ.tmps t with
        | none => rfl
        | some v =>
          cases v <;> try rfl
          rename_i b
          cases b <;> cases want <;> simp only [onBool, GoS, NextS] <;> first | rfl | (cases hi : inline? E.inl o <;> rfl)

theorem inline_ok {inl : List (Nat × Func)} {fn : Func} {args : Array Operand} {tys : Array TypeId} (h : inline? inl o = some (fn, args, tys)) : ∃ c f, o.op = .call c ∧ c.callee = .value (.func f) ∧ find inl f = some fn ∧ args = c.args := by
  unfold inline? at h
  split at h
  · rename_i c hc
    split at h
    · rename_i f hf
      split at h
      · rename_i fn' hfn
        cases h
        exact ⟨c, f, hc, hf, hfn, rfl⟩
      · cases h
    · cases h
  · cases h

theorem goS_some (hc : CxOk P cx) (hΓ : GamOk P cx E.Γ) (hrun : RunOk P cx run) (hinl : InlOk P E.inl) {σg : S} (ho : ops[n]? = some o) (hσ : SEq σ σg) (hw : Want ops o σ true)
    (h : GoS run E cx all base n o rest k σg = some r) : ∃ σ1, OpTo P cx ops n σ σ1 ∧ pops std cx run E false all base (n + 1) [] [] rest σ1 k = some r := by
  unfold GoS at h
  split at h
  · rename_i fn args tys hi
    obtain ⟨c, f, hop, hcal, hfind, rfl⟩ := inline_ok hi
    obtain ⟨vs, h1, h2⟩ := ev0s_all (cx := cx) h
    obtain ⟨hf, hfc⟩ := hinl f fn hfind
    obtain ⟨v, os, h3, h4⟩ := hrun _ _ _ _ _ _ hfc h1
    rw [fV_eq] at h3
    refine ⟨_, fun F ι a w Q K hs hd hK => ?_, h3⟩
    have hdst : ∀ d, o.dst = some d → DOk F d := fun d h => hd o d ho h
    obtain ⟨hs1, he1⟩ := hs.seq hσ
    have hcall := h4 f F ι w _ hf hs1.heap (h2 F ι a w hs1)
    unfold wpOp
    simp only [ho, hw cx F ι a w hs, if_true]
    refine .inl ?_
    unfold Oper.wp
    have hex : (execOp a.eval o).run P w = .ok (.enter f (c.args.toList.map a.eval).toArray) w := by
      have e1 : (c.args.toList.map a.eval).toArray = c.args.map a.eval ++ (#[] : Array Value) := by
        apply Array.ext'; simp
      have := hf.enter (c.args.map a.eval ++ #[]) w
      rw [e1]
      simp [execOp, hop, resolve, hcal, Act.eval, Deferred.ofValue, invoke] at this ⊢
      exact this
    rw [hex]
    refine hcall.mono fun e w' he => ?_
    obtain ⟨vv, ι', rfl, A⟩ := he
    exact hK ι' _ w' (hs1.put A hdst) (by rw [put_objs]; exact he1.trans A.ext)
  · obtain ⟨v, m, u, h1, h2⟩ := pop_sound hc hΓ h
    dsimp only at h1
    split at h1
    · rename_i hf
      rw [fV_eq] at h1
      refine ⟨_, ?_, h1⟩
      have := OpTo.of_res (τ := σg) ho (fun cx F ι a w hs => hw cx F ι a w (hs.seq hσ.symm).1) (h2 σg fun x _ => by
        cases x with
        | tmp t => exact ⟨rfl, fun _ _ _ _ => rfl⟩
        | _ => trivial) hf
      intro F ι a w Q K hs hd hK
      obtain ⟨hs1, he1⟩ := hs.seq hσ
      exact this F ι a w Q K hs1 hd fun ι' a' w' hs' he' => hK ι' a' w' hs' (he1.trans he')
    · cases h1

theorem pops_seq_step (hc : CxOk P cx) (hΓ : GamOk P cx E.Γ) (hrun : RunOk P cx run) (hinl : InlOk P E.inl) (hops : ops.toList = all) (ho : ops[n]? = some o) (h : pops std cx run E false all base n [] [] (o :: rest) σ k = some r) :
    ∃ σ1, OpTo P cx ops n σ σ1 ∧ pops std cx run E false all base (n + 1) [] [] rest σ1 k = some r := by
  rw [pops_seq_eq] at h
  have skip : ∀ {σg : S}, SEq σ σg → Want ops o σ false → OpTo P cx ops n σ (σg.put o.dst .undef) := fun {σg} hσ hw F ι a w Q K hs hd hK => by
    obtain ⟨hs1, he1⟩ := hs.seq hσ
    exact OpTo.of_skip (τ := σg) ho (fun cx F ι a w hs => hw cx F ι a w (hs.seq hσ.symm).1) F ι a w Q K hs1 hd fun ι' a' w' hs' he' => hK ι' a' w' hs' (he1.trans he')
  cases hg : o.guard with
  | none =>
    simp only [hg] at h
    exact goS_some hc hΓ hrun hinl ho (SEq.refl σ) (want_none hg) h
  | some gw =>
    obtain ⟨j, want⟩ := gw
    simp only [hg] at h
    obtain ⟨oj, hj, h1⟩ := onOpt_some h
    obtain ⟨t, ht, h2⟩ := onOpt_some h1
    split at h2
    · rename_i b hb
      have hwant := want_bool (τ := σ) hops hg hj ht hb
      split at h2
      · rename_i hbw
        rw [hbw] at hwant
        exact goS_some hc hΓ hrun hinl ho (put_same hb) hwant h2
      · rename_i hbw
        rw [hbw] at hwant
        exact ⟨_, skip (put_same hb) hwant, h2⟩
    · rename_i hb
      exact ⟨_, skip (SEq.refl σ) (want_undef hops hg hj ht hb), h2⟩
    · cases h2

theorem pops_seq (hc : CxOk P cx) (hΓ : GamOk P cx E.Γ) (hrun : RunOk P cx run) (hinl : InlOk P E.inl) {n0 : Nat × List Nat} (hd : ∀ (i : Nat) (o : Oper) (d : Nat), ops[i]? = some o → o.dst = some d → DIn n0 d) :
    ∀ {rest : List Oper} {n : Nat} {σ : S}, n ≤ ops.size → ops.toList.drop n = rest → pops std cx run E false ops.toList base n [] [] rest σ k = some r →
      ∃ σ', k σ' = some r ∧ ∀ F, Fits F n0 → ∀ Q ι a w, Sim cx F ι σ a w → (∀ ι' a' w', Sim cx F ι' σ' a' w' → Ext ι σ.objs w ι' σ'.objs w' → Q Exit.normal a' w') → wpOps P ops Q (List.range' n (ops.size - n)) a w
  | [], n, σ, hn, hr, h => by
    have hle : n = ops.size := by
      have := List.drop_eq_nil_iff.1 hr
      simp at this; omega
    rw [pops] at h
    refine ⟨σ, h, fun F _ Q ι a w hs hQ => ?_⟩
    subst hle
    simp only [Nat.sub_self, List.range'_zero, wpOps]
    exact hQ ι a w hs Ext.refl
  | o :: rest, n, σ, hn, hr, h => by
    have ho : ops[n]? = some o := by
      have := congrArg (·[0]?) hr
      simpa [List.getElem?_drop] using this
    have hlt : n < ops.size := (Array.getElem?_eq_some_iff.1 ho).1
    obtain ⟨σ1, h1, h2⟩ := pops_seq_step hc hΓ hrun hinl rfl ho h
    obtain ⟨σ', h3, h4⟩ := pops_seq hc hΓ hrun hinl hd (n := n + 1) hlt (by
      have := congrArg List.tail hr
      simpa [List.tail_drop] using this) h2
    refine ⟨σ', h3, fun F hF Q ι a w hs hQ => ?_⟩
    rw [show ops.size - n = (ops.size - (n + 1)) + 1 by omega, List.range'_succ, wpOps_cons]
    refine h1 F ι a w Q _ hs (fun o d h1 h2 => (hd n o d h1 h2).fits hF) fun ι' a' w' hs' he' => ?_
    exact h4 F hF Q ι' a' w' hs' fun ι2 a2 w2 hs2 he2 => hQ ι2 a2 w2 hs2 (he'.trans he2)

theorem region_seq (hc : CxOk P cx) (hΓ : GamOk P cx E.Γ) (hrun : RunOk P cx run) (hinl : InlOk P E.inl) {n0 : Nat × List Nat} {id : Nat} (hd : ∀ (i : Nat) (o : Oper) (d : Nat), ops[i]? = some o → o.dst = some d → DIn n0 d)
    (h : pops std cx run E false ops.toList base 0 [] [] ops.toList σ k = some r) :
    ∃ σ', k σ' = some r ∧ ∀ F, Fits F n0 → ∀ Q ι a w, Sim cx F ι σ a w → (∀ ι' a' w', Sim cx F ι' σ' a' w' → Ext ι σ.objs w ι' σ'.objs w' → Q Exit.normal a' w') → (Code.region id ops false).wp P Q a w := by
  obtain ⟨σ', h1, h2⟩ := pops_seq hc hΓ hrun hinl hd (n := 0) (Nat.zero_le _) rfl h
  refine ⟨σ', h1, fun F hF Q ι a w hs hQ => wp_region ?_⟩
  have := h2 F hF Q ι a w hs hQ
  rwa [Nat.sub_zero, ← List.range_eq_range'] at this
end
end PM

namespace PM
open Go

/-! ## The canonical form of a state -/
def inv (r : List (Nat × Nat)) (n : Nat) : Option Nat := find (r.map fun p => (p.2, p.1)) n
theorem find_mem {α : Type} : ∀ {l : List (Nat × α)} {k : Nat} {x : α}, find l k = some x → (k, x) ∈ l
  | (n, y) :: l, k, x, h => by
    rw [find_cons] at h
    split at h
    · rename_i e; subst e; cases h; simp
    · exact List.mem_cons.2 (.inr (find_mem h))
theorem find_of_nodup {α : Type} : ∀ {l : List (Nat × α)} {k : Nat} {x : α}, (l.map (·.1)).Nodup → (k, x) ∈ l → find l k = some x
  | (n, y) :: l, k, x, hn, h => by
    rw [find_cons]
    rcases List.mem_cons.1 h with h | h
    · cases h; simp
    · have hne : n ≠ k := by
        rintro rfl
        exact (List.nodup_cons.1 hn).1 (List.mem_map.2 ⟨(n, x), h, rfl⟩)
      rw [if_neg hne]
      exact find_of_nodup (List.nodup_cons.1 hn).2 h

/-- A renaming: one to one. -/
structure RenOk (r : List (Nat × Nat)) : Prop where
  a : (r.map (·.1)).Nodup
  b : (r.map (·.2)).Nodup
theorem RenOk.inv_of {r : List (Nat × Nat)} (h : RenOk r) {o n : Nat} : find r o = some n ↔ inv r n = some o := by
  have e : (r.map fun p => (p.2, p.1)).map (·.1) = r.map (·.2) := by rw [List.map_map]; rfl
  constructor
  · intro hf
    exact find_of_nodup (by rw [e]; exact h.b) (List.mem_map.2 ⟨(o, n), find_mem hf, rfl⟩)
  · intro hf
    obtain ⟨p, hp, he⟩ := List.mem_map.1 (find_mem hf)
    obtain ⟨p1, p2⟩ := p
    cases he
    exact find_of_nodup h.a hp

def renOb (r : List (Nat × Nat)) (objs : Obs) (o : Nat) : Ob := match find objs o with
  | some (.box cs) => .box (renC r cs)
  | some (.arr fr a) => .arr fr a
  | _ => .dead
theorem find_renOs (r : List (Nat × Nat)) (objs : Obs) : ∀ (l : List (Nat × Nat)) (n : Nat), find (renOs r objs l) n = (inv l n).map (renOb r objs)
  | [], n => rfl
  | (o, m) :: l, n => by
    have ih := find_renOs r objs l n
    simp only [renOs, inv, List.map_cons, find_cons]
    by_cases e : m = n
    · subst e; simp [renOb]; rfl
    · simp only [e, if_false]
      exact ih
theorem find_renTs (r : List (Nat × Nat)) : ∀ (l : List (Nat × V)) (t : Nat), find (renTs r l) t = (find l t).map (renV r)
  | [], t => rfl
  | (s, v) :: l, t => by
    have ih := find_renTs r l t
    simp only [renTs, find_cons]
    by_cases e : s = t
    · subst e; simp
    · simp only [e, if_false]; exact ih
theorem find_keepT : ∀ {keep : List Nat} {tmps : List (Nat × V)} {t : Nat} {v : V}, find (keepT keep tmps) t = some v → find tmps t = some v
  | q :: keep, tmps, t, v, h => by
    simp only [keepT] at h
    split at h
    · rename_i u hu
      rw [find_cons] at h
      split at h
      · rename_i e; subst e; cases h; exact hu
      · exact find_keepT h
    · exact find_keepT h

section
variable {P : Program} {cx : Cx} {F : Fr} {ι : Im} {objs : Obs} {w : World} {r : List (Nat × Nat)} {σ : S} {a : Act}

def Im.ren (ι : Im) (r : List (Nat × Nat)) : Im := ⟨fun n => match inv r n with | some o => ι.blk o | none => none, fun n => match inv r n with | some o => ι.sv o | none => Go.undef, ι.gd⟩

theorem live_ren {n : Nat} {ob : Ob} (h : find (renOs r objs r) n = some ob) (hl : live ob) : ∃ o ob0, inv r n = some o ∧ find objs o = some ob0 ∧ live ob0 ∧ (∀ fr a, ob = .arr fr a → ob0 = .arr fr a) ∧ (∀ cs, ob = .box cs → ∃ cs0, ob0 = .box cs0 ∧ cs = renC r cs0) := by
  rw [find_renOs] at h
  cases hi : inv r n with
  | none => rw [hi] at h; cases h
  | some o =>
    rw [hi] at h
    simp only [Option.map_some, Option.some.injEq] at h
    subst h
    unfold renOb at hl ⊢
    cases hf : find objs o with
    | none => rw [hf] at hl; exact hl.elim
    | some ob0 =>
      cases ob0 with
      | dead => rw [hf] at hl; exact hl.elim
      | box cs => exact ⟨o, _, rfl, hf, trivial, fun fr a e => by simp at e, fun cs' e => ⟨cs, rfl, by simp at e; exact e.symm⟩⟩
      | arr fr a => exact ⟨o, _, rfl, hf, trivial, fun fr' a' e => by simp at e; rw [e.1, e.2], fun cs' e => by simp at e⟩

theorem okOf_ren {b : Nat} (h : okOf w objs ι b) : okOf w (renOs r objs r) (ι.ren r) b := by
  refine ⟨h.1, fun n ob hn hl hb => ?_, h.2.2⟩
  obtain ⟨o, ob0, h1, h2, h3, _⟩ := live_ren hn hl
  simp only [Im.ren, h1] at hb
  exact h.2.1 o ob0 h2 h3 hb

theorem VC.ren (hr : RenOk r) {x : V} {v : Value} (h : VC cx w (okOf w objs ι) objs ι x v) : VC cx w (okOf w (renOs r objs r) (ι.ren r)) (renOs r objs r) (ι.ren r) (renV r x) v := by
  have mono : ∀ b, okOf w objs ι b → okOf w (renOs r objs r) (ι.ren r) b ∧ w.heap[b]? = w.heap[b]? := fun b hb => ⟨okOf_ren hb, rfl⟩
  have get : ∀ {o n : Nat}, find r o = some n → find (renOs r objs r) n = some (renOb r objs o) ∧ inv r n = some o := fun {o n} hf => by
    have := hr.inv_of.1 hf
    exact ⟨by rw [find_renOs, this]; rfl, this⟩
  have isArr : ∀ {o : Nat} {fr : Bool} {a : Arr} {ob0 : Ob}, find objs o = some ob0 → renOb r objs o = .arr fr a → ob0 = .arr fr a := fun {o fr a ob0} h1 h2 => by
    unfold renOb at h2
    rw [h1] at h2
    cases ob0 <;> simp at h2
    rw [h2.1, h2.2]
  cases x with
  | int k n => exact h
  | bool b => exact h
  | arr a => exact ArrV.mono mono h
  | sref o =>
    simp only [renV]
    cases hf : find r o with
    | none => trivial
    | some n =>
      obtain ⟨ob0, h1, h2⟩ := h
      obtain ⟨g1, g2⟩ := get hf
      refine ⟨_, g1, fun fr a he => ?_⟩
      rw [h2 fr a (isArr h1 he)]
      simp [Im.ren, g2]
  | pbox o off =>
    simp only [renV]
    cases hf : find r o with
    | none => trivial
    | some n =>
      obtain ⟨ob0, h1, h2⟩ := h
      obtain ⟨g1, g2⟩ := get hf
      refine ⟨_, g1, fun cs he => ?_⟩
      unfold renOb at he
      rw [h1] at he
      cases ob0 <;> simp at he
      obtain ⟨b, k1, k2⟩ := h2 _ rfl
      exact ⟨b, by simp [Im.ren, g2, k1], k2⟩
  | parr o m =>
    simp only [renV]
    cases hf : find r o with
    | none => trivial
    | some n =>
      obtain ⟨ob0, h1, h2⟩ := h
      obtain ⟨g1, g2⟩ := get hf
      refine ⟨_, g1, fun fr a he => ?_⟩
      obtain ⟨ad, cap, k1, k2⟩ := h2 fr a (isArr h1 he)
      exact ⟨ad, cap, by simp [Im.ren, g2, k1], k2⟩
  | pel o i off =>
    simp only [renV]
    cases hf : find r o with
    | none => trivial
    | some n =>
      obtain ⟨ob0, h1, h2⟩ := h
      obtain ⟨g1, g2⟩ := get hf
      refine ⟨_, g1, fun fr a he => ?_⟩
      obtain ⟨sh, ad, len, cap, k1, k2, k3⟩ := h2 fr a (isArr h1 he)
      exact ⟨sh, ad, len, cap, k1, by simp [Im.ren, g2, k2], k3⟩
  | pimm a i off =>
    obtain ⟨sh, ad, cap, h1, h2, h3, h4⟩ := h
    exact ⟨sh, ad, cap, h1, h2, SlV.mono mono h3, h4⟩
  | agg cs => exact h.elim
  | tup cs => exact h.elim
  | func f cs => exact h.elim
  | undef => exact h
  | junk => trivial
  | nil => exact h

theorem All2.renC (hr : RenOk r) : ∀ {cs : List V} {l : List Value}, All2 (VC cx w (okOf w objs ι) objs ι) cs l → All2 (VC cx w (okOf w (renOs r objs r) (ι.ren r)) (renOs r objs r) (ι.ren r)) (renC r cs) l
  | [], [], _ => trivial
  | x :: cs, v :: l, h => by
    have ih := All2.renC hr h.2
    have h1 := VC.ren hr h.1
    cases x <;> simp only [PM.renC] <;> refine ⟨?_, ih⟩ <;> first | exact h1 | trivial
  | [], _ :: _, h => h.elim
  | _ :: _, [], h => h.elim

theorem VR.ren (hr : RenOk r) {x : V} {v : Value} (h : VR cx w (okOf w objs ι) objs ι x v) : VR cx w (okOf w (renOs r objs r) (ι.ren r)) (renOs r objs r) (ι.ren r) (renV r x) v := by
  have up : ∀ {y : V}, (∀ cs, y ≠ .agg cs) → (∀ cs, y ≠ .tup cs) → (∀ f cs, y ≠ .func f cs) → VC cx w (okOf w (renOs r objs r) (ι.ren r)) (renOs r objs r) (ι.ren r) y v → VR cx w (okOf w (renOs r objs r) (ι.ren r)) (renOs r objs r) (ι.ren r) y v := by
    intro y h1 h2 h3 h4
    cases y <;> first | exact h4 | exact (h1 _ rfl).elim | exact (h2 _ rfl).elim | exact (h3 _ _ rfl).elim
  cases x with
  | tup cs => trivial
  | agg cs => obtain ⟨l, e, hl⟩ := h; exact ⟨l, e, All2.renC hr hl⟩
  | func f cs => obtain ⟨l, e, hl⟩ := h; exact ⟨l, e, All2.renC hr hl⟩
  | int k n => exact h
  | bool b => exact h
  | arr a => exact VC.ren (x := .arr a) hr h
  | undef => exact h
  | junk => trivial
  | nil => exact h
  | pimm a i off => exact VC.ren (x := .pimm a i off) hr h
  | sref o => refine up ?_ ?_ ?_ (VC.ren (x := .sref o) hr h) <;> (intros; simp only [renV]; split <;> simp)
  | pbox o off => refine up ?_ ?_ ?_ (VC.ren (x := .pbox o off) hr h) <;> (intros; simp only [renV]; split <;> simp)
  | parr o n => refine up ?_ ?_ ?_ (VC.ren (x := .parr o n) hr h) <;> (intros; simp only [renV]; split <;> simp)
  | pel o i off => refine up ?_ ?_ ?_ (VC.ren (x := .pel o i off) hr h) <;> (intros; simp only [renV]; split <;> simp)

theorem Heap.ren (hr : RenOk r) (H : Heap cx F ι objs w) : Heap cx F (ι.ren r) (renOs r objs r) w := by
  refine ⟨fun n ob hn => ?_, fun n n' ob ob' b hn hn' hl hl' hb hb' => ?_, fun n ob b hn hl hb => ?_, H.size, H.os, H.tape, H.output, H.keep, fun n a b hn hb => ?_, H.gd, H.gdF⟩
  · cases ob with
    | dead => trivial
    | box cs =>
      obtain ⟨o, ob0, h1, h2, h3, _, h5⟩ := live_ren hn trivial
      obtain ⟨cs0, rfl, rfl⟩ := h5 cs rfl
      obtain ⟨b, l, T, k1, k2, k3⟩ := H.obok o _ h2
      exact ⟨b, l, T, by simp [Im.ren, h1, k1], k2, All2.renC hr k3⟩
    | arr fr a =>
      obtain ⟨o, ob0, h1, h2, h3, h4, _⟩ := live_ren hn trivial
      cases h4 fr a rfl
      obtain ⟨sh, xs, k1, k2, k3, k4, k5, k6⟩ := H.obok o _ h2
      have hs : (ι.ren r).sv n = ι.sv o := by simp [Im.ren, h1]
      have hb : (ι.ren r).blk n = ι.blk o := by simp [Im.ren, h1]
      refine ⟨sh, xs, k1, k2, k3, by rw [hs]; exact k4, by rw [hs, hb]; exact k5, fun i j hi hj => ?_⟩
      obtain ⟨cv, c1, c2⟩ := k6 i j hi hj
      exact ⟨cv, c1, c2.mono fun b hb => ⟨⟨okOf_ren hb.1, hb.2⟩, rfl⟩⟩
  · obtain ⟨o, ob0, h1, h2, h3, _⟩ := live_ren hn hl
    obtain ⟨o', ob0', h1', h2', h3', _⟩ := live_ren hn' hl'
    simp only [Im.ren, h1] at hb
    simp only [Im.ren, h1'] at hb'
    have := H.inj o o' _ _ b h2 h2' h3 h3' hb hb'
    subst this
    have e1 := hr.inv_of.2 h1
    have e2 := hr.inv_of.2 h1'
    rw [e1] at e2; exact Option.some.inj e2
  · obtain ⟨o, ob0, h1, h2, h3, _⟩ := live_ren hn hl
    simp only [Im.ren, h1] at hb
    exact H.own o ob0 b h2 h3 hb
  · obtain ⟨o, ob0, h1, h2, h3, h4, _⟩ := live_ren hn trivial
    cases h4 _ _ rfl
    simp only [Im.ren, h1] at hb
    exact H.fresh o a b h2 hb

/-! Each object is named once. -/
theorem addNew_nodup : ∀ {l seen : List Nat}, seen.Nodup → (addNew seen l).Nodup
  | [], seen, h => h
  | o :: l, seen, h => by
    simp only [addNew]
    split
    · exact addNew_nodup h
    · rename_i hm
      refine addNew_nodup (List.nodup_append.2 ⟨h, by simp, fun a ha b hb => ?_⟩)
      simp at hb; subst hb
      rintro rfl
      rw [mem_iff.2 ha] at hm; cases hm
theorem refsT_nodup : ∀ {l : List (Nat × V)} {seen : List Nat}, seen.Nodup → (refsT seen l).Nodup
  | [], _, h => h
  | (_, v) :: l, seen, h => refsT_nodup (l := l) (addNew_nodup h)
theorem refsB_nodup : ∀ {l seen : List Nat}, seen.Nodup → (refsB objs seen l).Nodup
  | [], _, h => h
  | o :: l, seen, h => by
    simp only [refsB]
    split
    · exact refsB_nodup (addNew_nodup h)
    · exact refsB_nodup h
theorem alive_sub : ∀ {l : List Nat}, (alive objs l).Sublist l
  | [] => by simp [alive]
  | o :: l => by
    have ih := alive_sub (l := l)
    simp only [alive]
    split
    · exact ih.cons _
    · exact ih.cons _
    · exact ih.cons_cons _
theorem number_ok : ∀ {l : List Nat} {n : Nat}, (number n l).map (·.1) = l ∧ (∀ m ∈ (number n l).map (·.2), n ≤ m) ∧ ((number n l).map (·.2)).Nodup
  | [], n => ⟨rfl, fun m hm => (by simp [number] at hm), by simp [number]⟩
  | o :: l, n => by
    obtain ⟨h1, h2, h3⟩ := number_ok (l := l) (n := n + 1)
    simp only [number, List.map_cons]
    refine ⟨by rw [h1], fun m hm => ?_, List.nodup_cons.2 ⟨fun hm => ?_, h3⟩⟩
    · rcases List.mem_cons.1 hm with rfl | hm
      · exact Nat.le_refl _
      · have := h2 m hm; omega
    · have := h2 n hm; omega
theorem same_ok : ∀ {l : List Nat}, (same l).map (·.1) = l ∧ (same l).map (·.2) = l
  | [] => ⟨rfl, rfl⟩
  | o :: l => by
    obtain ⟨h1, h2⟩ := same_ok (l := l)
    simp [same, h1, h2]

def renOf (num : Bool) (keep : List Nat) (σ : S) : List (Nat × Nat) := match num with
  | true => number 0 (alive σ.objs (refsB σ.objs (refsT [] (keepT keep σ.tmps)) (refsT [] (keepT keep σ.tmps))))
  | false => same (alive σ.objs (refsB σ.objs (refsT [] (keepT keep σ.tmps)) (refsT [] (keepT keep σ.tmps))))
theorem trim_eq {num : Bool} {keep : List Nat} {k : S → R} : trim num keep σ k = k ⟨renTs (renOf num keep σ) (keepT keep σ.tmps), renOs (renOf num keep σ) σ.objs (renOf num keep σ)⟩ := by
  simp only [trim, fS_eq]; rfl
theorem trim_sound {num : Bool} {keep : List Nat} {k : S → R} {v : V} (h : trim num keep σ k = some v) :
    ∃ σ', k σ' = some v ∧ ∀ F ι a w, Sim cx F ι σ a w → ∃ ι', Sim cx F ι' σ' a w := by
  rw [trim_eq] at h
  refine ⟨_, h, fun F ι a w hs => ?_⟩
  generalize hr : renOf num keep σ = r
  have hn : (alive σ.objs (refsB σ.objs (refsT [] (keepT keep σ.tmps)) (refsT [] (keepT keep σ.tmps)))).Nodup :=
    (refsB_nodup (refsT_nodup List.nodup_nil)).sublist alive_sub
  have hok : RenOk r := by
    cases num with
    | true =>
      subst hr
      obtain ⟨h1, _, h3⟩ := number_ok (l := alive σ.objs (refsB σ.objs (refsT [] (keepT keep σ.tmps)) (refsT [] (keepT keep σ.tmps)))) (n := 0)
      exact ⟨by simp only [renOf]; rw [h1]; exact hn, h3⟩
    | false =>
      subst hr
      obtain ⟨h1, h2⟩ := same_ok (l := alive σ.objs (refsB σ.objs (refsT [] (keepT keep σ.tmps)) (refsT [] (keepT keep σ.tmps))))
      exact ⟨by simp only [renOf]; rw [h1]; exact hn, by simp only [renOf]; rw [h2]; exact hn⟩
  refine ⟨ι.ren r, hs.defers, hs.size, fun t x hx => ?_, hs.heap.ren hok, hs.pin⟩
  have hx : find (renTs r (keepT keep σ.tmps)) t = some x := hx
  rw [find_renTs] at hx
  cases hf : find (keepT keep σ.tmps) t with
  | none => rw [hf] at hx; cases hx
  | some y =>
    rw [hf] at hx
    simp only [Option.map_some, Option.some.injEq] at hx
    subst hx
    exact VR.ren hok (hs.tmps t y (find_keepT hf))
end
end PM

namespace PM
open Go

/-! ## Code -/
theorem loopIn_eq (cur : Nat) : ∀ c : Code, loopIn cur c = find (loopsOf c) cur := by
  intro c
  have M : loopIn cur c = find (loopsOf c) cur ∧ ∀ b, c = .loop b → loopIn cur b = find (loopsOf b) cur := by
    induction c with
    | block id c ih =>
      refine ⟨?_, fun b h => by cases h⟩
      cases c with
      | loop b =>
        have ihb := ih.2 b rfl
        simp only [loopsOf, find_cons]
        by_cases e : id = cur
        · subst e; rw [loopIn] <;> simp
        · have hb : Nat.beq id cur = false := by
            cases hb : Nat.beq id cur with
            | false => rfl
            | true => exact absurd (Nat.eq_of_beq_eq_true hb) e
          rw [loopIn.eq_def]
          simp only [hb, e, if_false]
          rw [loopIn]
          exact ihb
      | _ =>
        have h1 := ih.1
        rw [loopIn]
        · simp only [loopsOf] at h1 ⊢
          exact h1
        · intro b _ h; cases h
    | seq a b iha ihb =>
      refine ⟨?_, fun b h => by cases h⟩
      simp only [loopIn, loopsOf, find_append, iha.1, ihb.1]
      cases find (loopsOf a) cur <;> rfl
    | cond x a b iha ihb =>
      refine ⟨?_, fun b h => by cases h⟩
      simp only [loopIn, loopsOf, find_append, iha.1, ihb.1]
      cases find (loopsOf a) cur <;> rfl
    | loop b ih => exact ⟨by simp only [loopIn, loopsOf]; exact ih.1, fun b' h => by cases h; exact ih.1⟩
    | _ => exact ⟨rfl, fun b h => by cases h⟩
  exact M.1

/-- The loops of a function, by rounds. -/
structure LamOk (cx : Cx) (run : Run) (E : Env) (fn : Func) (L : Nat → Lam) (N : Nat) : Prop where
  lam : E.lam = L N
  zero : ∀ cur σ K, L 0 cur σ K = none
  succ : ∀ n cur σ K r, L (n + 1) cur σ K = some r → roundF std cx run E (L n) cur fn σ K = some r

/-! A loop, unrolled. -/
def wpL (P : Program) (c : Code) (Q : Exit → Act → World → Prop) (a : Act) (w : World) : Prop :=
  ∀ (b : Frame) (k : List Item) (cs : List Frame), ∃ e a' w', Q e a' w' ∧ Arrives P (lone (b.at a (.code c :: .inLoop c :: k)) cs w) b k cs e a' w'
theorem wp_of_wpL {P : Program} {c : Code} {Q : Exit → Act → World → Prop} {a : Act} {w : World} (h : wpL P c Q a w) : (Code.loop c).wp P Q a w := by
  intro b k cs
  obtain ⟨e, a', w', h1, h2⟩ := h b k cs
  exact ⟨e, a', w', h1, .of_steps (.one step_loop) h2⟩
theorem wpL_round {P : Program} {c : Code} {Q : Exit → Act → World → Prop} {a : Act} {w : World} (h : c.wp P (Exit.then (wpL P c Q) Q) a w) : wpL P c Q a w := by
  intro b k cs
  obtain ⟨e, a1, w1, hq, harr⟩ := h b (.inLoop c :: k) cs
  cases e with
  | normal =>
    obtain ⟨e2, a2, w2, hq2, harr2⟩ := hq b k cs
    exact ⟨e2, a2, w2, hq2, .of_steps (Steps.trans harr (.one step_inLoop)) harr2⟩
  | exit id => exact ⟨_, a1, w1, hq, .pass (x := .inLoop c) rfl (fun _ _ => .inl (by simp)) harr⟩
  | goto l => exact ⟨_, a1, w1, hq, .pass (x := .inLoop c) rfl (fun _ _ => .inl (by simp)) harr⟩
  | ret => exact ⟨_, a1, w1, hq, .pass (x := .inLoop c) rfl (fun _ _ => .inl (by simp)) harr⟩
  | panic ch => exact ⟨_, a1, w1, hq, .pass (x := .inLoop c) rfl (fun _ _ => .inl (by simp)) harr⟩
  | outgrown => exact ⟨_, a1, w1, hq, .pass (x := .inLoop c) rfl (fun _ _ => .inl (by simp)) harr⟩

section
variable {P : Program} {cx : Cx} {run : Run} {E : Env} {n0 : Nat × List Nat} {B : Code} {fn : Func} {tr : Bool}

def End (tr : Bool) (cx : Cx) (F : Fr) (e : Exit) (σ' : S) (ι : Im) (objs : Obs) (w : World) (e' : Exit) (a' : Act) (w' : World) : Prop :=
  e' = e ∧ ∃ ι', Sim cx F ι' σ' a' w' ∧ (tr = true → Ext ι objs w ι' σ'.objs w')
theorem End.pre {F : Fr} {e : Exit} {σ' : S} {ι ι1 : Im} {objs objs1 : Obs} {w w1 : World} {e' : Exit} {a' : Act} {w' : World} (he : tr = true → Ext ι objs w ι1 objs1 w1) (h : End tr cx F e σ' ι1 objs1 w1 e' a' w') : End tr cx F e σ' ι objs w e' a' w' := by
  obtain ⟨rfl, ι', h2, h3⟩ := h
  exact ⟨rfl, ι', h2, fun ht => (he ht).trans (h3 ht)⟩

theorem ev0_at {x : Operand} {σ : S} {k : V → R} {r : V} (h : ev0 x σ k = some r) :
    ∃ v, k v = some r ∧ (∀ t, x = .tmp t → find σ.tmps t = some v) ∧ ∀ F ι a w, Sim cx F ι σ a w → VR cx w (okOf w σ.objs ι) σ.objs ι v (a.eval x) := by
  cases x with
  | tmp t =>
    simp only [ev0] at h
    split at h
    · rename_i v hv
      exact ⟨v, h, fun t' e => by cases e; exact hv, fun F ι a w hs => hs.tmps t v hv⟩
    · cases h
  | _ =>
    obtain ⟨v, h1, h2⟩ := ev0_sound (cx := cx) h
    exact ⟨v, h1, (fun t e => by cases e), (h2 σ trivial).2⟩

def Main (P : Program) (cx : Cx) (run : Run) (E : Env) (n0 : Nat × List Nat) (B : Code) (tr : Bool) (c : Code) : Prop := ∀ (cur kb : Nat) (σ : S) (K : Exit → S → R) (r : V), pexec std cx run E kb cur c σ K = some r → dstsOk n0 c = true → lpOk c = true →
  (∀ p ∈ loopsOf c, find (loopsOf B) p.1 = some p.2) → ∃ e σ', K e σ' = some r ∧ ∀ F, Fits F n0 → ∀ ι a w, Sim cx F ι σ a w → c.wp P (End tr cx F e σ' ι σ.objs w) a w

theorem loop_sound (hB : fn.body = some B) {L : Nat → Lam} {N : Nat} (hlam : LamOk cx run E fn L N) {id : Nat} {b : Code} (hb : Main P cx run E n0 B false b) (hd : dstsOk n0 b = true) (hl : lpOk b = true) (hp : ∀ p ∈ loopsOf b, find (loopsOf B) p.1 = some p.2) (hfind : find (loopsOf B) id = some b) :
    ∀ (n : Nat) (σ : S) (K : Exit → S → R) (r : V), L n id σ K = some r → ∃ e σ', K e σ' = some r ∧ ∀ F, Fits F n0 → ∀ ι a w, Sim cx F ι σ a w → wpL P b (fun e' a' w' => e' = e ∧ ∃ ι', Sim cx F ι' σ' a' w') a w
  | 0, σ, K, r, h => by rw [hlam.zero] at h; cases h
  | n + 1, σ, K, r, h => by
    have hr := hlam.succ n id _ _ r h
    simp only [roundF, hB, loopIn_eq, hfind, round] at hr
    obtain ⟨e1, σ1, hk, h1⟩ := hb id 0 σ _ r hr hd hl hp
    have done : ∀ (e : Exit), e ≠ .normal → e1 = e → trim true (endOf E id) σ1 (K e) = some r →
        ∃ e σ', K e σ' = some r ∧ ∀ F, Fits F n0 → ∀ ι a w, Sim cx F ι σ a w → wpL P b (fun e' a' w' => e' = e ∧ ∃ ι', Sim cx F ι' σ' a' w') a w := by
      intro e hne he hk
      obtain ⟨σ2, h2, h3⟩ := trim_sound (cx := cx) hk
      refine ⟨e, σ2, h2, fun F hF ι a w hs => wpL_round (wp_mono (h1 F hF ι a w hs) fun e' a' w' hq => ?_)⟩
      obtain ⟨rfl, ι', hs', _⟩ := hq
      obtain ⟨ι2, hs2⟩ := h3 F ι' a' w' hs'
      subst he
      cases e' with
      | normal => exact (hne rfl).elim
      | _ => exact ⟨rfl, ι2, hs2⟩
    cases e1 with
    | normal =>
      obtain ⟨σ2, h2, h3⟩ := trim_sound (cx := cx) hk
      obtain ⟨e, σ', h4, h5⟩ := loop_sound hB hlam hb hd hl hp hfind n σ2 K r h2
      refine ⟨e, σ', h4, fun F hF ι a w hs => wpL_round (wp_mono (h1 F hF ι a w hs) fun e' a' w' hq => ?_)⟩
      obtain ⟨rfl, ι', hs', _⟩ := hq
      obtain ⟨ι2, hs2⟩ := h3 F ι' a' w' hs'
      exact h5 F hF ι2 a' w' hs2
    | exit j => exact done _ (by simp) rfl hk
    | goto l => exact done _ (by simp) rfl hk
    | ret => exact done _ (by simp) rfl hk
    | panic ch => exact done _ (by simp) rfl hk
    | outgrown => exact done _ (by simp) rfl hk

theorem wp_seq_end {x y : Code} {Q : Exit → Act → World → Prop} {a : Act} {w : World} {e : Exit} (hne : e ≠ .normal) (h : x.wp P (fun e' a' w' => e' = e ∧ Q e' a' w') a w) : (Code.seq x y).wp P Q a w := by
  refine wp_seq (wp_mono h fun e' a' w' hq => ?_)
  obtain ⟨rfl, hq⟩ := hq
  cases e' with
  | normal => exact (hne rfl).elim
  | _ => exact hq

theorem pexec_sound (hc : CxOk P cx) (hΓ : GamOk P cx E.Γ) (hm : P.follows .mixedOrders = true) (hrun : RunOk P cx run) (hinl : InlOk P E.inl) (hB : fn.body = some B)
    (hT : tr = true → E.live = [] ∧ ∀ cur σ K, E.lam cur σ K = none) (hL : tr = false → ∃ L N, LamOk cx run E fn L N) : ∀ c, Main P cx run E n0 B tr c := by
  have M : ∀ c, Main P cx run E n0 B tr c ∧ ∀ b, c = .loop b → Main P cx run E n0 B tr b := by
    intro c
    induction c with
    | skip =>
      refine ⟨fun cur kb σ K r h _ _ _ => ?_, fun b h => by cases h⟩
      simp only [pexec] at h
      exact ⟨_, _, h, fun F _ ι a w hs => wp_skip ⟨rfl, ι, hs, fun _ => Ext.refl⟩⟩
    | region id ops draw =>
      refine ⟨fun cur kb σ K r h hd _ _ => ?_, fun b h => by cases h⟩
      simp only [pexec] at h
      have hd' : ∀ (i : Nat) (o : Oper) (d : Nat), ops[i]? = some o → o.dst = some d → DIn n0 d := fun i o d h1 h2 => dstOk_ok hd i o d (by simpa using h1) h2
      have key : ∃ σ', (match find E.live id with
          | some keep => trim false keep σ' (K .normal)
          | none => K .normal σ') = some r ∧ ∀ F, Fits F n0 → ∀ Q ι a w, Sim cx F ι σ a w → (∀ ι' a' w', Sim cx F ι' σ' a' w' → Ext ι σ.objs w ι' σ'.objs w' → Q Exit.normal a' w') → (Code.region id ops draw).wp P Q a w := by
        cases draw with
        | true => exact region_draw hc hΓ hm hd' h
        | false => exact region_seq hc hΓ hrun hinl hd' h
      obtain ⟨σ', h1, h2⟩ := key
      cases hlive : find E.live id with
      | some keep =>
        rw [hlive] at h1
        obtain ⟨σ2, h3, h4⟩ := trim_sound (cx := cx) h1
        refine ⟨_, σ2, h3, fun F hF ι a w hs => h2 F hF _ ι a w hs fun ι' a' w' hs' he' => ?_⟩
        obtain ⟨ι2, hs2⟩ := h4 F ι' a' w' hs'
        refine ⟨rfl, ι2, hs2, fun ht => ?_⟩
        rw [(hT ht).1] at hlive; cases hlive
      | none =>
        rw [hlive] at h1
        exact ⟨_, σ', h1, fun F hF ι a w hs => h2 F hF _ ι a w hs fun ι' a' w' hs' he' => ⟨rfl, ι', hs', fun _ => he'⟩⟩
    | seq x y ihx ihy =>
      refine ⟨fun cur kb σ K r h hd hl hp => ?_, fun b h => by cases h⟩
      simp only [pexec] at h
      have hd1 : dstsOk n0 x = true ∧ dstsOk n0 y = true := by
        simp only [dstsOk] at hd
        split at hd
        · rename_i h1; exact ⟨h1, hd⟩
        · cases hd
      have hl1 : lpOk x = true ∧ lpOk y = true := by
        simp only [lpOk] at hl
        split at hl
        · rename_i h1; exact ⟨h1, hl⟩
        · cases hl
      obtain ⟨e1, σ1, hk, hx⟩ := ihx.1 cur kb σ _ r h hd1.1 hl1.1 (fun p hp' => hp p (by simp [loopsOf, hp']))
      have other : ∀ e, e ≠ .normal → e1 = e → K e σ1 = some r → ∃ e σ', K e σ' = some r ∧ ∀ F, Fits F n0 → ∀ ι a w, Sim cx F ι σ a w → (Code.seq x y).wp P (End tr cx F e σ' ι σ.objs w) a w := by
        intro e hne he hk
        subst he
        exact ⟨e1, σ1, hk, fun F hF ι a w hs => wp_seq_end hne (wp_mono (hx F hF ι a w hs) fun e' a' w' hq => ⟨hq.1, hq⟩)⟩
      cases e1 with
      | normal =>
        have hk : pexec std cx run E kb cur y σ1 K = some r := hk
        obtain ⟨e, σ', h2, hy⟩ := ihy.1 cur kb σ1 K r hk hd1.2 hl1.2 (fun p hp' => hp p (by simp [loopsOf, hp']))
        refine ⟨e, σ', h2, fun F hF ι a w hs => wp_seq (wp_mono (hx F hF ι a w hs) fun e' a' w' hq => ?_)⟩
        obtain ⟨rfl, ι', hs', he⟩ := hq
        exact wp_mono (hy F hF ι' a' w' hs') fun e2 a2 w2 hq2 => hq2.pre he
      | exit id => exact other _ (by simp) rfl hk
      | goto l => exact other _ (by simp) rfl hk
      | ret => exact other _ (by simp) rfl hk
      | panic ch => exact other _ (by simp) rfl hk
      | outgrown => exact other _ (by simp) rfl hk
    | cond x c d ihc ihd =>
      refine ⟨fun cur kb σ K r h hd hl hp => ?_, fun b h => by cases h⟩
      simp only [pexec] at h
      have hd1 : dstsOk n0 c = true ∧ dstsOk n0 d = true := by
        simp only [dstsOk] at hd
        split at hd
        · rename_i h1; exact ⟨h1, hd⟩
        · cases hd
      have hl1 : lpOk c = true ∧ lpOk d = true := by
        simp only [lpOk] at hl
        split at hl
        · rename_i h1; exact ⟨h1, hl⟩
        · cases hl
      obtain ⟨v, h1, h2, h3⟩ := ev0_at (cx := cx) h
      cases v <;> simp only at h1 <;> try (cases h1; done)
      rename_i t
      rw [onBool_eq] at h1
      have hseq : SEq σ (setTmp σ x t) := by
        cases x with
        | tmp q => exact put_same (h2 q rfl)
        | _ => exact SEq.refl σ
      cases t with
      | true =>
        simp only at h1
        obtain ⟨e, σ', h4, h5⟩ := ihc.1 cur kb _ K r h1 hd1.1 hl1.1 (fun p hp' => hp p (by simp [loopsOf, hp']))
        refine ⟨e, σ', h4, fun F hF ι a w hs => ?_⟩
        obtain ⟨hs1, he1⟩ := hs.seq hseq
        exact wp_cond_true (h3 F ι a w hs) (wp_mono (h5 F hF ι a w hs1) fun e a2 w2 hq => hq.pre fun _ => he1)
      | false =>
        simp only at h1
        obtain ⟨e, σ', h4, h5⟩ := ihd.1 cur kb _ K r h1 hd1.2 hl1.2 (fun p hp' => hp p (by simp [loopsOf, hp']))
        refine ⟨e, σ', h4, fun F hF ι a w hs => ?_⟩
        obtain ⟨hs1, he1⟩ := hs.seq hseq
        exact wp_cond_false (h3 F ι a w hs) (wp_mono (h5 F hF ι a w hs1) fun e a2 w2 hq => hq.pre fun _ => he1)
    | block id c ih =>
      refine ⟨fun cur kb σ K r h hd hl hp => ?_, fun b h => by cases h⟩
      simp only [pexec] at h
      -- what becomes of the block's own exit
      have post : ∀ (e : Exit) (σ' : S), (match e with
          | .exit j => match Nat.beq j id with
            | true => K .normal σ'
            | false => K (.exit j) σ'
          | e => K e σ') = some r → ∃ e2, K e2 σ' = some r ∧ ∀ F ι w a' w', End tr cx F e σ' ι σ.objs w e a' w' → Exit.inBlock id (End tr cx F e2 σ' ι σ.objs w) e a' w' := by
        intro e σ' hk
        cases e with
        | exit j =>
          simp only at hk
          by_cases e : j = id
          · subst e
            simp only [Nat.beq_refl] at hk
            refine ⟨_, hk, fun F ι w a' w' hq => ?_⟩
            simp only [Exit.inBlock, if_true]
            exact ⟨rfl, hq.2⟩
          · have hb : Nat.beq j id = false := by
              cases hb : Nat.beq j id with
              | false => rfl
              | true => exact absurd (Nat.eq_of_beq_eq_true hb) e
            simp only [hb] at hk
            refine ⟨_, hk, fun F ι w a' w' hq => ?_⟩
            simp only [Exit.inBlock, e, if_false]
            exact ⟨rfl, hq.2⟩
        | normal => exact ⟨_, hk, fun F ι w a' w' hq => ⟨rfl, hq.2⟩⟩
        | goto l => exact ⟨_, hk, fun F ι w a' w' hq => ⟨rfl, hq.2⟩⟩
        | ret => exact ⟨_, hk, fun F ι w a' w' hq => ⟨rfl, hq.2⟩⟩
        | panic ch => exact ⟨_, hk, fun F ι w a' w' hq => ⟨rfl, hq.2⟩⟩
        | outgrown => exact ⟨_, hk, fun F ι w a' w' hq => ⟨rfl, hq.2⟩⟩
      by_cases hloop : ∃ b, c = .loop b
      · obtain ⟨b, rfl⟩ := hloop
        simp only [pexec] at h
        have hfind : find (loopsOf B) id = some b := hp (id, b) (by simp [loopsOf])
        cases tr with
        | true =>
          exfalso
          obtain ⟨σ1, h1, _⟩ := trim_sound (cx := cx) h
          rw [(hT rfl).2] at h1; cases h1
        | false =>
          obtain ⟨L, N, hlam⟩ := hL rfl
          obtain ⟨σ1, h1, h2⟩ := trim_sound (cx := cx) h
          rw [hlam.lam] at h1
          obtain ⟨e, σ', h3, h4⟩ := loop_sound hB hlam (ih.2 b rfl) (by simpa [dstsOk] using hd) (by simpa [lpOk] using hl) (fun p hp' => hp p (by simp [loopsOf, hp'])) hfind N σ1 _ r h1
          obtain ⟨e2, h5, h6⟩ := post e σ' h3
          refine ⟨e2, σ', h5, fun F hF ι a w hs => ?_⟩
          obtain ⟨ι1, hs1⟩ := h2 F ι a w hs
          refine wp_block (wp_mono (wp_of_wpL (h4 F hF ι1 a w hs1)) fun e' a' w' hq => ?_)
          obtain ⟨rfl, ι', hs'⟩ := hq
          exact h6 F ι w a' w' ⟨rfl, ι', hs', fun h => by cases h⟩
      · have hl' : lpOk c = true ∧ loopsOf (.block id c) = loopsOf c := by
          cases c <;> first | exact ⟨hl, rfl⟩ | exact (hloop ⟨_, rfl⟩).elim
        obtain ⟨e, σ', h3, h4⟩ := ih.1 id kb σ _ r h (by simpa [dstsOk] using hd) hl'.1 (fun p hp' => hp p (by rw [hl'.2]; exact hp'))
        obtain ⟨e2, h5, h6⟩ := post e σ' h3
        refine ⟨e2, σ', h5, fun F hF ι a w hs => wp_block (wp_mono (h4 F hF ι a w hs) fun e' a' w' hq => ?_)⟩
        have he := hq.1
        subst he
        exact h6 F ι w a' w' hq
    | loop b ih =>
      refine ⟨fun cur kb σ K r h hd hl hp => by simp [lpOk] at hl, fun b' h => by cases h; exact ih.1⟩
    | exit id =>
      refine ⟨fun cur kb σ K r h _ _ _ => ?_, fun b h => by cases h⟩
      simp only [pexec] at h
      exact ⟨_, _, h, fun F _ ι a w hs => wp_exit ⟨rfl, ι, hs, fun _ => Ext.refl⟩⟩
    | ret =>
      refine ⟨fun cur kb σ K r h _ _ _ => ?_, fun b h => by cases h⟩
      simp only [pexec] at h
      exact ⟨_, _, h, fun F _ ι a w hs => wp_ret ⟨rfl, ι, hs, fun _ => Ext.refl⟩⟩
    | rangeFunc => exact ⟨fun cur kb σ K r h => by simp [pexec] at h, fun b h => by cases h⟩
    | scope => exact ⟨fun cur kb σ K r h => by simp [pexec] at h, fun b h => by cases h⟩
    | label => exact ⟨fun cur kb σ K r h => by simp [pexec] at h, fun b h => by cases h⟩
    | goto => exact ⟨fun cur kb σ K r h => by simp [pexec] at h, fun b h => by cases h⟩
    | refuse => exact ⟨fun cur kb σ K r h => by simp [pexec] at h, fun b h => by cases h⟩
  exact fun c => (M c).1
end
end PM

namespace PM
open Go RowKit

/-! ## Whole functions -/
def resF (tmps : Array Value) : ResultVar → Sem Value
  | .tmp t => pure (tmps.getD t Go.undef)
  | .cell a t => do loadVar t (← asAddr (tmps.getD a Go.undef))
theorem results_eq (fn : Func) (tmps : Array Value) : results fn tmps = (do let vs ← fn.results.mapM (resF tmps); pure (if h : vs.size = 1 then vs[0] else .tuple vs)) := rfl

section
variable {P : Program} {cx : Cx} {F : Fr} {ι : Im} {σ : S} {a : Act} {w : World} {objs : Obs} {Γ : Gam} {inl : List (Nat × Func)}

theorem run_loadVar_one {t : TypeId} {ty : Ty} (hT : TyOk P cx t ty) (ha : ty.isAgg = false) {b p : Nat} {v : Value} (h : w.cell? ⟨b, p, none⟩ = some v) : (loadVar t ⟨b, p, none⟩).run P w = .ok v w := by
  have := run_loadAt_one hT ha h
  simpa [Instr.loadAt, Instr.sureAddr] using this
theorem run_loadVar_agg {t : TypeId} {ty : Ty} (hT : TyOk P cx t ty) (ha : ty.isAgg = true) {b p : Nat} {vs : List Value} (hl : vs.length = ty.size) (h : ∀ (j : Nat) v, vs[j]? = some v → w.cell? ⟨b, p + j, none⟩ = some v) :
    (loadVar t ⟨b, p, none⟩).run P w = .ok (.agg vs.toArray) w := by
  have := run_loadAt_agg hT ha hl h
  simpa [Instr.loadAt, Instr.sureAddr] using this

theorem VA_of_VR {ok : Nat → Prop} {v : V} {vv : Value} (hn : ∀ cs, v ≠ .tup cs) (h : VR cx w ok objs ι v vv) : VA cx w ok objs ι v vv := by
  cases v <;> first | exact h | exact (hn _ rfl).elim
theorem VR_of_VA {ok : Nat → Prop} {v : V} {vv : Value} (h : VA cx w ok objs ι v vv) : VR cx w ok objs ι v vv := by
  cases v <;> first | exact h | exact h.elim
theorem VA_of_VC {ok : Nat → Prop} {v : V} {vv : Value} (h : VC cx w ok objs ι v vv) : VA cx w ok objs ι v vv := by
  cases v <;> first | exact h | exact h.elim

theorem resVs_sound (hc : CxOk P cx) (hs : Sim cx F ι σ a w) : ∀ {rs : List ResultVar} {vs : List V}, resVs cx σ rs = some vs → ∃ ws, (rs.mapM (resF a.tmps)).run P w = .ok ws w ∧ All2 (VA cx w (okOf w σ.objs ι) σ.objs ι) vs ws
  | [], vs, h => by simp only [resVs, Option.some.injEq] at h; subst h; exact ⟨[], by simp, trivial⟩
  | .tmp t :: rs, vs, h => by
    simp only [resVs] at h
    split at h
    · cases h
    · rename_i v hn hv
      split at h
      · rename_i r hr
        cases h
        obtain ⟨ws, h1, h2⟩ := resVs_sound hc hs hr
        refine ⟨a.tmps.getD t Go.undef :: ws, by simp [List.mapM_cons, resF, h1], VA_of_VR (fun cs e => ?_) (hs.tmps t v hv), h2⟩
        subst e; exact hn _ rfl
      · cases h
    · cases h
  | .cell t ty :: rs, vs, h => by
    simp only [resVs] at h
    split at h
    · rename_i o off hv
      split at h
      · rename_i cs hob
        split at h
        · rename_i i hi
          split at h
          · rename_i r hr
            obtain ⟨ws, h1, h2⟩ := resVs_sound hc hs hr
            obtain ⟨ob, e1, e2⟩ := hs.tmps t _ hv
            rw [hob] at e1; cases e1
            obtain ⟨b, hb, hptr⟩ := e2 cs rfl
            obtain ⟨b', l, T, q1, q2, q3⟩ := hs.heap.obok o _ hob
            rw [hb] at q1; cases q1
            have hcell : ∀ j, w.cell? ⟨b, j, none⟩ = l[j]? := fun j => by rw [cell_of_cells q2]; simp
            split at h
            · rename_i hag
              split at h
              · rename_i hle
                cases h
                have hle := Nat.le_of_ble_eq_true hle
                have hlen := q3.length
                have hrun := run_loadVar_agg (w := w) (hc ty i hi) hag (b := b) (p := off) (vs := (l.drop off).take i.size) (by simp; omega) (fun j v hj => by
                  rw [hcell]
                  rw [List.getElem?_take] at hj
                  split at hj
                  · rwa [List.getElem?_drop] at hj
                  · cases hj)
                refine ⟨.agg ((l.drop off).take i.size).toArray :: ws, ?_, ⟨_, rfl, by rw [takeN_eq, dropN_eq]; exact (q3.drop off).take i.size⟩, h2⟩
                simp [List.mapM_cons, resF, hptr, asAddr, hrun, h1]
              · cases h
            · rename_i hag
              split at h
              · rename_i v hv'
                cases h
                rw [nth_eq] at hv'
                obtain ⟨vv, m1, m2⟩ := q3.get off v hv'
                have hrun := run_loadVar_one (w := w) (hc ty i hi) hag (b := b) (p := off) (by rw [hcell]; exact m1)
                refine ⟨vv :: ws, ?_, VA_of_VC m2, h2⟩
                simp [List.mapM_cons, resF, hptr, asAddr, hrun, h1]
              · cases h
          · cases h
        · cases h
      · cases h
    · cases h

def packW : List Value → Value
  | [v] => v
  | vs => .tuple vs.toArray
theorem results_run {fn : Func} {ws : List Value} (h : (fn.results.toList.mapM (resF a.tmps)).run P w = .ok ws w) : (results fn a.tmps).run P w = .ok (packW ws) w := by
  rw [results_eq, Array.mapM_eq_mapM_toList]
  simp only [map_eq_pure_bind, bind_assoc, pure_bind, Sem.run_bind, h, Result.andThen_ok, Sem.run_pure]
  rcases ws with _ | ⟨x, _ | ⟨y, ws⟩⟩ <;> simp [packW]

theorem pack_VR {ok : Nat → Prop} {vs : List V} {ws : List Value} (h : All2 (VA cx w ok objs ι) vs ws) : VR cx w ok objs ι (packV vs) (packW ws) := by
  rcases vs with _ | ⟨x, _ | ⟨y, vs⟩⟩
  · cases h.nil_inv; exact ⟨[], rfl, trivial⟩
  · obtain ⟨u, ws', rfl, h1, h2⟩ := h.cons_inv
    cases h2.nil_inv
    exact VR_of_VA h1
  · obtain ⟨u, ws', rfl, h1, h2⟩ := h.cons_inv
    obtain ⟨u2, ws2, rfl, h3, h4⟩ := h2.cons_inv
    exact ⟨_, rfl, h1, h3, h4⟩

theorem find_params : ∀ {vs : List V} {n t : Nat} {x : V}, find (params n vs) t = some x → n ≤ t ∧ vs[t - n]? = some x
  | v :: vs, n, t, x, h => by
    simp only [params, find_cons] at h
    split at h
    · rename_i e; subst e; cases h; exact ⟨Nat.le_refl _, by simp⟩
    · obtain ⟨h1, h2⟩ := find_params h
      exact ⟨by omega, by rw [show t - n = (t - (n + 1)) + 1 by omega]; simpa using h2⟩

theorem sim_start {fn : Func} {vs : List V} {ws : List Value} (hF : F.n = fn.ntmps) (hlen : vs.length ≤ fn.ntmps) (hpin : ∀ t v, (t, v) ∈ F.pins → ws[t]? = some v) (H : Heap cx F ι objs w) (hv : All2 (VR cx w (okOf w objs ι) objs ι) vs ws) :
    Sim cx F ι ⟨params 0 vs, objs⟩ { tmps := ws.toArray ++ Array.replicate (fn.ntmps - ws.toArray.size) Go.undef, defers := [] } w := by
  have hl := hv.length
  have hget : ∀ t vv, ws[t]? = some vv → (ws.toArray ++ Array.replicate (fn.ntmps - ws.toArray.size) Go.undef).getD t Go.undef = vv := by
    intro t vv g1
    have hlt : t < ws.length := (List.getElem?_eq_some_iff.1 g1).1
    rw [Array.getD_eq_getD_getElem?, Array.getElem?_append_left (by simpa using hlt)]
    simp [g1]
  refine ⟨rfl, by simp; omega, fun t x hx => ?_, H, fun t v htv => hget t v (hpin t v htv)⟩
  obtain ⟨_, h2⟩ := find_params hx
  obtain ⟨vv, g1, g2⟩ := hv.get t x (by simpa using h2)
  simp only [hget t vv g1]
  exact g2

theorem Heap.withN {n : Nat} (H : Heap cx F ι objs w) : Heap cx { F with n := n, pins := [] } ι objs w := ⟨H.obok, H.inj, H.own, H.size, H.os, H.tape, H.output, H.keep, H.fresh, H.gd, H.gdF⟩
theorem Heap.backN {n : Nat} (H : Heap cx { F with n := n, pins := [] } ι objs w) : Heap cx F ι objs w := ⟨H.obok, H.inj, H.own, H.size, H.os, H.tape, H.output, H.keep, H.fresh, H.gd, H.gdF⟩

theorem runD_ok (hc : CxOk P cx) (hΓ : GamOk P cx Γ) (hm : P.follows .mixedOrders = true) (hinl : InlOk P inl) : ∀ d, RunOk P cx (runD std cx inl Γ d)
  | 0, fn, key, vs, objs, k, r, _, h => by simp [runD] at h
  | d + 1, fn, key, vs, objs, k, r, hchk, h => by
    simp only [runD] at h
    cases hb : fn.body with
    | none => rw [hb] at h; cases h
    | some c =>
      rw [hb] at h
      simp only at h
      split at h
      · cases h
      · rename_i hle
        have hle := Nat.le_of_ble_eq_true hle
        obtain ⟨c1, c2, c3⟩ := fnChk_ok hb hchk
        obtain ⟨e, σ', hk, hwp⟩ := pexec_sound (P := P) (E := ⟨Γ, inl, [], [], fun _ _ _ => none⟩) (tr := true) (fn := fn) (n0 := (fn.ntmps, [])) (B := c) hc hΓ hm (runD_ok hc hΓ hm hinl d) hinl hb (fun _ => ⟨rfl, fun _ _ _ => rfl⟩) (fun h => by cases h)
          c 0 _ _ _ r h c1 c2 (fun p hp => find_of_nodup c3 hp)
        have fin : ∀ {vs' : List V}, resVs cx σ' fn.results.toList = some vs' → (e = .normal ∨ e = .ret) → k (packV vs') σ'.objs = some r → ∃ v objs', k v objs' = some r ∧
            ∀ f F ι w ws, FnIs P f fn → Heap cx F ι objs w → All2 (VR cx w (okOf w objs ι) objs ι) vs ws → Calls P f ws.toArray w fun e w' => ∃ vv ι', e = .returned vv ∧ After cx F ι objs w ι' objs' w' v vv := by
          intro vs' hres he hk
          refine ⟨_, _, hk, fun f F ι w ws hf H hv => ?_⟩
          refine calls_of_wp hf.get hb (wp_mono (hwp { F with n := fn.ntmps, pins := [] } ⟨rfl, rfl⟩ ι _ w (sim_start rfl hle (fun _ _ h => by cases h) H.withN hv)) fun e' a' w' hq => ?_)
          obtain ⟨rfl, ι', hs', hext⟩ := hq
          obtain ⟨ws', h1, h2⟩ := resVs_sound hc hs' hres
          have hfin : a'.defers = [] ∧ ∃ v, (results fn a'.tmps).run P w' = .ok v w' ∧ ∃ vv ι', Ending.returned v = .returned vv ∧ After cx F ι objs w ι' σ'.objs w' (packV vs') vv :=
            ⟨hs'.defers, _, results_run h1, _, ι', rfl, hs'.heap.backN, hext rfl, pack_VR h2⟩
          rcases he with rfl | rfl
          · exact hfin
          · exact hfin
        have get : ∀ (h : (onOpt (resVs cx σ' fn.results.toList) fun vs => match vs with | [v] => k v σ'.objs | vs => k (.tup vs) σ'.objs) = some r), ∃ vs', resVs cx σ' fn.results.toList = some vs' ∧ k (packV vs') σ'.objs = some r := by
          intro h
          obtain ⟨vs', h1, h2⟩ := onOpt_some h
          refine ⟨vs', h1, ?_⟩
          rcases vs' with _ | ⟨x, _ | ⟨y, vs'⟩⟩ <;> exact h2
        cases e with
        | normal => obtain ⟨vs', h1, h2⟩ := get hk; exact fin h1 (.inl rfl) h2
        | ret => obtain ⟨vs', h1, h2⟩ := get hk; exact fin h1 (.inr rfl) h2
        | _ => cases hk
end
end PM

namespace PM
open Go RowKit

section
variable {P : Program} {cx : Cx} {F : Fr} {ι : Im} {σ : S} {a : Act} {w : World} {objs : Obs} {Γ : Gam} {inl : List (Nat × Func)}

/-- The blocks that results name. -/
def Named (objs : Obs) (ι : Im) (used used' : List Nat) (bs : List Nat) : Prop :=
  bs.Nodup ∧ (∀ o, o ∈ used → o ∈ used') ∧ ∀ b ∈ bs, ∃ o a, o ∉ used ∧ o ∈ used' ∧ find objs o = some (.arr true a) ∧ ι.blk o = some b
theorem Named.nil (used : List Nat) : Named objs ι used used [] := ⟨List.nodup_nil, fun _ h => h, fun _ h => by cases h⟩
theorem Named.app (H : Heap cx F ι objs w) {u0 u1 u2 b1 b2 : List Nat} (h : Named objs ι u0 u1 b1) (g : Named objs ι u1 u2 b2) : Named objs ι u0 u2 (b1 ++ b2) := by
  refine ⟨List.nodup_append.2 ⟨h.1, g.1, fun x hx y hy e => ?_⟩, fun o ho => g.2.1 o (h.2.1 o ho), fun b hb => ?_⟩
  · subst e
    obtain ⟨o, a, h1, h2, h3, h4⟩ := h.2.2 x hx
    obtain ⟨o', a', g1, g2, g3, g4⟩ := g.2.2 x hy
    have := H.inj o o' _ _ x h3 g3 trivial trivial h4 g4
    subst this
    exact g1 h2
  · rcases List.mem_append.1 hb with hb | hb
    · obtain ⟨o, a, h1, h2, h3, h4⟩ := h.2.2 b hb
      exact ⟨o, a, h1, g.2.1 o h2, h3, h4⟩
    · obtain ⟨o, a, h1, h2, h3, h4⟩ := g.2.2 b hb
      exact ⟨o, a, fun hu => h1 (h.2.1 o hu), h2, h3, h4⟩

abbrev okR (w : World) (objs : Obs) (ι : Im) (F : Fr) : Nat → Prop := fun b => okOf w objs ι b ∧ FU F.fresh w b
theorem own1_ok (H : Heap cx F ι objs w) {used : List Nat} {v d : V} {u : List Nat} {vv : Value} (h : own1 objs used v = some (d, u)) (hv : VC cx w (okOf w objs ι) objs ι v vv) :
    ∃ bs, Own1 cx w (okR w objs ι F) d vv bs ∧ Named objs ι used u bs := by
  cases v <;> simp only [own1] at h <;> try (cases h; done)
  case int k n => cases h; exact ⟨[], ⟨hv, rfl⟩, Named.nil _⟩
  case bool b => cases h; exact ⟨[], ⟨hv, rfl⟩, Named.nil _⟩
  case sref o =>
    split at h
    · rename_i a hob
      split at h
      · cases h
      · rename_i hm
        cases h
        obtain ⟨ob, e1, e2⟩ := hv
        rw [hob] at e1; cases e1
        have hv := e2 _ _ rfl
        obtain ⟨sh, xs, k1, k2, k3, k4, k5, k6⟩ := H.obok o _ hob
        rw [← hv] at k4 k5
        refine ⟨vv.ownBlock.toList, ⟨sh, xs, k1, k2, k3, k4, rfl, fun i j hi hj => ?_⟩, ?_, fun q hq => by simp [hq], fun b hb => ?_⟩
        · obtain ⟨cv, c1, c2⟩ := k6 i j hi hj
          exact ⟨cv, c1, c2.mono fun b hb => ⟨⟨hb.1, hb.2 rfl⟩, rfl⟩⟩
        · cases vv.ownBlock <;> simp
        · have hb' : vv.ownBlock = some b := by
            cases ho : vv.ownBlock with
            | none => rw [ho] at hb; simp at hb
            | some b' => rw [ho] at hb; simp at hb; rw [hb]
          refine ⟨o, a, fun hu => ?_, by simp, hob, by rw [k5]; exact hb'⟩
          rw [mem_iff.2 hu] at hm; cases hm
    · cases h
theorem owns_ok (H : Heap cx F ι objs w) : ∀ {cs ds : List V} {used u : List Nat} {l : List Value}, owns objs used cs = some (ds, u) → All2 (VC cx w (okOf w objs ι) objs ι) cs l → ∃ bs, OwnL1 cx w (okR w objs ι F) ds l bs ∧ Named objs ι used u bs
  | [], ds, used, u, [], h, _ => by simp only [owns, Option.some.injEq, Prod.mk.injEq] at h; obtain ⟨rfl, rfl⟩ := h; exact ⟨[], rfl, Named.nil _⟩
  | v :: cs, ds, used, u, x :: l, h, ha => by
    simp only [owns] at h
    split at h
    · cases h
    · rename_i c u1 hc
      split at h
      · cases h
      · rename_i r u' hr
        cases h
        obtain ⟨b1, p1, p2⟩ := own1_ok H hc ha.1
        obtain ⟨b2, q1, q2⟩ := owns_ok H hr ha.2
        exact ⟨b1 ++ b2, ⟨b1, b2, rfl, p1, q1⟩, p2.app H q2⟩
  | [], _, _, _, _ :: _, _, h => h.elim
  | _ :: _, _, _, _, [], _, h => h.elim
theorem ownA_of1 {okf : Nat → Prop} {d : V} {vv : Value} {bs : List Nat} (h : Own1 cx w okf d vv bs) : OwnA cx w okf d vv bs := by
  cases d <;> first | exact h | exact h.elim
theorem ownA_ok (H : Heap cx F ι objs w) {used : List Nat} {v d : V} {u : List Nat} {vv : Value} (h : ownA objs used v = some (d, u)) (hv : VA cx w (okOf w objs ι) objs ι v vv) :
    ∃ bs, OwnA cx w (okR w objs ι F) d vv bs ∧ Named objs ι used u bs := by
  cases v
  case agg cs =>
    simp only [ownA] at h
    split at h
    · rename_i ds u' hds
      cases h
      obtain ⟨l, rfl, hl⟩ := hv
      obtain ⟨bs, h1, h2⟩ := owns_ok H hds hl
      exact ⟨bs, ⟨l, rfl, h1⟩, h2⟩
    · cases h
  case tup => exact hv.elim
  case func => simp [ownA, own1] at h
  all_goals
    simp only [ownA] at h
    obtain ⟨bs, h1, h2⟩ := own1_ok H h hv
    exact ⟨bs, ownA_of1 h1, h2⟩
theorem ownAs_ok (H : Heap cx F ι objs w) : ∀ {cs ds : List V} {used u : List Nat} {l : List Value}, ownAs objs used cs = some (ds, u) → All2 (VA cx w (okOf w objs ι) objs ι) cs l → ∃ bs, OwnLA cx w (okR w objs ι F) ds l bs ∧ Named objs ι used u bs
  | [], ds, used, u, [], h, _ => by simp only [ownAs, Option.some.injEq, Prod.mk.injEq] at h; obtain ⟨rfl, rfl⟩ := h; exact ⟨[], rfl, Named.nil _⟩
  | v :: cs, ds, used, u, x :: l, h, ha => by
    simp only [ownAs] at h
    split at h
    · cases h
    · rename_i c u1 hc
      split at h
      · cases h
      · rename_i r u' hr
        cases h
        obtain ⟨b1, p1, p2⟩ := ownA_ok H hc ha.1
        obtain ⟨b2, q1, q2⟩ := ownAs_ok H hr ha.2
        exact ⟨b1 ++ b2, ⟨b1, b2, rfl, p1, q1⟩, p2.app H q2⟩
  | [], _, _, _, _ :: _, _, h => h.elim
  | _ :: _, _, _, _, [], _, h => h.elim

theorem pack_Own {okf : Nat → Prop} {ds : List V} {ws : List Value} {bs : List Nat} (h : OwnLA cx w okf ds ws bs) : OwnR cx w okf (packV ds) (packW ws) bs := by
  rcases ds with _ | ⟨x, _ | ⟨y, ds⟩⟩ <;> rcases ws with _ | ⟨u, _ | ⟨v, ws⟩⟩ <;> try exact h.elim
  · exact ⟨[], rfl, h⟩
  · obtain ⟨b1, b2, rfl, h1, h2⟩ := h
    have h2 : b2 = [] := h2
    subst h2
    rw [List.append_nil]
    simp only [packV, packW]
    cases x <;> first | exact h1 | exact h1.elim
  · obtain ⟨b1, b2, rfl, h1, h2⟩ := h; exact h2.elim
  · obtain ⟨b1, b2, rfl, h1, h2⟩ := h; exact h2.elim
  · exact ⟨_, rfl, h⟩

/-- The frame of a call. -/
def Fr.start (w : World) (n : Nat) : Fr := ⟨fun b => w.heap.size ≤ b, fun b => w.heap.size ≤ b, w, n, [], fun _ h => ⟨h, h⟩, fun _ => True⟩
theorem heap_start (w : World) (n : Nat) (ι : Im) (hgd : ι.gd = fun _ => True) : Heap cx (Fr.start w n) ι [] w :=
  ⟨fun o ob h => by simp [find_nil] at h, fun o o' ob ob' b h => by simp [find_nil] at h, fun o ob b h => by simp [find_nil] at h, Nat.le_refl _, rfl, rfl, rfl, fun b _ _ => rfl, (fun o a b h => by simp [find_nil] at h), (fun b _ => by rw [hgd]; trivial), hgd⟩


theorem pfun_ok {E : Env} {fn : Func} {f : FuncId} {L : Nat → Lam} {N : Nat} (hc : CxOk P cx) (hΓ : GamOk P cx E.Γ) (hm : P.follows .mixedOrders = true) (hinl : InlOk P E.inl) (hf : FnIs P f fn) (hchk : fnChk [] fn = true)
    (hL : LamOk cx (runD std cx E.inl E.Γ 3) E fn L N) {ds : List V} {k : V → R} {r : V} (h : pfun std cx [] E fn ds k = some r) :
    ∃ d, k d = some r ∧ ∀ w ws, Args cx w ds ws → Calls P f ws.toArray w (Done cx w d) := by
  simp only [pfun] at h
  cases hb : fn.body with
  | none => rw [hb] at h; cases h
  | some c =>
    rw [hb] at h
    have he : enter 0 [] ds = (ds, [], 0) := by cases ds <;> rfl
    simp only [he] at h
    split at h
    · cases h
    · rename_i hle
      have hle := Nat.le_of_ble_eq_true hle
      obtain ⟨c1, c2, c3⟩ := fnChk_ok hb hchk
      obtain ⟨e, σ', hk, hwp⟩ := pexec_sound (P := P) (E := E) (tr := false) (fn := fn) (n0 := (fn.ntmps, [])) (B := c) hc hΓ hm (runD_ok hc hΓ hm hinl 3) hinl hb (fun h => by cases h) (fun _ => ⟨L, N, hL⟩)
        c 0 _ _ _ r h c1 c2 (fun p hp => find_of_nodup c3 hp)
      have fin : (e = .normal ∨ e = .ret) → retV cx [] fn σ' k = some r → ∃ d, k d = some r ∧ ∀ w ws, Args cx w ds ws → Calls P f ws.toArray w (Done cx w d) := by
        intro he hr
        simp only [retV] at hr
        obtain ⟨vs, h1, h2⟩ := onOpt_some hr
        obtain ⟨fs, h3, h4⟩ := onOpt_some h2
        obtain ⟨⟨ds', u⟩, h5, h6⟩ := onOpt_some h4
        have h7 : k (packV ds') = some r := h6
        refine ⟨_, h7, fun w ws hargs => ?_⟩
        have hok : okOf w [] ⟨fun _ => none, fun _ => Go.undef, fun _ => True⟩ = fun b => b < w.heap.size := by
          funext b
          exact propext ⟨fun h => h.1, fun h => ⟨h, fun o ob ho => by simp [find_nil] at ho, trivial⟩⟩
        have hv : All2 (VR cx w (okOf w [] ⟨fun _ => none, fun _ => Go.undef, fun _ => True⟩) [] ⟨fun _ => none, fun _ => Go.undef, fun _ => True⟩) ds ws := by
          rw [hok]; exact hargs.mono fun _ _ h => VR_of_VA h
        have hs := sim_start (fn := fn) (F := Fr.start w fn.ntmps) rfl hle (fun _ _ h => by cases h) (heap_start w fn.ntmps _ rfl) hv
        refine calls_of_wp hf.get hb (wp_mono (hwp _ ⟨rfl, rfl⟩ _ _ w hs) fun e' a' w' hq => ?_)
        obtain ⟨rfl, ι', hs', _⟩ := hq
        obtain ⟨ws', g1, g2⟩ := resVs_sound hc hs' h1
        obtain ⟨bs, o1, o2⟩ := ownAs_ok hs'.heap h5 g2
        have H := hs'.heap
        have hdone : Done cx w (packV ds') (.returned (packW ws')) w' := by
          refine ⟨packW ws', bs, okR w' σ'.objs ι' (Fr.start w fn.ntmps), rfl, ⟨H.os, H.tape, H.output, H.size, fun b hb => H.keep b hb (by show ¬ w.heap.size ≤ b; omega)⟩, pack_Own o1, o2.1, fun b hb => ?_, fun b hb => ⟨hb.2.1, hb.1.1, fun hbs => ?_, hb.2.2⟩⟩
          · obtain ⟨o, a, _, _, k3, k4⟩ := o2.2.2 b hb
            exact ⟨H.fresh o a b k3 k4, (H.own o _ b k3 trivial k4).2⟩
          · obtain ⟨o, a, _, _, k3, k4⟩ := o2.2.2 b hbs
            exact hb.1.2.1 o _ k3 trivial k4
        have hfin : a'.defers = [] ∧ ∃ v, (results fn a'.tmps).run P w' = .ok v w' ∧ Done cx w (packV ds') (.returned v) w' := ⟨hs'.defers, _, results_run g1, hdone⟩
        rcases he with rfl | rfl
        · exact hfin
        · exact hfin
      cases e with
      | normal => exact fin (.inl rfl) hk
      | ret => exact fin (.inr rfl) hk
      | _ => cases hk
end
end PM

namespace PM
open Go RowKit

section
variable {P : Program} {cx : Cx} {F : Fr} {ι ι' : Im} {σ : S} {a : Act} {w w' : World} {objs objs' N : Obs} {ok ok' : Nat → Prop}

/-- Values under other objects. -/
theorem VC.sim (hok : ∀ b, ok b → ok' b) (hk : ∀ o ob, find N o = some ob → ∃ ob', find objs o = some ob' ∧ Keeps ι ι' o ob ob') {x : V} {v : Value} (h : VC cx w ok N ι x v) : VC cx w ok' objs ι' x v := by
  cases x with
  | int k n => exact h
  | bool b => exact h
  | arr a => exact ArrV.mono (fun b hb => ⟨hok b hb, rfl⟩) h
  | sref o =>
    obtain ⟨ob, h1, h2⟩ := h
    obtain ⟨ob', k1, k2⟩ := hk o ob h1
    refine ⟨ob', k1, fun fr a ha => ?_⟩
    subst ha
    obtain ⟨fr0, a0, rfl, h3, _⟩ := k2
    rw [h3]; exact h2 _ _ rfl
  | pbox o off =>
    obtain ⟨ob, h1, h2⟩ := h
    obtain ⟨ob', k1, k2⟩ := hk o ob h1
    refine ⟨ob', k1, fun cs ha => ?_⟩
    subst ha
    obtain ⟨⟨cs0, rfl⟩, h3⟩ := k2
    rw [h3]; exact h2 _ rfl
  | parr o n =>
    obtain ⟨ob, h1, h2⟩ := h
    obtain ⟨ob', k1, k2⟩ := hk o ob h1
    refine ⟨ob', k1, fun fr a ha => ?_⟩
    subst ha
    obtain ⟨fr0, a0, rfl, h3, _⟩ := k2
    rw [h3]; exact h2 _ _ rfl
  | pel o i off =>
    obtain ⟨ob, h1, h2⟩ := h
    obtain ⟨ob', k1, k2⟩ := hk o ob h1
    refine ⟨ob', k1, fun fr a ha => ?_⟩
    subst ha
    obtain ⟨fr0, a0, rfl, h3, h4, h5⟩ := k2
    rw [h3, h4, h5]; exact h2 _ _ rfl
  | pimm a i off =>
    obtain ⟨sh, ad, cap, h1, h2, h3, h4⟩ := h
    exact ⟨sh, ad, cap, h1, h2, SlV.mono (fun b hb => ⟨hok b hb, rfl⟩) h3, h4⟩
  | agg cs => exact h
  | tup cs => exact h
  | func f cs => exact h
  | undef => exact h
  | junk => trivial
  | nil => exact h
theorem VA.sim (hok : ∀ b, ok b → ok' b) (hk : ∀ o ob, find N o = some ob → ∃ ob', find objs o = some ob' ∧ Keeps ι ι' o ob ob') {x : V} {v : Value} (h : VA cx w ok N ι x v) : VA cx w ok' objs ι' x v := by
  cases x with
  | agg cs => obtain ⟨vs, h1, h2⟩ := h; exact ⟨vs, h1, h2.mono fun _ _ => VC.sim hok hk⟩
  | func f cs => obtain ⟨vs, h1, h2⟩ := h; exact ⟨vs, h1, h2.mono fun _ _ => VC.sim hok hk⟩
  | int k n => exact VC.sim (cx := cx) (w := w) (x := .int k n) hok hk h
  | bool b => exact VC.sim (cx := cx) (w := w) (x := .bool b) hok hk h
  | arr a => exact VC.sim (cx := cx) (w := w) (x := .arr a) hok hk h
  | sref o => exact VC.sim (cx := cx) (w := w) (x := .sref o) hok hk h
  | pbox o off => exact VC.sim (cx := cx) (w := w) (x := .pbox o off) hok hk h
  | parr o n => exact VC.sim (cx := cx) (w := w) (x := .parr o n) hok hk h
  | pel o i off => exact VC.sim (cx := cx) (w := w) (x := .pel o i off) hok hk h
  | pimm a i off => exact VC.sim (cx := cx) (w := w) (x := .pimm a i off) hok hk h
  | tup cs => exact h.elim
  | undef  => exact VC.sim (cx := cx) (w := w) (x := .undef ) hok hk h
  | junk => trivial
  | nil => exact h

abbrev ι00 : Im := ⟨fun _ => none, fun _ => Go.undef, fun _ => True⟩
theorem data_sim (hok : ∀ b, ok b → ok' b) {ds : List V} {vs : List Value} (h : All2 (VA cx w ok [] ι00) ds vs) : All2 (VR cx w ok' objs ι) ds vs :=
  h.mono fun _ _ h => VR_of_VA (VA.sim (ι := ι00) (N := []) hok (fun o ob ho => by simp [find_nil] at ho) h)

theorem enter_ok : ∀ {ms : List Bool} {ds : List V} {ws : List Value} {key : Nat}, ArgL cx w ok ms ds ws → (blocksOf (slM ms ds ws)).Nodup →
    ∃ sv N, Mat cx w (fun _ => False) key (enter key ms ds).2.2 N sv (blocksOf (slM ms ds ws)) ∧ (enter key ms ds).2.1 = inObs N ∧
      ∀ (objs : Obs) (ι : Im) (ok' : Nat → Prop), (∀ b, ok b → ok' b) → (∀ o a, find N o = some (.arr true a) → ∃ fr, find objs o = some (.arr fr a)) → (∀ o u, find sv o = some u → ι.sv o = u) → All2 (VR cx w ok' objs ι) (enter key ms ds).1 ws
  | [], ds, ws, key, h, _ => by
    have e1 : enter key [] ds = (ds, [], key) := by cases ds <;> rfl
    have e2 : slM [] ds ws = [] := by cases ds <;> rfl
    rw [e1, e2]
    exact ⟨[], [], Mat.nil _ _, rfl, fun objs ι ok' hok _ _ => data_sim hok h⟩
  | true :: ms, d :: ds, v :: ws, key, h, hn => by
    simp only [slM, blocksOf, List.flatMap_append] at hn
    obtain ⟨n1, n2, n3⟩ := List.nodup_append.1 hn
    obtain ⟨s1, m1, r1⟩ := matA_ok (key := key) h.1 n1
    obtain ⟨s2, N2, m2, e2, r2⟩ := enter_ok (key := (matA key d).2.2) h.2 n2
    have M := m1.app m2 (by simpa [blocksOf] using hn)
    have e0 : enter key (true :: ms) (d :: ds) = ((matA key d).1 :: (enter (matA key d).2.2 ms ds).1, (enter (matA key d).2.2 ms ds).2.1 ++ inObs (matA key d).2.1, (enter (matA key d).2.2 ms ds).2.2) := rfl
    have hin : ∀ A B : Obs, inObs (A ++ B) = inObs A ++ inObs B := by
      intro A B
      induction A with
      | nil => rfl
      | cons x A ih => obtain ⟨o, ob⟩ := x; cases ob <;> simp [inObs, ih]
    refine ⟨s2 ++ s1, N2 ++ (matA key d).2.1, ?_, by rw [e0, e2, hin], fun objs ι ok' hok g1 g2 => ?_⟩
    · rw [e0]; simpa [slM, blocksOf] using M
    · rw [e0]
      have hsv1 : ∀ o u, find s1 o = some u → ι.sv o = u := by
        intro o u hu
        refine g2 o u ?_
        rw [find_append]
        cases hn : find s2 o with
        | none => simpa using hu
        | some y =>
          have := (m2.key o y hn).1
          have := (m1.key o u hu).2.1
          omega
      have hN1 : ∀ o x, find (matA key d).2.1 o = some x → find (N2 ++ (matA key d).2.1) o = some x := by
        intro o x hx
        rw [find_append]
        cases hn : find N2 o with
        | none => simpa using hx
        | some y =>
          obtain ⟨a, u, b, _, hu, _⟩ := m2.ob o y hn
          obtain ⟨a', u', b', _, hu', _⟩ := m1.ob o x hx
          have := (m2.key o u hu).1
          have := (m1.key o u' hu').2.1
          omega
      refine ⟨VR_of_VA (VA.sim (N := (matA key d).2.1) (ι := ι) (fun _ h => h) (fun o ob ho => ?_) (r1 (matA key d).2.1 ι ok' w (fun _ _ h => h) hsv1)), r2 objs ι ok' hok (fun o a ho => g1 o a (by rw [find_append, ho]; rfl)) (fun o u hu => g2 o u (by rw [find_append, hu]; rfl))⟩
      obtain ⟨a, u, b, rfl, _⟩ := m1.ob o ob ho
      obtain ⟨fr, h1⟩ := g1 o a (hN1 o _ ho)
      exact ⟨_, h1, true, a, rfl, rfl, rfl, rfl⟩
  | false :: ms, d :: ds, v :: ws, key, h, hn => by
    obtain ⟨s2, N2, m2, e2, r2⟩ := enter_ok (key := key) h.2 (by simpa only [slM] using hn)
    have e0 : enter key (false :: ms) (d :: ds) = (d :: (enter key ms ds).1, (enter key ms ds).2.1, (enter key ms ds).2.2) := rfl
    refine ⟨s2, N2, by rw [e0]; simpa only [slM] using m2, by rw [e0]; exact e2, fun objs ι ok' hok g1 g2 => ?_⟩
    rw [e0]
    exact ⟨VR_of_VA (VA.sim (ι := ι00) (N := []) hok (fun o ob ho => by simp [find_nil] at ho) h.1), r2 objs ι ok' hok g1 g2⟩
  | true :: _, [], _, _, h, _ => h.elim
  | false :: _, [], _, _, h, _ => h.elim
  | true :: _, _ :: _, [], _, h, _ => h.elim
  | false :: _, _ :: _, [], _, h, _ => h.elim

theorem find_inObs : ∀ {N : Obs} {o : Nat}, find (inObs N) o = (find N o).map fun x => match x with | .arr _ a => .arr false a | x => x
  | [], o => rfl
  | (q, ob) :: N, o => by
    have ih := find_inObs (N := N) (o := o)
    cases ob <;> simp only [inObs, find_cons] <;> split <;> first | rfl | exact ih

def pinV : Nat → List Bool → List Value → List (Nat × Value)
  | t, true :: ms, v :: ws => (t, v) :: pinV (t + 1) ms ws
  | t, false :: ms, _ :: ws => pinV (t + 1) ms ws
  | _, _, _ => []
theorem pinV_fst : ∀ {ms : List Bool} {ds : List V} {ws : List Value} {t : Nat}, ArgL cx w ok ms ds ws → (pinV t ms ws).map (·.1) = pinsOf t ms
  | [], _, ws, t, _ => by cases ws <;> rfl
  | true :: ms, d :: ds, v :: ws, t, h => by simp only [pinV, pinsOf, List.map_cons, pinV_fst h.2]
  | false :: ms, d :: ds, v :: ws, t, h => by simp only [pinV, pinsOf, pinV_fst h.2]
  | true :: _, [], _, _, h => h.elim
  | false :: _, [], _, _, h => h.elim
  | true :: _, _ :: _, [], _, h => h.elim
  | false :: _, _ :: _, [], _, h => h.elim
theorem pinV_get : ∀ {ms : List Bool} {ws : List Value} {t s : Nat} {v : Value}, (s, v) ∈ pinV t ms ws → t ≤ s ∧ ws[s - t]? = some v
  | [], ws, t, s, v, h => by cases ws <;> simp [pinV] at h
  | true :: ms, [], t, s, v, h => by simp [pinV] at h
  | false :: ms, [], t, s, v, h => by simp [pinV] at h
  | true :: ms, x :: ws, t, s, v, h => by
    simp only [pinV, List.mem_cons, Prod.mk.injEq] at h
    rcases h with ⟨rfl, rfl⟩ | h
    · simp
    · obtain ⟨h1, h2⟩ := pinV_get h
      exact ⟨by omega, by rw [show s - t = (s - (t + 1)) + 1 by omega]; simpa using h2⟩
  | false :: ms, x :: ws, t, s, v, h => by
    simp only [pinV] at h
    obtain ⟨h1, h2⟩ := pinV_get h
    exact ⟨by omega, by rw [show s - t = (s - (t + 1)) + 1 by omega]; simpa using h2⟩

theorem own_slice {sh : Nat} {e n : Nat} {v : Value} {xs : List Value} (h : w.ownsRow 0 e sh v n xs) : ∃ b c, v = .slice b n c := by
  rcases h.2 with ⟨rfl, rfl⟩ | ⟨g, c, cur, h1, _⟩
  · exact ⟨_, _, rfl⟩
  · exact ⟨_, _, h1⟩
theorem obj_slice (H : Heap cx F ι objs w) {o : Nat} {fr : Bool} {b : Arr} (h : find objs o = some (.arr fr b)) : ∃ b n c, ι.sv o = .slice b n c := by
  obtain ⟨sh, xs, k1, k2, k3, k4, _⟩ := H.obok o _ h
  obtain ⟨b, c, h⟩ := own_slice k4
  exact ⟨b, _, c, h⟩

theorem finC_ok (H : Heap cx F ι objs w') {okf : Nat → Prop} : ∀ {ds cs os : List V} {l : List Value} {bs : List Nat}, OwnL1 cx w okf ds l bs → All2 (VC cx w' (okOf w' objs ι) objs ι) cs l → finC objs cs = some os → All2 (OutV cx w') (slC ds l) os
  | [], [], os, [], _, _, _, hf => by simp only [finC, Option.some.injEq] at hf; subst hf; trivial
  | d :: ds, c :: cs, os, v :: l, bs, ho, hv, hf => by
    obtain ⟨b1, b2, _, h1, h2⟩ := ho
    cases c <;> simp only [finC] at hf <;> try (cases hf; done)
    case int k n =>
      have ih := finC_ok H h2 hv.2 hf
      have hv1 : v = .int k n := hv.1
      cases d <;> simp only [slC] <;> try exact ih
      obtain ⟨sh, xs, _, _, _, k4, _⟩ := h1
      obtain ⟨b, c, h⟩ := own_slice k4
      rw [hv1] at h; cases h
    case bool b =>
      have ih := finC_ok H h2 hv.2 hf
      have hv1 : v = .bool b := hv.1
      cases d <;> simp only [slC] <;> try exact ih
      obtain ⟨sh, xs, _, _, _, k4, _⟩ := h1
      obtain ⟨b, c, h⟩ := own_slice k4
      rw [hv1] at h; cases h
    case sref o =>
      split at hf
      case h_2 => cases hf
      rename_i fr a hq
      split at hf
      case h_2 => cases hf
      rename_i hr
      split at hf
      case h_2 => cases hf
      rename_i r hrr
      cases hf
      have ih := finC_ok H h2 hv.2 hrr
      obtain ⟨ob, e1, e2⟩ := hv.1
      rw [hq] at e1; cases e1
      have e2 := e2 _ _ rfl
      obtain ⟨b, n, c, e3⟩ := obj_slice H hq
      cases d
      case arr a0 =>
        exact ⟨⟨a, rfl, by rw [e2]; exact own_of_ob H hq hr⟩, ih⟩
      all_goals
        exfalso
        first
        | exact h1.elim
        | (obtain ⟨rfl, _⟩ := h1; rw [e3] at e2; cases e2)
  | [], _ :: _, _, [], _, _, hv, _ => hv.elim
  | [], _, _, _ :: _, _, ho, _, _ => ho.elim
  | _ :: _, _, _, [], _, ho, _, _ => ho.elim
  | _ :: _, [], _, _ :: _, _, _, hv, _ => hv.elim

theorem finM_ok (hs : Sim cx F ι σ a w') : ∀ {ms : List Bool} {ds : List V} {ws : List Value} {t : Nat} {r : List V} {us : List Nat}, ArgL cx w ok ms ds ws → (∀ s v, (s, v) ∈ pinV t ms ws → a.tmps.getD s Go.undef = v) → finM σ t ms = some (r, us) → All2 (OutV cx w') (slM ms ds ws) r
  | [], ds, ws, t, r, us, _, _, hf => by
    simp only [finM, Option.some.injEq, Prod.mk.injEq] at hf
    obtain ⟨rfl, _⟩ := hf
    cases ds <;> simp only [slM] <;> trivial
  | true :: ms, d :: ds, x :: ws, t, r, us, h, hp, hf => by
    simp only [finM] at hf
    split at hf
    case h_2 => cases hf
    rename_i v hv
    split at hf
    case h_2 => cases hf
    rename_i l r' us' hmv hfc hfm
    simp only [Option.some.injEq, Prod.mk.injEq] at hf
    obtain ⟨rfl, _⟩ := hf
    have hx : a.tmps.getD t Go.undef = x := hp t x (by simp [pinV])
    have hvr := hs.tmps t v hv
    rw [hx] at hvr
    have ih := finM_ok hs h.2 (fun s v hsv => hp s v (by simp only [pinV, List.mem_cons]; exact .inr hsv)) hfm
    simp only [slM]
    refine All2.append ?_ ih
    have h1 := h.1
    cases v <;> simp only [modeV] at hmv <;> try (cases hmv; done)
    case sref o =>
      simp only [cellsOf, finC] at hfc
      split at hfc
      case h_2 => cases hfc
      rename_i fr b hq
      split at hfc
      case h_2 => cases hfc
      rename_i hr
      cases hfc
      obtain ⟨ob, e1, e2⟩ := hvr
      rw [hq] at e1; cases e1
      have e2 := e2 _ _ rfl
      obtain ⟨b', n, c, e3⟩ := obj_slice hs.heap hq
      cases d
      case arr a0 => exact ⟨⟨b, rfl, by rw [e2]; exact own_of_ob hs.heap hq hr⟩, trivial⟩
      case agg ds0 =>
        obtain ⟨vs, h2, _⟩ := h1
        rw [e2, e3] at h2; cases h2
      all_goals
        exfalso
        first
        | exact h1.elim
        | (obtain ⟨h2, _⟩ := h1; rw [e2, e3] at h2; cases h2)
    case agg cs =>
      obtain ⟨l', rfl, hl⟩ := hvr
      cases d
      case agg ds0 =>
        obtain ⟨vs, h2, h3⟩ := h1
        have h2 := List.toArray_inj (Value.agg.inj h2)
        subst h2
        simp only [slA]
        exact finC_ok hs.heap h3 hl hfc
      case arr a0 =>
        obtain ⟨sh, xs, _, _, _, k4, _⟩ := h1
        obtain ⟨b, c, h⟩ := own_slice k4
        cases h
      all_goals
        exfalso
        first
        | exact h1.elim
        | (obtain ⟨h2, _⟩ := h1; cases h2)
  | false :: ms, d :: ds, x :: ws, t, r, us, h, hp, hf => by
    simp only [finM] at hf
    simp only [slM]
    exact finM_ok hs h.2 (fun s v hsv => hp s v (by simpa only [pinV] using hsv)) hf
  | true :: _, [], _, _, _, _, h, _, _ => h.elim
  | false :: _, [], _, _, _, _, h, _, _ => h.elim
  | true :: _, _ :: _, [], _, _, _, h, _, _ => h.elim
  | false :: _, _ :: _, [], _, _, _, h, _, _ => h.elim

theorem pfun_okM {E : Env} {fn : Func} {f : FuncId} {L : Nat → Lam} {N : Nat} {ms : List Bool} (hne : ms ≠ []) (hc : CxOk P cx) (hΓ : GamOk P cx E.Γ) (hm : P.follows .mixedOrders = true) (hinl : InlOk P E.inl) (hf : FnIs P f fn) (hchk : fnChk (pinsOf 0 ms) fn = true)
    (hL : LamOk cx (runD std cx E.inl E.Γ 3) E fn L N) {ds : List V} {k : V → R} {r : V} (h : pfun std cx ms E fn ds k = some r) :
    ∃ d, k d = some r ∧ ∀ w ws, ArgsM cx w ms ds ws → Calls P f ws.toArray w (DoneM cx w (slM ms ds ws) d) := by
  simp only [pfun] at h
  cases hb : fn.body with
  | none => rw [hb] at h; cases h
  | some c =>
    rw [hb] at h
    simp only at h
    split at h
    · cases h
    · rename_i hle
      have hle := Nat.le_of_ble_eq_true hle
      obtain ⟨c1, c2, c3⟩ := fnChk_ok hb hchk
      obtain ⟨e, σ', hk, hwp⟩ := pexec_sound (P := P) (E := E) (tr := false) (fn := fn) (n0 := (fn.ntmps, pinsOf 0 ms)) (B := c) hc hΓ hm (runD_ok hc hΓ hm hinl 3) hinl hb (fun h => by cases h) (fun _ => ⟨L, N, hL⟩)
        c 0 _ _ _ r h c1 c2 (fun p hp => find_of_nodup c3 hp)
      have fin : (e = .normal ∨ e = .ret) → retV cx ms fn σ' k = some r → ∃ d, k d = some r ∧ ∀ w ws, ArgsM cx w ms ds ws → Calls P f ws.toArray w (DoneM cx w (slM ms ds ws) d) := by
        intro he hr
        simp only [retV] at hr
        obtain ⟨vs, h1, h2⟩ := onOpt_some hr
        obtain ⟨⟨fs, us⟩, h3, h4⟩ := onOpt_some h2
        obtain ⟨⟨ds', u⟩, h5, h6⟩ := onOpt_some h4
        have h7 : k (.tup (ds' ++ fs)) = some r := by
          cases ms with
          | nil => exact (hne rfl).elim
          | cons m ms => exact h6
        refine ⟨_, h7, fun w ws hargs => ?_⟩
        obtain ⟨hnd, hargs⟩ := hargs
        -- the beginning
        let bs0 := blocksOf (slM ms ds ws)
        let F0 : Fr := ⟨fun b => w.heap.size ≤ b ∨ b ∈ bs0, fun b => w.heap.size ≤ b, w, fn.ntmps, pinV 0 ms ws, fun _ h => ⟨.inl h, h⟩, fun _ => True⟩
        obtain ⟨sv, N0, M, eN, hent⟩ := enter_ok (key := 0) (ok := fun b => b < w.heap.size ∧ b ∉ bs0) hargs hnd
        let ι0 : Im := ι00.ext sv
        have hob : ∀ o ob, find (enter 0 ms ds).2.1 o = some ob → ∃ a v b, ob = .arr false a ∧ find N0 o = some (.arr true a) ∧ find sv o = some v ∧ OwnArr cx w (fun _ => False) a v b := by
          intro o ob ho
          rw [eN, find_inObs, Option.map_eq_some_iff] at ho
          obtain ⟨x, hx, e⟩ := ho
          obtain ⟨a, v, b, rfl, h1, h2⟩ := M.ob o x hx
          exact ⟨a, v, b, e.symm, hx, h1, h2⟩
        have hblk : ∀ o v, find sv o = some v → ι0.blk o = v.ownBlock ∧ ι0.sv o = v := by
          intro o v hv
          simp [ι0, Im.ext, hv]
        have hH : Heap cx F0 ι0 (enter 0 ms ds).2.1 w := by
          refine ⟨fun o ob ho => ?_, fun o o' ob ob' b ho ho' _ _ hb hb' => ?_, fun o ob b ho _ hb => ?_, Nat.le_refl _, rfl, rfl, rfl, fun _ _ _ => rfl, fun o a b ho _ => ?_, fun _ _ => trivial, rfl⟩
          · obtain ⟨a, v, b, rfl, _, g2, sh, xs, k1, k2, k3, k4, _, k6⟩ := hob o ob ho
            obtain ⟨e1, e2⟩ := hblk o v g2
            refine ⟨sh, xs, k1, k2, k3, by rw [e2]; exact k4, by rw [e1, e2], fun i j hi hj => ?_⟩
            obtain ⟨cv, c1, c2⟩ := k6 i j hi hj
            exact ⟨cv, c1, c2.mono fun _ h => h.elim⟩
          · obtain ⟨a, v, _, _, _, g2, _⟩ := hob o ob ho
            obtain ⟨a', v', _, _, _, g2', _⟩ := hob o' ob' ho'
            rw [(hblk o v g2).1] at hb
            rw [(hblk o' v' g2').1] at hb'
            exact M.inj o o' v v' b g2 g2' hb hb'
          · obtain ⟨a, v, _, _, _, g2, sh, xs, k1, k2, k3, k4, _⟩ := hob o ob ho
            rw [(hblk o v g2).1] at hb
            exact ⟨.inr ((M.key o v g2).2.2.2 b hb), (World.ownsRow.lt k4 b hb).2⟩
          · obtain ⟨a', v, _, e, _⟩ := hob o _ ho
            cases e
        have hokm : ∀ b, (b < w.heap.size ∧ b ∉ bs0) → okOf w (enter 0 ms ds).2.1 ι0 b := by
          intro b hb
          refine ⟨hb.1, fun o ob ho _ hbk => ?_, trivial⟩
          obtain ⟨a, v, _, _, _, g2, _⟩ := hob o ob ho
          rw [(hblk o v g2).1] at hbk
          exact hb.2 ((M.key o v g2).2.2.2 b hbk)
        have hv : All2 (VR cx w (okOf w (enter 0 ms ds).2.1 ι0) (enter 0 ms ds).2.1 ι0) (enter 0 ms ds).1 ws := by
          refine hent _ ι0 _ hokm (fun o a ho => ⟨false, ?_⟩) (fun o u hu => (hblk o u hu).2)
          rw [eN, find_inObs, ho]; rfl
        have hs := sim_start (fn := fn) (F := F0) rfl hle (fun t v htv => by simpa using (pinV_get htv).2) hH hv
        refine calls_of_wp hf.get hb (wp_mono (hwp F0 ⟨rfl, pinV_fst hargs⟩ _ _ w hs) fun e' a' w' hq => ?_)
        obtain ⟨rfl, ι', hs', _⟩ := hq
        obtain ⟨ws', g1, g2⟩ := resVs_sound hc hs' h1
        obtain ⟨bs, o1, o2⟩ := ownAs_ok hs'.heap h5 g2
        have H := hs'.heap
        have hout := finM_ok hs' hargs hs'.pin h3
        have hdone : DoneM cx w (slM ms ds ws) (.tup (ds' ++ fs)) (.returned (packW ws')) w' := by
          refine ⟨packW ws', bs, okR w' σ'.objs ι' F0, ds', fs, rfl, rfl, hout, H.os, H.tape, H.output, H.size, fun b hb hnb => H.keep b hb (fun h => h.elim (fun h => by omega) hnb), pack_Own o1, o2.1, fun b hb => ?_, fun b hb => ⟨hb.2.1, hb.1.1, fun hbs => ?_, hb.2.2⟩⟩
          · obtain ⟨o, a, _, _, k3, k4⟩ := o2.2.2 b hb
            exact ⟨H.fresh o a b k3 k4, (H.own o _ b k3 trivial k4).2⟩
          · obtain ⟨o, a, _, _, k3, k4⟩ := o2.2.2 b hbs
            exact hb.1.2.1 o _ k3 trivial k4
        have hfin : a'.defers = [] ∧ ∃ v, (results fn a'.tmps).run P w' = .ok v w' ∧ DoneM cx w (slM ms ds ws) (.tup (ds' ++ fs)) (.returned v) w' := ⟨hs'.defers, _, results_run g1, hdone⟩
        rcases he with rfl | rfl
        · exact hfin
        · exact hfin
      cases e with
      | normal => exact fin (.inl rfl) hk
      | ret => exact fin (.inr rfl) hk
      | _ => cases hk
end
end PM

namespace PM
open Go

/-! ## The types' table, looked at -/
def bAnd (a b : Bool) : Bool := match a with | true => b | false => false
theorem bAnd_ok {a b : Bool} (h : bAnd a b = true) : a = true ∧ b = true := by
  cases a with
  | true => exact ⟨rfl, h⟩
  | false => cases h
def shOk (cx : Cx) (a : AK) : Bool := match shAK cx a with
  | some (_ :: _) => true
  | _ => false
def isEmp : Arr → Bool
  | .ints _ _ [] => true
  | .bools _ [] => true
  | .vecs _ _ [] => true
  | .rows _ [] => true
  | _ => false
def zeroChk (cx : Cx) : List V → List Value → Bool
  | [], [] => true
  | .int k n :: l, .int j m :: r => bAnd (decide (k = j)) (bAnd (decide (n = m)) (zeroChk cx l r))
  | .bool b :: l, .bool c :: r => bAnd (decide (b = c)) (zeroChk cx l r)
  | .arr a :: l, .slice none 0 0 :: r => bAnd (isEmp a) (bAnd (shOk cx (akOf a)) (zeroChk cx l r))
  | _, _ => false
def zeroKChk : List K → List Value → Bool
  | [], [] => true
  | .int k :: l, .int j n :: r => bAnd (decide (k = j)) (bAnd (decide (n = 0)) (zeroKChk l r))
  | .bool :: l, .bool b :: r => bAnd (decide (b = false)) (zeroKChk l r)
  | .sl _ :: l, .slice none 0 0 :: r => zeroKChk l r
  | _, _ => false
def fieldsChk (P : Program) : List Field → List Nat → List Nat → List TypeId → Bool
  | [], [], [], [] => true
  | f :: l, o :: os, s :: ss, t :: ts => match P.info? f.type with
    | none => false
    | some i => bAnd (Nat.beq f.offset o) (bAnd (Nat.beq f.type t) (bAnd (Nat.beq i.size s) (bAnd (Nat.blt 0 s) (fieldsChk P l os ss ts))))
  | _, _, _, _ => false
def eqFieldsChk (P : Program) : Nat → List Field → List K → Bool
  | _, [], [] => true
  | j, f :: l, k :: ks => bAnd (Nat.beq f.offset j) (bAnd (decide (f.name ≠ "_")) (bAnd (match k, P.underlying f.type with
    | .int i, some (.int i') => decide (i = i')
    | .bool, some .bool => true
    | _, _ => false) (eqFieldsChk P (j + 1) l ks)))
  | _, _, _ => false
def cellsZero (k : K) : List Value → Nat → Bool
  | [], 0 => true
  | v :: l, n + 1 => bAnd (zeroKChk [k] [v]) (cellsZero k l n)
  | _, _ => false
def isAggV : Value → Bool
  | .agg _ => true
  | _ => false
def sliceChk (P : Program) (cx : Cx) (d : TypeDesc) (e : AK) (esize : Nat) : Bool := match d with
  | .slice u => bAnd (Nat.beq u (tAK e)) (match shAK cx e, P.info? (tAK e) with
    | some sh, some ie => bAnd (Nat.blt 0 sh.length) (bAnd (Nat.beq ie.size sh.length) (bAnd (Nat.ble ie.bytes 65536) (bAnd (Nat.beq esize sh.length) (match ie.zero with
      | some ze => zeroKChk sh ze.cells.toList
      | none => false))))
    | _, _ => false)
  | _ => false
def convChk (ty : Ty) (d : TypeDesc) : Bool := match ty.isAgg, ty.elem, ty.shape with
  | false, none, [.int i] => (match d with
    | .int j => decide (i = j)
    | _ => false)
  | false, none, [.bool] => (match d with
    | .bool => true
    | _ => false)
  | _, _, _ => true
def eqChk (P : Program) (t : TypeId) (ty : Ty) (d : TypeDesc) : Bool := match ty.eqOk with
  | false => true
  | true => (match d with
    | .struct fs => bAnd (eqFieldsChk P 0 fs.toList ty.shape) (bAnd (match ty.shape with | [] => false | _ => true) (bAnd (decide (P.stoodInHeld t = false)) (decide (P.eqGuardType P.depth t = false))))
    | _ => false)
def structChk (P : Program) (ty : Ty) (d : TypeDesc) : Bool := match d with
  | .struct fs => fieldsChk P fs.toList ty.foffs ty.fsizes ty.ftys
  | _ => (match ty.foffs, ty.fsizes, ty.ftys with
    | [], [], [] => true
    | _, _, _ => false)
def isStruct : TypeDesc → Bool
  | .struct _ => true
  | _ => false
def arrChk (P : Program) (cx : Cx) (t : TypeId) (ty : Ty) (i : TypeInfo) (d : TypeDesc) (n : Nat) : Bool := match ty.elem, d with
  | some e, .array m ee => bAnd (Nat.beq m n) (bAnd (Nat.beq (tAK e) t) (bAnd (Nat.ble n 4096) (match shAK cx e, P.info? ee, i.zero with
    | some [k], some ie, some (.agg zc) => bAnd (Nat.beq ie.size 1) (cellsZero k zc.toList n)
    | _, _, _ => false)))
  | _, _ => false
def tyChk (P : Program) (cx : Cx) (t : TypeId) (ty : Ty) : Bool := match P.info? t, P.underlying t with
  | some i, some d => bAnd (Nat.beq i.size ty.size) (bAnd (decide (ty.isAgg = isAggD d)) (bAnd (structChk P ty d) (bAnd (convChk ty d) (bAnd (eqChk P t ty d) (match ty.alen with
    | some n => arrChk P cx t ty i d n
    | none => bAnd (match i.zero with
      | some z => bAnd (zeroChk cx ty.zero z.cells.toList) (match ty.isAgg with
        | true => bAnd (isAggV z) (isStruct d)
        | false => true)
      | none => false) (bAnd (Nat.beq ty.shape.length ty.size) (match ty.elem with
        | none => true
        | some e => sliceChk P cx d e ty.esize)))))))
  | _, _ => false
def cxChk (P : Program) (cx : Cx) : List (Nat × Ty) → Bool
  | [] => true
  | (t, ty) :: l => bAnd (tyChk P cx t ty) (cxChk P cx l)

section
variable {P : Program} {cx : Cx}
theorem isEmp_ok {a : Arr} (h : isEmp a = true) : rowsOf a = [] := by
  cases a <;> rename_i l <;> cases l <;> first | rfl | (simp [isEmp] at h)
theorem shOk_ok {a : AK} (h : shOk cx a = true) : ∃ sh, shAK cx a = some sh ∧ 0 < sh.length := by
  unfold shOk at h
  split at h
  · rename_i x sh hs; exact ⟨_, hs, by simp⟩
  · cases h
theorem zeroChk_ok : ∀ {l : List V} {r : List Value}, zeroChk cx l r = true → All2 (ZeroC cx) l r
  | [], [], _ => trivial
  | .int k n :: l, .int j m :: r, h => by
    simp only [zeroChk] at h
    replace h := bAnd_ok h; obtain ⟨h1, h⟩ := h
    replace h := bAnd_ok h; obtain ⟨h2, h⟩ := h
    rw [← of_decide_eq_true h1, ← of_decide_eq_true h2]
    exact ⟨rfl, zeroChk_ok h⟩
  | .bool b :: l, .bool c :: r, h => by
    simp only [zeroChk] at h
    replace h := bAnd_ok h; obtain ⟨h1, h⟩ := h
    rw [← of_decide_eq_true h1]
    exact ⟨rfl, zeroChk_ok h⟩
  | .arr a :: l, .slice none 0 0 :: r, h => by
    simp only [zeroChk] at h
    replace h := bAnd_ok h; obtain ⟨h1, h⟩ := h
    replace h := bAnd_ok h; obtain ⟨h2, h⟩ := h
    exact ⟨⟨isEmp_ok h1, shOk_ok h2, rfl⟩, zeroChk_ok h⟩
  | [], v :: _, h => by simp [zeroChk] at h
  | v :: _, [], h => by cases v <;> simp [zeroChk] at h
  | v :: l, u :: r, h => by
    unfold zeroChk at h
    split at h
    · simp_all
    · rename_i k n l' j m r' e1 e2
      cases e1; cases e2
      replace h := bAnd_ok h; obtain ⟨h1, h⟩ := h
      replace h := bAnd_ok h; obtain ⟨h2, h⟩ := h
      rw [← of_decide_eq_true h1, ← of_decide_eq_true h2]
      exact ⟨rfl, zeroChk_ok h⟩
    · rename_i b l' c r' e1 e2
      cases e1; cases e2
      replace h := bAnd_ok h; obtain ⟨h1, h⟩ := h
      rw [← of_decide_eq_true h1]
      exact ⟨rfl, zeroChk_ok h⟩
    · rename_i a l' r' e1 e2
      cases e1; cases e2
      replace h := bAnd_ok h; obtain ⟨h1, h⟩ := h
      replace h := bAnd_ok h; obtain ⟨h2, h⟩ := h
      exact ⟨⟨isEmp_ok h1, shOk_ok h2, rfl⟩, zeroChk_ok h⟩
    · cases h
theorem zeroKChk_ok : ∀ {l : List K} {r : List Value}, zeroKChk l r = true → All2 ZeroK l r
  | [], [], _ => trivial
  | [], v :: _, h => by simp [zeroKChk] at h
  | k :: _, [], h => by cases k <;> simp [zeroKChk] at h
  | k :: l, u :: r, h => by
    unfold zeroKChk at h
    split at h
    · simp_all
    · rename_i k l' j m r' e1 e2
      cases e1; cases e2
      replace h := bAnd_ok h; obtain ⟨h1, h⟩ := h
      replace h := bAnd_ok h; obtain ⟨h2, h⟩ := h
      rw [← of_decide_eq_true h1, of_decide_eq_true h2]
      exact ⟨rfl, zeroKChk_ok h⟩
    · rename_i l' c r' e1 e2
      cases e1; cases e2
      replace h := bAnd_ok h; obtain ⟨h1, h⟩ := h
      rw [of_decide_eq_true h1]
      exact ⟨rfl, zeroKChk_ok h⟩
    · rename_i a l' r' e1 e2
      cases e1; cases e2
      exact ⟨rfl, zeroKChk_ok h⟩
    · cases h
theorem beq_ok {a b : Nat} (h : Nat.beq a b = true) : a = b := Nat.eq_of_beq_eq_true h
theorem fieldsChk_ok : ∀ {l : List Field} {os ss : List Nat} {ts : List TypeId}, fieldsChk P l os ss ts = true →
    os.length = ss.length ∧ (l.mapM (fun f => (P.info? f.type).map fun i => (f.offset, i.size)) = some (os.zip ss)) ∧
    (∀ f off, nth os f = some off → ∃ (fl : Field) (fi : TypeInfo), l[f]? = some fl ∧ fl.offset = off ∧ P.info? fl.type = some fi ∧ fi.size ≠ 0) ∧
    ∀ f ft, nth ts f = some ft → ∀ fl : Field, l[f]? = some fl → fl.type = ft
  | [], [], [], [], _ => ⟨rfl, rfl, fun f off h => by cases f <;> simp [nth] at h, fun f ft h => by cases f <;> simp [nth] at h⟩
  | f :: l, o :: os, s :: ss, t :: ts, h => by
    simp only [fieldsChk] at h
    split at h
    · cases h
    · rename_i i hi
      replace h := bAnd_ok h; obtain ⟨h1, h⟩ := h
      replace h := bAnd_ok h; obtain ⟨h2, h⟩ := h
      replace h := bAnd_ok h; obtain ⟨h3, h⟩ := h
      replace h := bAnd_ok h; obtain ⟨h4, h⟩ := h
      have h1 := beq_ok h1; have h2 := beq_ok h2; have h3 := beq_ok h3
      have h4 := Nat.le_of_ble_eq_true h4
      obtain ⟨r1, r2, r3, r4⟩ := fieldsChk_ok h
      refine ⟨by simp [r1], by simp [List.mapM_cons, hi, r2, h1, h3], fun j off hj => ?_, fun j ft hj fl hfl => ?_⟩
      · cases j with
        | zero => simp [nth] at hj; exact ⟨f, i, by simp, by omega, hi, by omega⟩
        | succ j => simp only [nth] at hj; obtain ⟨fl, fi, k1, k2⟩ := r3 j off hj; exact ⟨fl, fi, by simpa using k1, k2⟩
      · cases j with
        | zero => simp [nth] at hj; simp at hfl; subst hfl; exact h2.trans hj
        | succ j => simp only [nth] at hj; exact r4 j ft hj fl (by simpa using hfl)
  | [], _ :: _, _, _, h => by simp [fieldsChk] at h
  | [], [], _ :: _, _, h => by simp [fieldsChk] at h
  | [], [], [], _ :: _, h => by simp [fieldsChk] at h
  | _ :: _, [], _, _, h => by simp [fieldsChk] at h
  | _ :: _, _ :: _, [], _, h => by simp [fieldsChk] at h
  | _ :: _, _ :: _, _ :: _, [], h => by simp [fieldsChk] at h
theorem eqFieldsChk_ok : ∀ {l : List Field} {ks : List K} {n : Nat}, eqFieldsChk P n l ks = true → l.length = ks.length ∧ ∀ (j : Nat) (fl : Field), l[j]? = some fl → fl.offset = n + j ∧ fl.name ≠ "_" ∧
      ((∃ k, ks[j]? = some (.int k) ∧ P.underlying fl.type = some (.int k)) ∨ (ks[j]? = some .bool ∧ P.underlying fl.type = some .bool))
  | [], [], n, _ => ⟨rfl, fun j fl h => by simp at h⟩
  | f :: l, k :: ks, n, h => by
    simp only [eqFieldsChk] at h
    replace h := bAnd_ok h; obtain ⟨h1, h⟩ := h
    replace h := bAnd_ok h; obtain ⟨h2, h⟩ := h
    replace h := bAnd_ok h; obtain ⟨h3, h⟩ := h
    obtain ⟨r1, r2⟩ := eqFieldsChk_ok h
    refine ⟨by simp [r1], fun j fl hj => ?_⟩
    cases j with
    | zero =>
      simp at hj; subst hj
      refine ⟨by have := beq_ok h1; omega, of_decide_eq_true h2, ?_⟩
      split at h3
      · rename_i i i' hk
        exact .inl ⟨i, by simp, by rw [of_decide_eq_true h3]; exact hk⟩
      · rename_i hk; exact .inr ⟨by simp, hk⟩
      · cases h3
    | succ j =>
      obtain ⟨k1, k2, k3⟩ := r2 j fl (by simpa using hj)
      exact ⟨by omega, k2, by simpa using k3⟩
  | [], _ :: _, _, h => by simp [eqFieldsChk] at h
  | _ :: _, [], _, h => by simp [eqFieldsChk] at h
theorem cellsZero_ok {k : K} : ∀ {l : List Value} {n : Nat}, cellsZero k l n = true → l.length = n ∧ ∀ v ∈ l, ZeroK k v
  | [], 0, _ => ⟨rfl, fun v h => by cases h⟩
  | v :: l, n + 1, h => by
    simp only [cellsZero] at h
    replace h := bAnd_ok h; obtain ⟨h1, h⟩ := h
    obtain ⟨r1, r2⟩ := cellsZero_ok h
    refine ⟨by simp [r1], fun u hu => ?_⟩
    rcases List.mem_cons.1 hu with rfl | hu
    · exact (zeroKChk_ok h1).1
    · exact r2 u hu
  | [], _ + 1, h => by simp [cellsZero] at h
  | _ :: _, 0, h => by simp [cellsZero] at h

theorem tyChk_ok {t : TypeId} {ty : Ty} (h : tyChk P cx t ty = true) : TyOk P cx t ty := by
  unfold tyChk at h
  split at h
  case h_2 => cases h
  rename_i i d hi hd
  replace h := bAnd_ok h; obtain ⟨h1, h⟩ := h
  replace h := bAnd_ok h; obtain ⟨h2, h⟩ := h
  replace h := bAnd_ok h; obtain ⟨h3, h⟩ := h
  replace h := bAnd_ok h; obtain ⟨h4, h⟩ := h
  replace h := bAnd_ok h; obtain ⟨h5, h⟩ := h
  replace h1 := beq_ok h1
  replace h2 := of_decide_eq_true h2
  have hstruct : ∀ f off, nth ty.foffs f = some off → ∃ (fs : Array Field) (fl : Field) (fi : TypeInfo), P.underlying t = some (.struct fs) ∧ fs[f]? = some fl ∧ fl.offset = off ∧ P.info? fl.type = some fi ∧ fi.size ≠ 0 := by
    intro f off hf
    unfold structChk at h3
    split at h3
    · rename_i fs
      obtain ⟨_, _, r3, _⟩ := fieldsChk_ok h3
      obtain ⟨fl, fi, k1, k2⟩ := r3 f off hf
      exact ⟨fs, fl, fi, hd, by simpa using k1, k2⟩
    · split at h3
      · rename_i e1 _ _; rw [e1] at hf; cases f <;> simp [nth] at hf
      · cases h3
  have hfty : ∀ f ft, nth ty.ftys f = some ft → ∀ (fs : Array Field) (fl : Field), P.underlying t = some (.struct fs) → fs[f]? = some fl → fl.type = ft := by
    intro f ft hf fs fl hfs hfl
    rw [hd] at hfs; cases hfs
    simp only [structChk] at h3
    exact (fieldsChk_ok h3).2.2.2 f ft hf fl (by simpa using hfl)
  have hconv : ∀ i, ty.isAgg = false → ty.elem = none → ty.shape = [.int i] → P.underlying t = some (.int i) := by
    intro i e1 e2 e3
    unfold convChk at h4
    rw [e1, e2, e3] at h4
    simp only at h4
    split at h4
    · rw [hd, of_decide_eq_true h4]
    · cases h4
  have hconvb : ty.isAgg = false → ty.elem = none → ty.shape = [.bool] → P.underlying t = some .bool := by
    intro e1 e2 e3
    unfold convChk at h4
    rw [e1, e2, e3] at h4
    simp only at h4
    split at h4
    · exact hd
    · cases h4
  have heq : ty.eqOk = true → (∃ fs, P.underlying t = some (.struct fs) ∧ fs.size = ty.shape.length ∧ ty.shape ≠ [] ∧ ∀ (j : Nat) (fl : Field), fs[j]? = some fl → fl.offset = j ∧ fl.name ≠ "_" ∧
      ((∃ k, ty.shape[j]? = some (.int k) ∧ P.underlying fl.type = some (.int k)) ∨ (ty.shape[j]? = some .bool ∧ P.underlying fl.type = some .bool))) ∧ P.stoodInHeld t = false ∧ P.eqGuardType P.depth t = false := by
    intro e
    unfold eqChk at h5
    rw [e] at h5
    simp only at h5
    split at h5
    · rename_i fs
      replace h5 := bAnd_ok h5; obtain ⟨k1, h5⟩ := h5
      replace h5 := bAnd_ok h5; obtain ⟨k2, h5⟩ := h5
      replace h5 := bAnd_ok h5; obtain ⟨k3, h5⟩ := h5
      obtain ⟨r1, r2⟩ := eqFieldsChk_ok k1
      refine ⟨⟨fs, hd, by simpa using r1, (fun e => by rw [e] at k2; cases k2), fun j fl hj => ?_⟩, of_decide_eq_true k3, of_decide_eq_true h5⟩
      obtain ⟨q1, q2⟩ := r2 j fl (by simpa using hj)
      exact ⟨by omega, q2⟩
    · cases h5
  split at h
  · rename_i n hal
    have harr : ∃ e k ee ie it zc, ty.elem = some e ∧ P.underlying t = some (.array n ee) ∧ tAK e = t ∧ shAK cx e = some [k] ∧ P.info? ee = some ie ∧ ie.size = 1 ∧
      P.info? t = some it ∧ it.zero = some (.agg zc) ∧ zc.toList.length = n ∧ ∀ v ∈ zc.toList, ZeroK k v := by
      unfold arrChk at h
      split at h
      case h_2 => cases h
      rename_i e m ee hel
      replace h := bAnd_ok h; obtain ⟨k1, h⟩ := h
      replace h := bAnd_ok h; obtain ⟨k2, h⟩ := h
      replace h := bAnd_ok h; obtain ⟨k3, h⟩ := h
      split at h
      case h_2 => cases h
      rename_i k ie zc e1 e2 e3
      replace h := bAnd_ok h; obtain ⟨k4, h⟩ := h
      obtain ⟨r1, r2⟩ := cellsZero_ok h
      replace k1 := beq_ok k1
      subst k1
      exact ⟨e, k, ee, ie, i, zc, hel, hd, beq_ok k2, e1, e2, beq_ok k4, hi, e3, r1, r2⟩
    have hn : n ≤ maxLen := by
      unfold arrChk at h
      split at h
      case h_2 => cases h
      replace h := bAnd_ok h; obtain ⟨_, h⟩ := h
      replace h := bAnd_ok h; obtain ⟨_, h⟩ := h
      obtain ⟨k3, _⟩ := bAnd_ok h
      have := Nat.le_of_ble_eq_true k3
      unfold maxLen; omega
    exact ⟨⟨i, hi, h1⟩, ⟨d, hd, h2⟩, (fun e => by rw [hal] at e; cases e), (fun e => by rw [hal] at e; cases e), (fun m hm => by rw [hal] at hm; cases hm; exact harr), hstruct, hfty, hconv, hconvb, heq,
      (fun e => by rw [hal] at e; cases e), (fun m hm => by rw [hal] at hm; cases hm; exact hn), fun e => by rw [hal] at e; cases e⟩
  · rename_i hal
    replace h := bAnd_ok h; obtain ⟨k1, h⟩ := h
    replace h := bAnd_ok h; obtain ⟨k2, h⟩ := h
    split at k1
    case h_2 => cases k1
    rename_i z hz
    obtain ⟨k3, k4⟩ := bAnd_ok k1
    refine ⟨⟨i, hi, h1⟩, ⟨d, hd, h2⟩, (fun _ => ⟨i, z, hi, hz, zeroChk_ok k3, fun e => ?_⟩), (fun _ e he => ?_), (fun m hm => by rw [hal] at hm; cases hm), hstruct, hfty, hconv, hconvb, heq,
      (fun _ => beq_ok k2), (fun m hm => by rw [hal] at hm; cases hm), fun _ e => ?_⟩
    · rw [e] at k4
      simp only at k4
      obtain ⟨k5, _⟩ := bAnd_ok k4
      cases z <;> simp [isAggV] at k5
      exact ⟨_, rfl⟩
    · rw [he] at h
      simp only [sliceChk] at h
      split at h
      case h_2 => cases h
      rename_i u
      replace h := bAnd_ok h; obtain ⟨q1, h⟩ := h
      split at h
      case h_2 => cases h
      rename_i sh ie e1 e2
      replace h := bAnd_ok h; obtain ⟨q2, h⟩ := h
      replace h := bAnd_ok h; obtain ⟨q3, h⟩ := h
      replace h := bAnd_ok h; obtain ⟨q4, h⟩ := h
      replace h := bAnd_ok h; obtain ⟨q5, h⟩ := h
      split at h
      case h_2 => cases h
      rename_i ze hze
      exact ⟨sh, ie, ze, by rw [hd, beq_ok q1], e1, Nat.le_of_ble_eq_true q2, e2, beq_ok q3, hze, zeroKChk_ok h, Nat.le_of_ble_eq_true q4, beq_ok q5⟩
    · rw [e] at k4
      simp only at k4
      obtain ⟨_, k5⟩ := bAnd_ok k4
      unfold structChk at h3
      cases d <;> simp [isStruct] at k5
      rename_i fs
      obtain ⟨r1, r2, _⟩ := fieldsChk_ok h3
      exact ⟨fs, hd, r1, r2⟩

theorem cxChk_ok (h : cxChk P cx cx = true) : CxOk P cx := by
  have main : ∀ l : List (Nat × Ty), cxChk P cx l = true → ∀ p ∈ l, TyOk P cx p.1 p.2 := by
    intro l
    induction l with
    | nil => intro _ p hp; cases hp
    | cons x l ih =>
      obtain ⟨t, ty⟩ := x
      intro h p hp
      simp only [cxChk] at h
      obtain ⟨h1, h2⟩ := bAnd_ok h
      rcases List.mem_cons.1 hp with rfl | hp
      · exact tyChk_ok h1
      · exact ih h2 p hp
  exact fun t ty hf => main cx h (t, ty) (find_mem hf)
end
end PM

namespace PM
open Go

/-! ## What a row's arguments are, as data -/
inductive FitC (cx : Cx) : K → C → Prop
  | int (k : IntKind) (c : C) : k.min ≤ asInt c → asInt c ≤ k.max → FitC cx (.int k) c
  | bool (c : C) : FitC cx .bool c
  | sl (u : TypeId) (ty : Ty) (e : AK) (sh : List K) (c : C) : find cx u = some ty → ty.alen = none → ty.elem = some e → shAK cx e = some sh → (asRows c).length ≤ maxLen → (∀ r ∈ asRows c, r.length = sh.length) →
      (∀ i j, i < (asRows c).length → j < sh.length → FitC cx (sh.getD j .bool) (cOf (asRows c) i j)) → FitC cx (.sl u) c
def FitArr (cx : Cx) : Arr → Prop
  | .ints _ k l => l.length ≤ maxLen ∧ ∀ n ∈ l, k.min ≤ n ∧ n ≤ k.max
  | .bools _ l => l.length ≤ maxLen
  | .vecs _ n l => l.length ≤ maxLen ∧ ∀ r ∈ l, r.length = n ∧ ∀ x ∈ r, IntKind.i64.min ≤ x ∧ x ≤ IntKind.i64.max
  | .rows t l => l.length ≤ maxLen ∧ ∀ sh, shAK cx (.rows t) = some sh → ∀ r ∈ l, r.length = sh.length ∧ ∀ j, j < sh.length → FitC cx (sh.getD j .bool) (cAt r j)
def FitV (cx : Cx) : K → V → Prop
  | .int k, x => ∃ n, x = .int k n ∧ k.min ≤ n ∧ n ≤ k.max
  | .bool, x => ∃ b, x = .bool b
  | .sl u, x => ∃ ty e a, find cx u = some ty ∧ ty.elem = some e ∧ x = .arr a ∧ akOf a = e ∧ FitArr cx a
def FitA (cx : Cx) (ty : Ty) (x : V) : Prop := match ty.isAgg with
  | true => ∃ cs, x = .agg cs ∧ All2 (FitV cx) ty.shape cs
  | false => ∃ k, ty.shape = [k] ∧ FitV cx k x

def kEq : K → K → Bool
  | .int k, .int j => decide (k = j)
  | .bool, .bool => true
  | .sl t, .sl u => Nat.beq t u
  | _, _ => false
theorem kEq_ok {a b : K} (h : kEq a b = true) : a = b := by
  cases a <;> cases b <;> simp only [kEq] at h <;> try (cases h; done)
  · rw [of_decide_eq_true h]
  · rfl
  · rw [Nat.eq_of_beq_eq_true h]
/-- What is left behind a beginning. -/
def strip : List K → List K → Option (List K)
  | [], l => some l
  | k :: ks, j :: l => match kEq k j with
    | true => strip ks l
    | false => none
  | _ :: _, [] => none
theorem strip_ok : ∀ {ks l r : List K}, strip ks l = some r → l = ks ++ r
  | [], l, r, h => by simp [strip] at h; simp [h]
  | k :: ks, j :: l, r, h => by
    simp only [strip] at h
    split at h
    · rename_i hk; rw [kEq_ok hk, strip_ok h]; rfl
    · cases h
  | _ :: _, [], _, h => by simp [strip] at h
def fieldsRead (cx : Cx) : List Field → Nat → List K → Bool
  | [], _, [] => true
  | f :: l, off, sh => bAnd (Nat.beq f.offset off) (match find cx f.type with
    | none => false
    | some tf => match tf.alen with
      | some _ => false
      | none => match strip tf.shape sh with
        | none => false
        | some rest => fieldsRead cx l (off + tf.shape.length) rest)
  | _, _, _ => false
def tyRead (P : Program) (cx : Cx) (t : TypeId) (ty : Ty) : Bool := match ty.alen with
  | some _ => true
  | none => match P.underlying t with
    | some (.int k) => (match ty.shape with
      | [.int j] => decide (k = j)
      | _ => false)
    | some .bool => (match ty.shape with
      | [.bool] => true
      | _ => false)
    | some (.slice u) => (match ty.shape, ty.elem with
      | [.sl v], some e => bAnd (Nat.beq v t) (bAnd (Nat.beq (tAK e) u) (match find cx u, shAK cx e with
        | some tu, some sh => bAnd (match tu.alen with | none => true | some _ => false) (match strip sh tu.shape with | some [] => true | _ => false)
        | _, _ => false))
      | _, _ => false)
    | some (.struct fs) => fieldsRead cx fs.toList 0 ty.shape
    | _ => false
def cxRead (P : Program) (cx : Cx) : List (Nat × Ty) → Bool
  | [] => true
  | (t, ty) :: l => bAnd (tyRead P cx t ty) (cxRead P cx l)
def CxRead (P : Program) (cx : Cx) : Prop := ∀ t ty, find cx t = some ty → tyRead P cx t ty = true
theorem cxRead_ok {P : Program} {cx : Cx} (h : cxRead P cx cx = true) : CxRead P cx := by
  have main : ∀ l : List (Nat × Ty), cxRead P cx l = true → ∀ p ∈ l, tyRead P cx p.1 p.2 = true := by
    intro l
    induction l with
    | nil => intro _ p hp; cases hp
    | cons x l ih =>
      obtain ⟨t, ty⟩ := x
      intro h p hp
      simp only [cxRead] at h
      obtain ⟨h1, h2⟩ := bAnd_ok h
      rcases List.mem_cons.1 hp with rfl | hp
      · exact h1
      · exact ih h2 p hp
  exact fun t ty hf => main cx h (t, ty) (find_mem hf)

section
variable {P : Program} {cx : Cx} {w : World} {H : Type} {enc : TypeId × Value → H} {base : Nat} {spare : Nat → Bool} {held : Bool}

structure RowOk (cx : Cx) (w : World) (sh : List K) (row : List C) (cs : List Value) : Prop where
  rlen : row.length = sh.length
  clen : cs.length = sh.length
  cell : ∀ j, j < sh.length → CellV cx w (fun b => b < w.heap.size) (sh.getD j .bool) (cAt row j) (cs.getD j Go.undef)
  fit : ∀ j, j < sh.length → FitC cx (sh.getD j .bool) (cAt row j)

theorem RowOk.one {k : K} {c : C} {v : Value} (h1 : CellV cx w (fun b => b < w.heap.size) k c v) (h2 : FitC cx k c) : RowOk cx w [k] [c] [v] :=
  ⟨rfl, rfl, fun j hj => by have : j = 0 := by simp at hj; omega
                            subst this; exact h1, fun j hj => by have : j = 0 := by simp at hj; omega
                                                                 subst this; exact h2⟩
theorem RowOk.app {s1 s2 : List K} {r1 r2 : List C} {c1 c2 : List Value} (h : RowOk cx w s1 r1 c1) (g : RowOk cx w s2 r2 c2) : RowOk cx w (s1 ++ s2) (r1 ++ r2) (c1 ++ c2) := by
  have e : ∀ j, j < (s1 ++ s2).length → (j < s1.length ∧ (s1 ++ s2).getD j .bool = s1.getD j .bool ∧ cAt (r1 ++ r2) j = cAt r1 j ∧ (c1 ++ c2).getD j Go.undef = c1.getD j Go.undef) ∨
      (∃ i, i < s2.length ∧ (s1 ++ s2).getD j .bool = s2.getD i .bool ∧ cAt (r1 ++ r2) j = cAt r2 i ∧ (c1 ++ c2).getD j Go.undef = c2.getD i Go.undef) := by
    intro j hj
    simp at hj
    have a1 := h.rlen; have a2 := h.clen
    by_cases hlt : j < s1.length
    · left
      refine ⟨hlt, ?_, ?_, ?_⟩
      · simp [List.getD_eq_getElem?_getD, List.getElem?_append_left hlt]
      · simp [cAt, List.getD_eq_getElem?_getD, List.getElem?_append_left (show j < r1.length by omega)]
      · simp [List.getD_eq_getElem?_getD, List.getElem?_append_left (show j < c1.length by omega)]
    · right
      refine ⟨j - s1.length, by omega, ?_, ?_, ?_⟩
      · simp [List.getD_eq_getElem?_getD, List.getElem?_append_right (Nat.le_of_not_lt hlt)]
      · simp [cAt, List.getD_eq_getElem?_getD, List.getElem?_append_right (show r1.length ≤ j by omega), a1]
      · simp [List.getD_eq_getElem?_getD, List.getElem?_append_right (show c1.length ≤ j by omega), a2]
  refine ⟨by simp [h.rlen, g.rlen], by simp [h.clen, g.clen], fun j hj => ?_, fun j hj => ?_⟩
  · rcases e j hj with ⟨h1, h2, h3, h4⟩ | ⟨i, h1, h2, h3, h4⟩
    · rw [h2, h3, h4]; exact h.cell j h1
    · rw [h2, h3, h4]; exact g.cell i h1
  · rcases e j hj with ⟨h1, h2, h3, h4⟩ | ⟨i, h1, h2, h3, h4⟩
    · rw [h2, h3]; exact h.fit j h1
    · rw [h2, h3]; exact g.fit i h1

theorem cells?_get {a : Addr} {n : Nat} {cs : List Value} (h : w.cells? base a n = some cs) : cs.length = n ∧ ∀ j, j < n → w.cell? (a.add j) = some (cs.getD j Go.undef) := by
  unfold World.cells? at h
  split at h
  · have hl := mapM_some_length h
    have hg := mapM_some_get h
    simp at hl
    refine ⟨hl, fun j hj => ?_⟩
    have := hg j j (by simp [hj])
    rw [this, List.getD_eq_getElem?_getD]
    rw [List.getElem?_eq_getElem (by omega)]
    rfl
  · cases h

theorem read_row (hc : CxOk P cx) (hr : CxRead P cx) : ∀ (fuel : Nat) (t : TypeId) (ty : Ty) (cs : List Value) (x : DataW H × List MemPlace), find cx t = some ty → ty.alen = none →
    DataW.trod enc P w base spare held fuel t cs = some x → ∃ row, RowOk cx w ty.shape row cs := by
  intro fuel
  induction fuel with
  | zero => intro t ty cs x _ _ h; simp [DataW.trod] at h
  | succ n ih =>
    intro t ty cs x hty hal h
    have hrd := hr t ty hty
    unfold tyRead at hrd
    rw [hal] at hrd
    simp only at hrd
    split at hrd
    · rename_i k hk
      obtain ⟨m, rfl, _, hwf⟩ := DataW.trod_int hk h
      split at hrd
      · rename_i j hsh
        have := of_decide_eq_true hrd
        subst this
        rw [hsh]
        simp [Lit.wf] at hwf
        exact ⟨[.i m], .one (.int k (.i m)) (.int k (.i m) hwf.1 hwf.2)⟩
      · cases hrd
    · rename_i hk
      obtain ⟨b, rfl, _⟩ := DataW.trod_bool hk h
      split at hrd
      · rename_i hsh
        rw [hsh]
        exact ⟨[.b b], .one (.bool (.b b)) (.bool (.b b))⟩
      · cases hrd
    · rename_i u hk
      split at hrd
      case h_2 => cases hrd
      rename_i v e hsh hel
      obtain ⟨h1, hrd⟩ := bAnd_ok hrd
      obtain ⟨h2, hrd⟩ := bAnd_ok hrd
      split at hrd
      case h_2 => cases hrd
      rename_i tu sh htu hshe
      obtain ⟨h3, h4⟩ := bAnd_ok hrd
      have h1 := beq_ok h1
      subst h1
      have h2 := beq_ok h2
      have htal : tu.alen = none := by
        split at h3
        · assumption
        · cases h3
      have hst : tu.shape = sh := by
        split at h4
        · rename_i hs; have := strip_ok hs; simpa using this
        · cases h4
      rw [hsh]
      rcases DataW.trod_slice hk h with ⟨rfl, _⟩ | ⟨a, len, cap, elems, rest, m, hm, rfl, _, _, hl, hcap, hlen, hel', _⟩
      · exact ⟨[.s []], .one (.emp _ _ none 0 rfl) (.sl _ ty e sh _ hty hal hel hshe (by simp [asRows]) (fun r hr => by simp [asRows] at hr) (fun i j hi => by simp [asRows] at hi))⟩
      · cases hm
        obtain ⟨ti, hti, hts⟩ := (hc u tu htu).info
        have hsz : P.cellsOf u = sh.length := by
          have := (hc u tu htu).shape htal
          simp [Program.cellsOf, hti, hts, ← hst, this]
        have each : ∀ i, i < len → ∃ (row : List C) (cs : List Value), RowOk cx w sh row cs ∧ w.cells? base (a.add (i * sh.length)) sh.length = some cs := by
          intro i hi
          have := hel' i hi
          rw [List.getElem?_eq_getElem (by omega)] at this
          obtain ⟨cs', q1, q2⟩ := Option.bind_eq_some_iff.1 this
          obtain ⟨row, hrow⟩ := ih u tu cs' _ htu htal q2
          rw [hsz] at q1
          exact ⟨row, cs', by rw [← hst]; exact hrow, q1⟩
        obtain ⟨rowf, csf, hf⟩ : ∃ (rowf : Nat → List C) (csf : Nat → List Value), ∀ i, i < len → RowOk cx w sh (rowf i) (csf i) ∧ w.cells? base (a.add (i * sh.length)) sh.length = some (csf i) := by
          refine ⟨fun i => if h : i < len then Classical.choose (each i h) else [], fun i => if h : i < len then Classical.choose (Classical.choose_spec (each i h)) else [], fun i hi => ?_⟩
          simp only [hi, dif_pos]
          exact Classical.choose_spec (Classical.choose_spec (each i hi))
        obtain ⟨sh', _, _, hu', hsh', hpos, _⟩ := (hc _ ty hty).slice hal e hel
        rw [hshe] at hsh'; cases hsh'
        by_cases h0 : len = 0
        · subst h0
          exact ⟨[.s []], .one (.emp _ _ _ cap rfl) (.sl _ ty e sh _ hty hal hel hshe (by simp [asRows]) (fun r hr => by simp [asRows] at hr) (fun i j hi => by simp [asRows] at hi))⟩
        · let rows := (List.range len).map rowf
          have hrl : rows.length = len := by simp [rows]
          have hget : ∀ i, i < len → rows.getD i [] = rowf i := fun i hi => by simp [rows, List.getD_eq_getElem?_getD, hi]
          have hspot : a.spot = none := by
            obtain ⟨_, q2⟩ := cells?_get (hf 0 (by omega)).2
            have := World.cell?_spot (q2 0 hpos)
            simpa [Addr.add] using this
          have hcell : ∀ i j, i < len → j < sh.length → w.cell? ⟨a.block, a.off + (i * sh.length + j), none⟩ = some ((csf i).getD j Go.undef) := by
            intro i j hi hj
            obtain ⟨_, q2⟩ := cells?_get (hf i hi).2
            have := q2 j hj
            obtain ⟨ab, ao, asp⟩ := a
            simp only at hspot; subst hspot
            rw [Addr.add_lit, Addr.add_lit] at this
            rw [← this]
            simp only [Nat.add_assoc]
          have hblk : a.block < w.heap.size := World.block_lt_of_cell? w ⟨a.block, a.off + (0 * sh.length + 0), none⟩ (hcell 0 0 (by omega) hpos)
          have hwf : ∀ r ∈ rows, r.length = sh.length := by
            intro r hr
            obtain ⟨i, hi, rfl⟩ := List.mem_map.1 hr
            exact (hf i (by simpa using hi)).1.rlen
          have hcv := CellV.sl (cx := cx) (w := w) (ok := fun b => b < w.heap.size) _ ty e sh (.s rows) a cap (fun i j => (csf i).getD j Go.undef) hty hel hshe hspot (by show rows.length ≤ cap; omega) hblk hwf
            (fun i j hi hj => hcell i j (by simpa [asRows, hrl] using hi) hj)
            (fun i j hi hj => by
              have hi : i < len := by simpa [asRows, hrl] using hi
              have := (hf i hi).1.cell j hj
              rw [← hget i hi] at this
              exact this)
          have hfit := FitC.sl (cx := cx) _ ty e sh (.s rows) hty hal hel hshe (by show rows.length ≤ maxLen; omega) hwf
            (fun i j hi hj => by
              have hi : i < len := by simpa [asRows, hrl] using hi
              have := (hf i hi).1.fit j hj
              rw [← hget i hi] at this
              exact this)
          have e1 : (asRows (.s rows)).length = len := hrl
          rw [e1] at hcv
          exact ⟨[.s rows], .one hcv hfit⟩
    · rename_i fs hk
      obtain ⟨xs, m, hm, _, hlen, hxl, hx⟩ := DataW.trod_struct hk h
      cases hm
      obtain ⟨ti, hti, hts⟩ := (hc t ty hty).info
      have hsz : cs.length = ty.shape.length := by
        have := (hc t ty hty).shape hal
        rw [hlen]; simp [Program.cellsOf, hti, hts, this]
      have hall : ∀ f ∈ fs.toList, ∃ y, DataW.trod enc P w base spare held n f.type ((cs.drop f.offset).take (P.cellsOf f.type)) = some y := by
        intro f hf
        obtain ⟨i, hi⟩ := List.mem_iff_getElem?.1 hf
        have hlt : i < fs.size := by
          have := (List.getElem?_eq_some_iff.1 hi).1
          simpa using this
        have := hx i f (by simpa using hi)
        rw [List.getElem?_eq_getElem (by omega)] at this
        exact ⟨_, this⟩
      have main : ∀ (l : List Field) (off : Nat) (sh : List K), fieldsRead cx l off sh = true → cs.length = off + sh.length →
          (∀ f ∈ l, ∃ y, DataW.trod enc P w base spare held n f.type ((cs.drop f.offset).take (P.cellsOf f.type)) = some y) → ∃ row, RowOk cx w sh row (cs.drop off) := by
        intro l
        induction l with
        | nil =>
          intro off sh hrd hl _
          cases sh with
          | nil => exact ⟨[], rfl, by simp at hl ⊢; omega, fun j hj => by simp at hj, fun j hj => by simp at hj⟩
          | cons => simp [fieldsRead] at hrd
        | cons f l ihl =>
          intro off sh hrd hl hall
          simp only [fieldsRead] at hrd
          obtain ⟨h1, hrd⟩ := bAnd_ok hrd
          have h1 := beq_ok h1
          split at hrd
          · cases hrd
          · rename_i tf htf
            split at hrd
            · cases hrd
            · rename_i hfal
              split at hrd
              · cases hrd
              · rename_i rest hst
                have hsh := strip_ok hst
                obtain ⟨fi, hfi, hfs⟩ := (hc _ tf htf).info
                have hfz : P.cellsOf f.type = tf.shape.length := by
                  have := (hc _ tf htf).shape hfal
                  simp [Program.cellsOf, hfi, hfs, this]
                obtain ⟨y, hy⟩ := hall f (by simp)
                rw [h1, hfz] at hy
                obtain ⟨r1, q1⟩ := ih f.type tf _ _ htf hfal hy
                obtain ⟨r2, q2⟩ := ihl (off + tf.shape.length) rest hrd (by rw [hl, hsh]; simp; omega) (fun f' hf' => hall f' (List.mem_cons.2 (.inr hf')))
                refine ⟨r1 ++ r2, ?_⟩
                have e : cs.drop off = (cs.drop off).take tf.shape.length ++ cs.drop (off + tf.shape.length) := by
                  rw [← List.drop_drop, List.take_append_drop]
                rw [e, hsh]
                exact q1.app q2
      obtain ⟨row, hrow⟩ := main fs.toList 0 ty.shape hrd (by omega) hall
      exact ⟨row, by simpa using hrow⟩
    · cases hrd
end
end PM

namespace PM
open Go RowKit

section
variable {P : Program} {cx : Cx} {w : World} {H : Type} {enc : TypeId × Value → H} {base : Nat} {spare : Nat → Bool} {held : Bool}

def mkArr : AK → List (List C) → Arr
  | .ints t k, rows => .ints t k (rows.map fun r => asInt (cAt r 0))
  | .bools t, rows => .bools t (rows.map fun r => asBool (cAt r 0))
  | .vecs t n, rows => .vecs t n (rows.map fun r => (List.range n).map fun q => asInt (cAt r q))
  | .rows t, rows => .rows t rows

theorem replicate_getD {n j : Nat} {k : K} (h : j < n) : (List.replicate n k).getD j .bool = k := by
  simp [List.getD_eq_getElem?_getD, List.getElem?_replicate, h]
theorem getD_of_mem {rows : List (List C)} {r : List C} (h : r ∈ rows) : ∃ i, i < rows.length ∧ rows.getD i [] = r := by
  obtain ⟨i, hi⟩ := List.mem_iff_getElem?.1 h
  exact ⟨i, (List.getElem?_eq_some_iff.1 hi).1, by rw [List.getD_eq_getElem?_getD, hi]; rfl⟩

theorem fit_mkArr {e : AK} {sh : List K} {rows : List (List C)} (hsh : shAK cx e = some sh) (hl : rows.length ≤ maxLen) (hw : ∀ r ∈ rows, r.length = sh.length)
    (hf : ∀ i j, i < rows.length → j < sh.length → FitC cx (sh.getD j .bool) (cOf rows i j)) : FitArr cx (mkArr e rows) := by
  have at' : ∀ r ∈ rows, ∀ j, j < sh.length → FitC cx (sh.getD j .bool) (cAt r j) := by
    intro r hr j hj
    obtain ⟨i, hi, he⟩ := getD_of_mem hr
    have := hf i j hi hj
    unfold cOf at this
    rwa [he] at this
  cases e with
  | ints t k =>
    simp only [shAK, Option.some.injEq] at hsh; subst hsh
    refine ⟨by simpa [mkArr] using hl, fun n hn => ?_⟩
    obtain ⟨r, hr, rfl⟩ := List.mem_map.1 hn
    have := at' r hr 0 (by simp)
    cases this; exact ⟨by assumption, by assumption⟩
  | bools t => simpa [mkArr, FitArr] using hl
  | vecs t n =>
    simp only [shAK, Option.some.injEq] at hsh; subst hsh
    refine ⟨by simpa [mkArr] using hl, fun r hr => ?_⟩
    obtain ⟨r0, hr0, rfl⟩ := List.mem_map.1 hr
    refine ⟨by simp, fun x hx => ?_⟩
    obtain ⟨q, hq, rfl⟩ := List.mem_map.1 hx
    have hq : q < n := by simpa using hq
    have := at' r0 hr0 q (by simpa using hq)
    rw [replicate_getD hq] at this
    cases this; exact ⟨by assumption, by assumption⟩
  | rows t =>
    refine ⟨hl, fun sh' hsh' r hr => ?_⟩
    rw [hsh] at hsh'; cases hsh'
    exact ⟨hw r hr, at' r hr⟩

theorem cell_value (hc : CxOk P cx) (hr : CxRead P cx) {k : K} {c : C} {cv : Value} (h : CellV cx w (fun b => b < w.heap.size) k c cv) (hf : FitC cx k c) (ι : Im) :
    ∃ x, VC cx w (fun b => b < w.heap.size) [] ι x cv ∧ FitV cx k x := by
  cases k with
  | int k => cases hf; exact ⟨.int k (asInt c), h.int_inv, _, rfl, by assumption, by assumption⟩
  | bool => exact ⟨.bool (asBool c), h.bool_inv, _, rfl⟩
  | sl u =>
    cases hf with
    | sl _ ty e sh _ hty hal hel hsh hl hw hfit =>
      have hrd := hr u ty hty
      have hshape : ty.alen = none → ty.shape = [.sl u] := by
        intro hal
        unfold tyRead at hrd
        rw [hal] at hrd
        simp only at hrd
        split at hrd
        · rename_i k hk
          split at hrd
          · rename_i j hs
            have := (hc u ty hty).slice hal e hel
            obtain ⟨_, _, _, hu, _⟩ := this
            rw [hk] at hu; cases hu
          · cases hrd
        · rename_i hk
          obtain ⟨_, _, _, hu, _⟩ := (hc u ty hty).slice hal e hel
          rw [hk] at hu; cases hu
        · split at hrd
          · rename_i v e' hs he'
            obtain ⟨h1, _⟩ := bAnd_ok hrd
            rw [hs, beq_ok h1]
          · cases hrd
        · rename_i fs hk
          obtain ⟨_, _, _, hu, _⟩ := (hc u ty hty).slice hal e hel
          rw [hk] at hu; cases hu
        · cases hrd
      have hs := hshape hal
      have hagg : ∀ x, aget std cx (.rows u [[c]]) 0 0 = some x → VC cx w (fun b => b < w.heap.size) [] ι x cv := by
        intro x hx
        have hsh' : shAK cx (akOf (.rows u [[c]])) = some [.sl u] := by simp [akOf, shAK, hty, hs]
        exact (aget_ok (w := w) (ok := fun b => b < w.heap.size) hx hsh' (shs_of hc)).2.2 cv [] ι h
      refine ⟨.arr (mkArr e (asRows c)), hagg _ ?_, ty, e, _, hty, hel, rfl, ?_, fit_mkArr hsh hl hw hfit⟩
      · simp only [aget, hty, hs, nth, hel]
        cases e <;> rfl
      · cases e <;> rfl

theorem row_values (hc : CxOk P cx) (hr : CxRead P cx) (ι : Im) : ∀ {sh : List K} {row : List C} {cs : List Value}, RowOk cx w sh row cs → ∃ xs, All2 (VC cx w (fun b => b < w.heap.size) [] ι) xs cs ∧ All2 (FitV cx) sh xs
  | [], row, cs, h => by
    have := List.eq_nil_of_length_eq_zero h.clen
    subst this
    exact ⟨[], trivial, trivial⟩
  | k :: sh, row, cs, h => by
    cases row with
    | nil => have := h.rlen; simp at this
    | cons c row =>
    cases cs with
    | nil => have := h.clen; simp at this
    | cons v cs =>
      obtain ⟨x, h1, h2⟩ := cell_value hc hr (h.cell 0 (by simp)) (h.fit 0 (by simp)) ι
      have hrest : RowOk cx w sh row cs := ⟨by simpa using h.rlen, by simpa using h.clen, fun j hj => h.cell (j + 1) (by simpa using hj), fun j hj => h.fit (j + 1) (by simpa using hj)⟩
      obtain ⟨xs, h3, h4⟩ := row_values hc hr ι hrest
      exact ⟨x :: xs, ⟨h1, h3⟩, h2, h4⟩

/-- An argument as data. -/
theorem read_arg (hc : CxOk P cx) (hr : CxRead P cx) {r : Reach} {b0 : Nat} {t : TypeId} {ty : Ty} {v : Value} {d : DataW H} {ps : List MemPlace} (hty : find cx t = some ty) (hal : ty.alen = none)
    (hval : Value.okWide P w r b0 t v) (h : DataW.Trod enc P w base spare held t v d ps) : ∃ x, VA cx w (fun b => b < w.heap.size) [] ⟨fun _ => none, fun _ => Go.undef, fun _ => True⟩ x v ∧ FitA cx ty x := by
  obtain ⟨fuel, hf⟩ := h
  obtain ⟨row, hrow⟩ := read_row hc hr fuel t ty _ _ hty hal hf
  obtain ⟨xs, h1, h2⟩ := row_values hc hr ⟨fun _ => none, fun _ => Go.undef, fun _ => True⟩ hrow
  cases hag : ty.isAgg with
  | true =>
    obtain ⟨fs, hu, _⟩ := (hc t ty hty).parts hal hag
    simp only [Value.okWide, hu] at hval
    obtain ⟨cs, rfl, _⟩ := hval
    refine ⟨.agg xs, ⟨cs.toList, by simp, by simpa [Value.cells] using h1⟩, ?_⟩
    unfold FitA
    rw [hag]
    exact ⟨xs, rfl, h2⟩
  | false =>
    obtain ⟨d', hd, hagd⟩ := (hc t ty hty).und
    rw [hag] at hagd
    have hone : v.oneCell' = true ∧ ∃ k, ty.shape = [k] := by
      have hrd := hr t ty hty
      unfold tyRead at hrd
      rw [hal] at hrd
      simp only at hrd
      split at hrd
      · rename_i k hk
        obtain ⟨n, rfl⟩ := WideShapes.okWide_int hk hval
        refine ⟨rfl, ?_⟩
        split at hrd
        · rename_i j hs; exact ⟨_, hs⟩
        · cases hrd
      · rename_i hk
        obtain ⟨n, rfl⟩ := WideShapes.okWide_bool hk hval
        refine ⟨rfl, ?_⟩
        split at hrd
        · rename_i hs; exact ⟨_, hs⟩
        · cases hrd
      · rename_i u hk
        obtain ⟨a, len, cap, rfl⟩ := WideShapes.okWide_slice hk hval
        refine ⟨rfl, ?_⟩
        split at hrd
        · rename_i v e hs _; exact ⟨_, hs⟩
        · cases hrd
      · rename_i fs hk
        rw [hk] at hd; cases hd; cases hagd
      · cases hrd
    obtain ⟨h3, k, hk⟩ := hone
    rw [cells_one h3] at h1
    rw [hk] at h2
    rcases xs with _ | ⟨x, _ | ⟨y, xs⟩⟩
    · exact h2.elim
    · refine ⟨x, VA_of_VC h1.1, ?_⟩
      unfold FitA
      rw [hag]
      exact ⟨k, hk, h2.1⟩
    · exact h2.2.elim

/-! ## Small joints -/
theorem GamOk.nil : GamOk P cx [] := fun f e h => by simp [find_nil] at h
theorem GamOk.cons {f : FuncId} {e : En} {l : Gam} (h : GOk P cx f e) (hl : GamOk P cx l) : GamOk P cx ((f, e) :: l) := fun g e' hg => by
  rw [find_cons] at hg
  split at hg
  · rename_i he; subst he; cases hg; exact h
  · exact hl g e' hg
theorem InlOk.nil : InlOk P [] := fun f e h => by simp [find_nil] at h
theorem InlOk.cons {f : FuncId} {fn : Func} {l : List (Nat × Func)} (h : FnIs P f fn) (hc : fnChk [] fn = true) (hl : InlOk P l) : InlOk P ((f, fn) :: l) := fun g e' hg => by
  rw [find_cons] at hg
  split at hg
  · rename_i he; subst he; cases hg; exact ⟨h, hc⟩
  · exact hl g e' hg
theorem FnIs.of {f : FuncId} {fn : Func} (hf : P.funcs[f]? = some fn) (hn : (fn.name == "runtime.NumGoroutine") = false) (hb : fn.body.isNone = false) : FnIs P f fn :=
  ⟨hf, fun args w => by
    have hn' : fn.name ≠ "runtime.NumGoroutine" := by simpa using hn
    have hb' : fn.body ≠ none := by
      intro h; rw [h] at hb; cases hb
    simp [callFunc, hf, hn', hb']⟩

theorem law_calls {f : FuncId} {e : En} {ds : List V} (h : GOk P cx f e) (hm : e.modes = []) (hd : e.g ds some = some (.bool true)) {w : World} {ws : List Value} (ha : Args cx w ds ws) :
    Calls P f ws.toArray w fun e w' => e = .returned (.bool true) ∧ Below w.heap.size w w' := by
  obtain ⟨d, h1, h2⟩ := h.run hm ds some _ hd
  cases h1
  refine (h2 w ws ha).mono fun e w' hq => ?_
  obtain ⟨vv, bs, okf, rfl, k1, k2, _⟩ := hq
  have k2 : vv = .bool true ∧ bs = [] := k2
  exact ⟨by rw [k2.1], k1⟩
theorem ak_ints {a : Arr} {t : TypeId} {k : IntKind} (h : akOf a = .ints t k) : ∃ l, a = .ints t k l := by
  cases a <;> simp only [akOf] at h <;> cases h
  exact ⟨_, rfl⟩
theorem ak_bools {a : Arr} {t : TypeId} (h : akOf a = .bools t) : ∃ l, a = .bools t l := by
  cases a <;> simp only [akOf] at h <;> cases h
  exact ⟨_, rfl⟩
theorem ak_vecs {a : Arr} {t : TypeId} {n : Nat} (h : akOf a = .vecs t n) : ∃ l, a = .vecs t n l := by
  cases a <;> simp only [akOf] at h <;> cases h
  exact ⟨_, rfl⟩
theorem ak_rows {a : Arr} {t : TypeId} (h : akOf a = .rows t) : ∃ l, a = .rows t l := by
  cases a <;> simp only [akOf] at h <;> cases h
  exact ⟨_, rfl⟩
theorem fit_sl {u : TypeId} {ty : Ty} {e : AK} {x : V} (hu : find cx u = some ty) (he : ty.elem = some e) (h : FitV cx (.sl u) x) : ∃ a, x = .arr a ∧ akOf a = e ∧ FitArr cx a := by
  obtain ⟨ty', e', a, h1, h2, h3, h4, h5⟩ := h
  rw [hu] at h1; cases h1
  rw [he] at h2; cases h2
  exact ⟨a, h3, h4, h5⟩
end

/-! ## The head of a program -/
theorem mayEnter_of {P : Program} {c : List Char} {r : List (List Char)} (h : behindMainWord (wordsSigns P.initOrder.toList) = c :: r) (hs : ((stripLifts liftWords (c :: r)).2.head? == some "cut".toList) = true)
    (he : (stripLifts liftWords (c :: r)).1 = []) (hl : P.laysLater = false) (hr : P.bearsReflect = false) (hd : P.doorFits [] = true) : P.mayEnter = true := by
  unfold Program.mayEnter
  rw [h]
  simp only [hs, he, hl, hr, hd]
  simp
theorem liftsFinal_of {P : Program} {c : List Char} {r : List (List Char)} (h : behindMainWord (wordsSigns P.initOrder.toList) = c :: r) (hc : (c == "carried".toList) = false)
    (he : (stripLifts liftWords (c :: r)).1 = []) : P.liftsFinal = false := by
  unfold Program.liftsFinal Program.headLifts
  rw [h]
  simp [he]
  intro hh
  simp [hh] at hc
theorem make_of {P : Program} {c : List Char} {r : List (List Char)} (h : behindMainWord (wordsSigns P.initOrder.toList) = c :: r) (h1 : (c == "gc".toList || c == "spec".toList) = false) (h2 : (c == "cut".toList) = true) : P.make = some .cut := by
  unfold Program.make
  rw [h]
  simp only [h1, h2]
  simp
end PM

namespace PM
open Go RowKit

/-! ## Functions whose results are made of their arguments' own cells -/
def tCells : List V → Bool
  | [] => true
  | .int _ _ :: l => tCells l
  | .bool _ :: l => tCells l
  | .arr _ :: l => tCells l
  | .sref _ :: l => tCells l
  | _ => false
def tOk : V → Bool
  | .agg cs => tCells cs
  | .int _ _ => true
  | .bool _ => true
  | .arr _ => true
  | .sref _ => true
  | _ => false
def allT : List V → Bool
  | [] => true
  | v :: l => match tOk v with
    | true => allT l
    | false => false
def allLive (objs : Obs) : List V → Bool
  | [] => true
  | v :: l => match liveCells objs (cellsOf v) with
    | true => allLive objs l
    | false => false
def spT (g : List V → (V → R) → R) : SpT := fun _ vs objs k => match allT vs, allLive objs vs with
  | true, true => g vs fun r => k r [] []
  | _, _ => none
def lft (ρ : V → Value → Prop) : V → Value → Prop
  | .agg cs, v => ∃ l, v = .agg l.toArray ∧ All2 ρ cs l
  | x, v => ρ x v
def TOk (P : Program) (f : FuncId) (g : List V → (V → R) → R) : Prop := ∀ vs k r, g vs k = some r → ∃ d, k d = some r ∧
  ∀ (ρ : V → Value → Prop), (∀ i n x, ρ (.int i n) x ↔ x = .int i n) → (∀ b x, ρ (.bool b) x ↔ x = .bool b) → (∀ a x, ρ (.arr a) x → ∃ b n c, x = .slice b n c) → (∀ o x, ρ (.sref o) x → ∃ b n c, x = .slice b n c) → ∀ w ws, All2 (lft ρ) vs ws →
    Calls P f ws.toArray w fun e w' => ∃ vv, e = .returned vv ∧ Below w.heap.size w w' ∧ lft ρ d vv

section
variable {P : Program} {cx : Cx} {F : Fr} {ι : Im} {w w' : World} {objs : Obs} {ok : Nat → Prop}
/-- A cell; a slice is one. -/
def VCo (cx : Cx) (w : World) (ok : Nat → Prop) (objs : Obs) (ι : Im) (u : V) (x : Value) : Prop := VC cx w ok objs ι u x ∧ ((∃ a, u = .arr a) ∨ (∃ o, u = .sref o) → ∃ b n c, x = .slice b n c)
theorem liveCells_sl (H : Heap cx F ι objs w) : ∀ {cs : List V} {l : List Value}, liveCells objs cs = true → All2 (VC cx w (okOf w objs ι) objs ι) cs l → All2 (VCo cx w (okOf w objs ι) objs ι) cs l
  | [], [], _, _ => trivial
  | v :: cs, x :: l, h, ha => by
    have key : ((∃ a, v = .arr a) ∨ (∃ o, v = .sref o) → ∃ b n c, x = .slice b n c) ∧ liveCells objs cs = true := by
      have h1 := ha.1
      cases v <;> simp only [liveCells] at h <;> try (cases h; done)
      case int k n => exact ⟨(fun h => by rcases h with ⟨_, h⟩ | ⟨_, h⟩ <;> cases h), h⟩
      case bool b => exact ⟨(fun h => by rcases h with ⟨_, h⟩ | ⟨_, h⟩ <;> cases h), h⟩
      case pimm a i off => exact ⟨(fun h => by rcases h with ⟨_, h⟩ | ⟨_, h⟩ <;> cases h), h⟩
      case arr a =>
        obtain ⟨sh, _, _, h2⟩ := h1
        refine ⟨fun _ => ?_, h⟩
        rcases h2 with ⟨_, b, c, rfl⟩ | ⟨a, c, f, rfl, _⟩ <;> exact ⟨_, _, _, rfl⟩
      case sref o =>
        split at h
        · rename_i fr a hob
          obtain ⟨ob, h2, h3⟩ := h1
          have h4 := h3 fr a (by rw [hob] at h2; exact (Option.some.inj h2).symm)
          obtain ⟨b, n, c, h5⟩ := obj_slice H hob
          exact ⟨fun _ => ⟨b, n, c, h4.trans h5⟩, h⟩
        · cases h
    exact ⟨⟨ha.1, key.1⟩, liveCells_sl H key.2 ha.2⟩
  | [], _ :: _, _, h => h.elim
  | _ :: _, [], _, h => h.elim
theorem lft_of_VR (H : Heap cx F ι objs w) {v : V} {x : Value} (h : tOk v = true) (hl : liveCells objs (cellsOf v) = true) (hv : VR cx w (okOf w objs ι) objs ι v x) : lft (VCo cx w (okOf w objs ι) objs ι) v x := by
  cases v <;> simp only [tOk] at h <;> try (cases h; done)
  case agg cs =>
    obtain ⟨l, rfl, hh⟩ := hv
    exact ⟨l, rfl, liveCells_sl H hl hh⟩
  case int k n => exact (liveCells_sl (cs := [.int k n]) (l := [x]) H hl ⟨hv, trivial⟩).1
  case bool b => exact (liveCells_sl (cs := [.bool b]) (l := [x]) H hl ⟨hv, trivial⟩).1
  case arr a => exact (liveCells_sl (cs := [.arr a]) (l := [x]) H hl ⟨hv, trivial⟩).1
  case sref o => exact (liveCells_sl (cs := [.sref o]) (l := [x]) H hl ⟨hv, trivial⟩).1
theorem lfts_of_VR (H : Heap cx F ι objs w) : ∀ {vs : List V} {ws : List Value}, allT vs = true → allLive objs vs = true → All2 (VR cx w (okOf w objs ι) objs ι) vs ws → All2 (lft (VCo cx w (okOf w objs ι) objs ι)) vs ws
  | [], [], _, _, _ => trivial
  | v :: vs, x :: ws, h, hl, hv => by
    simp only [allT] at h
    simp only [allLive] at hl
    split at h
    · rename_i ht
      split at hl
      · rename_i hl1
        exact ⟨lft_of_VR H ht hl1 hv.1, lfts_of_VR H h hl hv.2⟩
      · cases hl
    · cases h
  | [], _ :: _, _, _, h => h.elim
  | _ :: _, [], _, _, h => h.elim
theorem allLive_ag {objs' : Obs} : ∀ {vs : List V}, allT vs = true → (∀ v ∈ vs, ∀ κ ∈ refs1 [] v, find objs' κ = find objs κ) → allLive objs vs = true → allLive objs' vs = true
  | [], _, _, _ => rfl
  | v :: vs, ht, ha, h => by
    simp only [allT] at ht
    simp only [allLive] at h ⊢
    split at ht
    · rename_i ht1
      split at h
      · rename_i hl
        have : liveCells objs' (cellsOf v) = true := by
          cases v <;> simp only [tOk] at ht1 <;> (try (cases ht1; done))
          case agg cs => exact (liveCells_ag (cs := cs) (fun q hq => ha (.agg cs) (by simp) q (by simp only [refs1]; exact mem_refsC.2 (.inr (.inl hq))))).trans hl
          case sref q =>
            have e := ha (.sref q) (by simp) q (by simp [refs1])
            simp only [cellsOf, liveCells] at hl ⊢
            rw [e]; exact hl
          all_goals rfl
        rw [this]
        exact allLive_ag ht (fun u hu => ha u (List.mem_cons.2 (.inr hu))) h
      · cases h
    · cases ht
theorem VR_of_lft {v : V} {x : Value} (h : lft (VCo cx w ok objs ι) v x) : VR cx w ok objs ι v x := by
  cases v <;> first | exact h.1 | exact h.1.elim | skip
  case agg cs =>
    obtain ⟨l, rfl, hh⟩ := h
    exact ⟨l, rfl, hh.mono fun _ _ h => h.1⟩
theorem Heap.grown (H : Heap cx F ι objs w) (hb : Below w.heap.size w w') : Heap cx F ι objs w' ∧ Ext ι objs w ι objs w' := by
  have := Heap.add (N := []) (ι' := ι) H (fun o ob h => by simp [find_nil] at h) rfl (fun _ _ _ => ⟨rfl, rfl⟩) hb.size hb.os hb.tape hb.output hb.block (fun o ob b h => by simp [find_nil] at h) (fun o o' ob ob' b h => by simp [find_nil] at h) (fun _ o ob h => by simp [find_nil] at h)
  simpa using this
theorem spT_ok {f : FuncId} {g : List V → (V → R) → R} (h : TOk P f g) : SpecOk P cx f (spT g) := by
  intro key vs objs k r hr
  simp only [spT] at hr
  split at hr
  · rename_i ht hl
    obtain ⟨d, h1, h2⟩ := h vs _ r hr
    refine ⟨d, [], [], h1, fun objs' F ι w ws hag H _ hv => ?_⟩
    refine (h2 (VCo cx w (okOf w objs' ι) objs' ι) (fun i n x => ⟨fun h => h.1, fun h => ⟨h, fun h => by rcases h with ⟨_, h⟩ | ⟨_, h⟩ <;> cases h⟩⟩) (fun b x => ⟨fun h => h.1, fun h => ⟨h, fun h => by rcases h with ⟨_, h⟩ | ⟨_, h⟩ <;> cases h⟩⟩) (fun a x h => h.2 (.inl ⟨a, rfl⟩)) (fun o x h => h.2 (.inr ⟨o, rfl⟩)) w ws (lfts_of_VR H ht (allLive_ag ht hag hl) hv)).mono fun e w' hq => ?_
    obtain ⟨vv, rfl, hb, hd⟩ := hq
    obtain ⟨H2, E2⟩ := H.grown hb
    exact ⟨vv, ι, rfl, by simpa using H2, by simpa using E2, by simpa using VR.ext E2 (VR_of_lft hd)⟩
  · cases hr
theorem GOk.ofS {f : FuncId} {h : SpT} (he : ∀ args w, (callFunc f args).run P w = .ok (.enter f args) w) (hs : SpecOk P cx f h) : GOk P cx f ⟨[], fun _ _ => none, some h⟩ :=
  ⟨he, (fun _ ds k r hr => by cases hr), fun hm => absurd rfl hm, (fun h' e => by cases e; exact hs)⟩
end
end PM

namespace PM
open Go RowKit

/-! ## Functions that write into a box by a pointer; functions that hand back a new box -/
def plain : List V → Bool
  | [] => true
  | .int _ _ :: l => plain l
  | .bool _ :: l => plain l
  | .arr _ :: l => plain l
  | _ => false
def plainA : V → Bool
  | .agg cs => plain cs
  | .int _ _ => true
  | .bool _ => true
  | .arr _ => true
  | _ => false
def plainAs : List V → Bool
  | [] => true
  | v :: l => match plainA v with
    | true => plainAs l
    | false => false
/-- A call with a pointer to a box as its first argument. -/
def spBox (g : List V → (V → R) → R) : SpT := fun key vs objs k => match vs with
  | .pbox o 0 :: rest => match find objs o with
    | some (.box cs) => match plain cs, plainAs rest with
      | true, true => g (.tup cs :: rest) fun r => match r with
        | .tup [d, .tup cs'] => match matR key d with
          | (v, n) => k v n [(o, .box cs')]
        | _ => none
      | _, _ => none
    | _ => none
  | _ => none
/-- A call that hands back a pointer to a new box. -/
def spNew (g : List V → (V → R) → R) : SpT := fun key vs _ k => match plainAs vs with
  | true => g vs fun r => match r with
    | .tup cs => k (.pbox key 0) [(key, .box cs)] []
    | _ => none
  | false => none

section
variable (A : Prims) (cx : Cx)
def retB (fn : Func) (σ : S) (k : V → R) : R :=
  onOpt (resVs cx σ fn.results.toList) fun vs => onOpt (ownAs σ.objs [] vs) fun dsu => match find σ.tmps 0 with
    | some (.pbox o 0) => match find σ.objs o with
      | some (.box cs) => match plain cs with
        | true => k (.tup [packV dsu.1, .tup cs])
        | false => none
      | _ => none
    | _ => none
/-- A whole function with a box. -/
def pfunB (E : Env) (fn : Func) (ds : List V) (k : V → R) : R :=
  match ds with
  | .tup cs :: rest => match fn.body with
    | none => none
    | some c => match plain cs, plainAs rest, Nat.ble (rest.length + 1) fn.ntmps with
      | true, true, true => pexec A cx (runD A cx E.inl E.Γ 3) E 0 0 c ⟨params 0 (.pbox 0 0 :: rest), [(0, .box cs)]⟩ fun e σ => match e with
        | .normal => retB cx fn σ k
        | .ret => retB cx fn σ k
        | _ => none
      | _, _, _ => none
  | _ => none
def retN (fn : Func) (σ : S) (k : V → R) : R :=
  onOpt (resVs cx σ fn.results.toList) fun vs => match vs with
    | [.pbox o 0] => match find σ.objs o with
      | some (.box cs) => match plain cs with
        | true => k (.tup cs)
        | false => none
      | _ => none
    | _ => none
/-- A whole function that makes a box. -/
def pfunN (E : Env) (fn : Func) (ds : List V) (k : V → R) : R :=
  match fn.body with
  | none => none
  | some c => match plainAs ds, Nat.ble ds.length fn.ntmps with
    | true, true => pexec A cx (runD A cx E.inl E.Γ 3) E 0 0 c ⟨params 0 ds, []⟩ fun e σ => match e with
      | .normal => retN cx fn σ k
      | .ret => retN cx fn σ k
      | _ => none
    | _, _ => none
end

/-- Arguments: a box and data that may be read. -/
def ArgsB (cx : Cx) (w : World) (gd : Nat → Prop) (B : Nat) (ds : List V) (vs : List Value) : Prop :=
  ∃ cs rest l T ws, ds = .tup cs :: rest ∧ vs = .pointer (some ⟨B, 0, none⟩) :: ws ∧ w.heap[B]? = some (.cells l.toArray T (0, 0)) ∧
    All2 (VC cx w (fun b => b < w.heap.size ∧ b ≠ B ∧ gd b) [] ι00) cs l ∧ All2 (VA cx w (fun b => b < w.heap.size ∧ b ≠ B ∧ gd b) [] ι00) rest ws
def DoneB (cx : Cx) (w : World) (gd : Nat → Prop) (B : Nat) (d : V) (e : Ending) (w' : World) : Prop :=
  ∃ vv bs okf d0 cs l T, e = .returned vv ∧ d = .tup [d0, .tup cs] ∧ w'.os = w.os ∧ w'.tape = w.tape ∧ w'.output = w.output ∧ w.heap.size ≤ w'.heap.size ∧
    (∀ b, b < w.heap.size → b ≠ B → w'.heap[b]? = w.heap[b]?) ∧ w'.heap[B]? = some (.cells l.toArray T (0, 0)) ∧ plain cs = true ∧
    All2 (VC cx w' (fun b => b < w'.heap.size ∧ b ≠ B ∧ b ∉ bs ∧ (b < w.heap.size → gd b)) [] ι00) cs l ∧
    OwnR cx w' okf d0 vv bs ∧ bs.Nodup ∧ (∀ b ∈ bs, w.heap.size ≤ b ∧ b < w'.heap.size) ∧ (∀ b, okf b → w.heap.size ≤ b ∧ b < w'.heap.size ∧ b ∉ bs ∧ Unf w' b)
def BoxOk (P : Program) (cx : Cx) (f : FuncId) (g : List V → (V → R) → R) : Prop := ∀ ds k r, g ds k = some r → ∃ d, k d = some r ∧
  ∀ (gd : Nat → Prop) w B vs, ArgsB cx w gd B ds vs → Calls P f vs.toArray w (DoneB cx w gd B d)
def DoneN (cx : Cx) (w : World) (gd : Nat → Prop) (d : V) (e : Ending) (w' : World) : Prop :=
  ∃ B cs l T, e = .returned (.pointer (some ⟨B, 0, none⟩)) ∧ d = .tup cs ∧ Below w.heap.size w w' ∧ w.heap.size ≤ B ∧ B < w'.heap.size ∧ w'.heap[B]? = some (.cells l.toArray T (0, 0)) ∧ plain cs = true ∧
    All2 (VC cx w' (fun b => b < w'.heap.size ∧ b ≠ B ∧ (b < w.heap.size → gd b)) [] ι00) cs l
def NewOk (P : Program) (cx : Cx) (f : FuncId) (g : List V → (V → R) → R) : Prop := ∀ ds k r, g ds k = some r → ∃ d, k d = some r ∧
  ∀ (gd : Nat → Prop) w vs, All2 (VA cx w (fun b => b < w.heap.size ∧ gd b) [] ι00) ds vs → Calls P f vs.toArray w (DoneN cx w gd d)

section
variable {P : Program} {cx : Cx} {F : Fr} {ι ι' : Im} {w w' : World} {objs objs' : Obs} {ok ok' : Nat → Prop}

theorem plain_VC (hok : ∀ b, ok b → ok' b ∧ w'.heap[b]? = w.heap[b]?) : ∀ {cs : List V} {l : List Value}, plain cs = true → All2 (VC cx w ok objs ι) cs l → All2 (VC cx w' ok' objs' ι') cs l
  | [], [], _, _ => trivial
  | v :: cs, x :: l, h, ha => by
    cases v <;> simp only [plain] at h <;> try (cases h; done)
    case int k n => exact ⟨ha.1, plain_VC hok h ha.2⟩
    case bool b => exact ⟨ha.1, plain_VC hok h ha.2⟩
    case arr a => exact ⟨ArrV.mono hok ha.1, plain_VC hok h ha.2⟩
  | [], _ :: _, _, h => h.elim
  | _ :: _, [], _, h => h.elim
theorem plainA_VA (hok : ∀ b, ok b → ok' b ∧ w'.heap[b]? = w.heap[b]?) {v : V} {x : Value} (h : plainA v = true) (ha : VA cx w ok objs ι v x) : VA cx w' ok' objs' ι' v x := by
  cases v <;> simp only [plainA] at h <;> try (cases h; done)
  case agg cs => obtain ⟨l, rfl, hl⟩ := ha; exact ⟨l, rfl, plain_VC hok h hl⟩
  case int k n => exact ha
  case bool b => exact ha
  case arr a => exact ArrV.mono hok ha
theorem plainA_VR {v : V} {x : Value} (h : plainA v = true) (ha : VR cx w ok objs ι v x) : VA cx w ok objs ι v x := by
  cases v <;> simp only [plainA] at h <;> first | (cases h; done) | exact ha
theorem plainAs_VA (hok : ∀ b, ok b → ok' b ∧ w'.heap[b]? = w.heap[b]?) : ∀ {vs : List V} {ws : List Value}, plainAs vs = true → All2 (VR cx w ok objs ι) vs ws → All2 (VA cx w' ok' objs' ι') vs ws
  | [], [], _, _ => trivial
  | v :: vs, x :: ws, h, ha => by
    simp only [plainAs] at h
    split at h
    · rename_i h1
      exact ⟨plainA_VA hok h1 (plainA_VR h1 ha.1), plainAs_VA hok h ha.2⟩
    · cases h
  | [], _ :: _, _, h => h.elim
  | _ :: _, [], _, h => h.elim
end

section
variable {P : Program} {cx : Cx}
theorem pfunB_ok {E : Env} {fn : Func} {f : FuncId} {L : Nat → Lam} {N : Nat} (hc : CxOk P cx) (hΓ : GamOk P cx E.Γ) (hm : P.follows .mixedOrders = true) (hinl : InlOk P E.inl) (hf : FnIs P f fn) (hchk : fnChk [0] fn = true)
    (hL : LamOk cx (runD std cx E.inl E.Γ 3) E fn L N) {ds : List V} {k : V → R} {r : V} (h : pfunB std cx E fn ds k = some r) :
    ∃ d, k d = some r ∧ ∀ (gd : Nat → Prop) w B vs, ArgsB cx w gd B ds vs → Calls P f vs.toArray w (DoneB cx w gd B d) := by
  cases ds with
  | nil => simp [pfunB] at h
  | cons d0 rest =>
  cases d0 <;> simp only [pfunB] at h <;> try (cases h; done)
  rename_i cs
  cases hb : fn.body with
  | none => rw [hb] at h; cases h
  | some c =>
    rw [hb] at h
    simp only at h
    split at h
    case h_2 => cases h
    rename_i hp1 hp2 hle
    have hle := Nat.le_of_ble_eq_true hle
    obtain ⟨c1, c2, c3⟩ := fnChk_ok hb hchk
    obtain ⟨e, σ', hk, hwp⟩ := pexec_sound (P := P) (E := E) (tr := false) (fn := fn) (n0 := (fn.ntmps, [0])) (B := c) hc hΓ hm (runD_ok hc hΓ hm hinl 3) hinl hb (fun h => by cases h) (fun _ => ⟨L, N, hL⟩)
      c 0 _ _ _ r h c1 c2 (fun p hp => find_of_nodup c3 hp)
    have fin : (e = .normal ∨ e = .ret) → retB cx fn σ' k = some r → ∃ d, k d = some r ∧ ∀ (gd : Nat → Prop) w B vs, ArgsB cx w gd B (.tup cs :: rest) vs → Calls P f vs.toArray w (DoneB cx w gd B d) := by
      intro he hr
      simp only [retB] at hr
      obtain ⟨vs, h1, h2⟩ := onOpt_some hr
      obtain ⟨⟨ds', u⟩, h5, h6⟩ := onOpt_some h2
      simp only at h6
      split at h6
      case h_2 => cases h6
      rename_i o ho
      split at h6
      case h_2 => cases h6
      rename_i cs' hcs
      split at h6
      case h_2 => cases h6
      rename_i hpl
      refine ⟨_, h6, fun gd w B vs0 hargs => ?_⟩
      obtain ⟨cs0, rest0, l, T, ws, e1, rfl, hB, hcsv, hrv⟩ := hargs
      simp only [List.cons.injEq, V.tup.injEq] at e1
      obtain ⟨rfl, rfl⟩ := e1
      have hBlt : B < w.heap.size := by
        rcases Nat.lt_or_ge B w.heap.size with h | h
        · exact h
        · rw [Array.getElem?_eq_none h] at hB; cases hB
      let F0 : Fr := ⟨fun b => w.heap.size ≤ b ∨ b = B, fun b => w.heap.size ≤ b, w, fn.ntmps, [(0, .pointer (some ⟨B, 0, none⟩))], fun _ h => ⟨.inl h, h⟩, fun b => w.heap.size ≤ b ∨ b = B ∨ gd b⟩
      let ι0 : Im := ⟨fun o => if o = 0 then some B else none, fun _ => Go.undef, fun b => w.heap.size ≤ b ∨ b = B ∨ gd b⟩
      have hfo : ∀ o ob, find [(0, Ob.box cs)] o = some ob → o = 0 ∧ ob = .box cs := by
        intro o ob h
        rw [find_cons, find_nil] at h
        split at h
        · rename_i e; cases h; exact ⟨e.symm, rfl⟩
        · cases h
      have hok : ∀ b, (b < w.heap.size ∧ b ≠ B ∧ gd b) → okOf w [(0, .box cs)] ι0 b ∧ w.heap[b]? = w.heap[b]? := by
        intro b hb
        refine ⟨⟨hb.1, fun o ob ho _ hbk => ?_, .inr (.inr hb.2.2)⟩, rfl⟩
        obtain ⟨rfl, _⟩ := hfo o ob ho
        have : some B = some b := hbk
        exact hb.2.1 (Option.some.inj this).symm
      have hH : Heap cx F0 ι0 [(0, .box cs)] w := by
        refine ⟨fun o ob ho => ?_, fun o o' ob ob' b ho ho' _ _ _ _ => ?_, fun o ob b ho _ hbk => ?_, Nat.le_refl _, rfl, rfl, rfl, fun _ _ _ => rfl, fun o a b ho _ => ?_, fun b hb => ?_, rfl⟩
        · obtain ⟨rfl, rfl⟩ := hfo o ob ho
          exact ⟨B, l, T, rfl, hB, plain_VC hok hp1 hcsv⟩
        · rw [(hfo o ob ho).1, (hfo o' ob' ho').1]
        · obtain ⟨rfl, rfl⟩ := hfo o ob ho
          have : some B = some b := hbk
          cases this
          exact ⟨.inr rfl, hBlt⟩
        · obtain ⟨_, e⟩ := hfo o _ ho
          cases e
        · rcases hb with hb | hb
          · exact .inl hb
          · exact .inr (.inl hb)
      have hv : All2 (VR cx w (okOf w [(0, .box cs)] ι0) [(0, .box cs)] ι0) (.pbox 0 0 :: rest) (.pointer (some ⟨B, 0, none⟩) :: ws) := by
        refine ⟨⟨.box cs, by rw [find_cons, if_pos rfl], fun cs1 h1 => ⟨B, rfl, rfl⟩⟩, ?_⟩
        have gen : ∀ {xs : List V} {ys : List Value}, plainAs xs = true → All2 (VA cx w (fun b => b < w.heap.size ∧ b ≠ B ∧ gd b) [] ι00) xs ys → All2 (VR cx w (okOf w [(0, .box cs)] ι0) [(0, .box cs)] ι0) xs ys := by
          intro xs
          induction xs with
          | nil => intro ys _ h; cases ys with | nil => trivial | cons => exact h.elim
          | cons v xs ih =>
            intro ys hp h
            cases ys with
            | nil => exact h.elim
            | cons y ys =>
              simp only [plainAs] at hp
              split at hp
              · rename_i hp0
                exact ⟨VR_of_VA (plainA_VA hok hp0 h.1), ih hp h.2⟩
              · cases hp
        exact gen hp2 hrv
      have hs := sim_start (fn := fn) (F := F0) (vs := .pbox 0 0 :: rest) rfl (by simpa using hle) (fun t v htv => by
        have htv : (t, v) ∈ [(0, Value.pointer (some ⟨B, 0, none⟩))] := htv
        rw [List.mem_singleton] at htv
        cases htv; rfl) hH hv
      refine calls_of_wp hf.get hb (wp_mono (hwp F0 ⟨rfl, rfl⟩ _ _ w hs) fun e' a' w' hq => ?_)
      obtain ⟨rfl, ι', hs', _⟩ := hq
      obtain ⟨ws', g1, g2⟩ := resVs_sound hc hs' h1
      obtain ⟨bs, o1, o2⟩ := ownAs_ok hs'.heap h5 g2
      have H := hs'.heap
      have hpin : a'.tmps.getD 0 Go.undef = .pointer (some ⟨B, 0, none⟩) := hs'.pin 0 _ (by simp [F0])
      obtain ⟨ob, k1, k2⟩ := hs'.tmps 0 _ ho
      rw [hcs] at k1; cases k1
      obtain ⟨b, k3, k4⟩ := k2 _ rfl
      rw [hpin] at k4
      have hbB : b = B := by injection k4 with k4; injection k4 with k4; injection k4 with k4; exact k4.symm
      subst hbB
      obtain ⟨b', l', T', m1, m2, m3⟩ := H.obok o _ hcs
      rw [k3] at m1; cases m1
      have hdone : DoneB cx w gd b (.tup [packV ds', .tup cs']) (.returned (packW ws')) w' := by
        have q1 : ∀ x, okOf w' σ'.objs ι' x → (x < w'.heap.size ∧ x ≠ b ∧ x ∉ bs ∧ (x < w.heap.size → gd x)) ∧ w'.heap[x]? = w'.heap[x]? := by
          intro x hx
          refine ⟨⟨hx.1, fun e => ?_, fun e => ?_, fun hlt => ?_⟩, rfl⟩
          · subst e; exact hx.2.1 o _ hcs trivial k3
          · obtain ⟨o', a, _, _, q3, q4⟩ := o2.2.2 x e
            exact hx.2.1 o' _ q3 trivial q4
          · have hg := hx.2.2
            rw [H.gdF] at hg
            rcases hg with hg | hg | hg
            · omega
            · exact (hx.2.1 o _ hcs trivial (by rw [k3, hg])).elim
            · exact hg
        have q2 : ∀ x ∈ bs, w.heap.size ≤ x ∧ x < w'.heap.size := by
          intro x hx
          obtain ⟨o', a, _, _, q3, q4⟩ := o2.2.2 x hx
          exact ⟨H.fresh o' a x q3 q4, (H.own o' _ x q3 trivial q4).2⟩
        have q3 : ∀ x, okR w' σ'.objs ι' F0 x → w.heap.size ≤ x ∧ x < w'.heap.size ∧ x ∉ bs ∧ Unf w' x := by
          intro x hx
          refine ⟨hx.2.1, hx.1.1, fun hbs => ?_, hx.2.2⟩
          obtain ⟨o', a, _, _, q3, q4⟩ := o2.2.2 x hbs
          exact hx.1.2.1 o' _ q3 trivial q4
        exact ⟨packW ws', bs, okR w' σ'.objs ι' F0, packV ds', cs', l', T', rfl, rfl, H.os, H.tape, H.output, H.size, fun x hx hne => H.keep x hx (fun h => h.elim (fun h => absurd hx (Nat.not_lt.2 h)) hne), m2, hpl, plain_VC q1 hpl m3, pack_Own o1, o2.1, q2, q3⟩
      have hfin : a'.defers = [] ∧ ∃ v, (results fn a'.tmps).run P w' = .ok v w' ∧ DoneB cx w gd b (.tup [packV ds', .tup cs']) (.returned v) w' := ⟨hs'.defers, _, results_run g1, hdone⟩
      rcases he with rfl | rfl
      · exact hfin
      · exact hfin
    cases e with
    | normal => exact fin (.inl rfl) hk
    | ret => exact fin (.inr rfl) hk
    | _ => cases hk
end
end PM

namespace PM
open Go RowKit

section
variable {P : Program} {cx : Cx} {F : Fr} {ι ι' : Im} {w w' w1 : World} {objs objs' : Obs}

theorem Mat.mono {okf : Nat → Prop} {key k' : Nat} {N : Obs} {sv : List (Nat × Value)} {bs : List Nat} (h : Mat cx w okf key k' N sv bs) (hw : ∀ b, b ∈ bs ∨ okf b → w1.heap[b]? = w.heap[b]?) : Mat cx w1 okf key k' N sv bs := by
  refine ⟨h.le, fun o x hx => ?_, h.key, h.inj⟩
  obtain ⟨a, v, b, h1, h2, sh, xs, k1, k2, k3, k4, k5, k6⟩ := h.ob o x hx
  refine ⟨a, v, b, h1, h2, sh, xs, k1, k2, k3, ?_, k5, fun i j hi hj => ?_⟩
  · refine ⟨k4.1, ?_⟩
    rcases k4.2 with hn | ⟨g, cap, cur, hv, hg, hh, r⟩
    · exact .inl hn
    · refine .inr ⟨g, cap, cur, hv, hg, ?_, r⟩
      rw [hw g (.inl ((h.key o v h2).2.2.2 g (by rw [hv]; rfl)))]; exact hh
  · obtain ⟨cv, c1, c2⟩ := k6 i j hi hj
    exact ⟨cv, c1, c2.mono fun b hb => ⟨hb, hw b (.inr hb)⟩⟩

/-- A world with an old block put back. -/
def _root_.Go.World.back (w' : World) (B : Nat) (ob : Obj) : World := { w' with heap := w'.heap.setIfInBounds B ob }
theorem back_same {B : Nat} {ob : Obj} (hB : B < w'.heap.size) : (w'.back B ob).heap[B]? = some ob := by
  simp [World.back, Array.getElem?_setIfInBounds, hB]
theorem back_other {B b : Nat} {ob : Obj} (hb : b ≠ B) : (w'.back B ob).heap[b]? = w'.heap[b]? := by
  simp [World.back, Array.getElem?_setIfInBounds, Ne.symm hb]
theorem back_size {B : Nat} {ob : Obj} : (w'.back B ob).heap.size = w'.heap.size := by simp [World.back]

theorem spBox_ok {f : FuncId} {g : List V → (V → R) → R} (h : BoxOk P cx f g) : SpecOk P cx f (spBox g) := by
  intro key vs objs k r hr
  cases vs with
  | nil => simp [spBox] at hr
  | cons v0 rest =>
  cases v0 <;> simp only [spBox] at hr <;> try (cases hr; done)
  rename_i o off
  cases off with
  | succ off => cases hr
  | zero =>
  simp only at hr
  split at hr
  case h_2 => cases hr
  rename_i cs hcs
  split at hr
  case h_2 => cases hr
  rename_i hp1 hp2
  obtain ⟨d, h1, h2⟩ := h _ _ _ hr
  split at h1
  case h_2 => cases h1
  rename_i d0 cs'
  refine ⟨(matR key d0).1, (matR key d0).2, [(o, .box cs')], h1, fun objs' F ι w ws hag H hfr hv => ?_⟩
  cases ws with
  | nil => exact hv.elim
  | cons w0 ws =>
  have hcs' : find objs' o = some (.box cs) := by rw [hag (.pbox o 0) (by simp) o (by simp [refs1])]; exact hcs
  obtain ⟨ob, e1, e2⟩ := hv.1
  rw [hcs'] at e1; cases e1
  obtain ⟨B, hB, rfl⟩ := e2 _ rfl
  obtain ⟨B', l, T, hB', hcell, hcv⟩ := H.obok o _ hcs'
  rw [hB] at hB'; cases hB'
  have hBo := H.own o _ B hcs' trivial hB
  have okB : ∀ b, okOf w objs' ι b → (b < w.heap.size ∧ b ≠ B ∧ okOf w objs' ι b) ∧ w.heap[b]? = w.heap[b]? := fun b hb => ⟨⟨hb.1, fun e => by subst e; exact hb.2.1 o _ hcs' trivial hB, hb⟩, rfl⟩
  have hargs : ArgsB cx w (okOf w objs' ι) B (.tup cs :: rest) (.pointer (some ⟨B, 0, none⟩) :: ws) :=
    ⟨cs, rest, l, T, ws, rfl, rfl, hcell, plain_VC okB hp1 hcv, plainAs_VA okB hp2 hv.2⟩
  refine (h2 _ w B _ hargs).mono fun e w' hd => ?_
  obtain ⟨vv, bs, okf, d0', cs'', l', T', rfl, hdd, hos, htp, hou, hsz, hkeep, hcell', hpl, hcv', hown, hnd, hbs, hokf⟩ := hd
  simp only [V.tup.injEq, List.cons.injEq, and_true] at hdd
  obtain ⟨rfl, rfl⟩ := hdd
  have hBlt' : B < w'.heap.size := Nat.lt_of_lt_of_le hBo.2 hsz
  -- the world with the box as it was
  obtain ⟨k', sv, M', hvr⟩ := matR_ok (key := key) hown hnd
  have hne : ∀ b, b ∈ bs ∨ okf b → b ≠ B := by
    rintro b (hb | hb) rfl
    · have := (hbs b hb).1; omega
    · have := (hokf b hb).1; omega
  have M : Mat cx (w'.back B (.cells l.toArray T (0, 0))) okf key k' (matR key d0).2 sv bs := M'.mono fun b hb => back_other (hne b hb)
  have hold : ∀ b, b < w.heap.size → (w'.back B (.cells l.toArray T (0, 0))).heap[b]? = w.heap[b]? := by
    intro b hb
    by_cases e : b = B
    · subst e; rw [back_same hBlt', hcell]
    · rw [back_other e]; exact hkeep b hb e
  obtain ⟨H1, E1⟩ := Heap.mat H M hfr (fun b hb => by rw [back_size]; exact hbs b hb) (fun b hb => by rw [back_size]; exact ⟨(hokf b hb).1, (hokf b hb).2.1, (hokf b hb).2.2.1, (hokf b hb).2.2.2.eq (back_other (hne b (.inr hb)))⟩) (by rw [back_size]; exact hsz) hos htp hou hold
  have hN : find (matR key d0).2 o = none := by
    cases hn : find (matR key d0).2 o with
    | none => rfl
    | some x => rw [hfr o x hn] at hcs'; cases hcs'
  have hsvo : find sv o = none := by
    cases hn : find sv o with
    | none => rfl
    | some x =>
      obtain ⟨_, _, ⟨y, hy⟩, _⟩ := M.key o x hn
      rw [hN] at hy; cases hy
  have hfo : find ((matR key d0).2 ++ objs') o = some (.box cs) := by rw [find_append, hN]; simpa using hcs'
  have hblk : (ι.ext sv).blk o = some B := by simp only [Im.ext, hsvo]; exact hB
  have okN : ∀ b, (b < w'.heap.size ∧ b ≠ B ∧ b ∉ bs ∧ (b < w.heap.size → okOf w objs' ι b)) → ∀ o2 ob2, find ((matR key d0).2 ++ objs') o2 = some ob2 → live ob2 → (ι.ext sv).blk o2 ≠ some b := by
    intro b hb o2 ob2 h2 hl hbk
    rw [find_append] at h2
    cases hn : find (matR key d0).2 o2 with
    | some y =>
      obtain ⟨a, u, b', _, hu, _⟩ := M.ob o2 y hn
      simp only [Im.ext, hu] at hbk
      exact hb.2.2.1 ((M.key o2 u hu).2.2.2 b hbk)
    | none =>
      rw [hn] at h2
      have h2 : find objs' o2 = some ob2 := by simpa using h2
      have hs2 : find sv o2 = none := by
        cases hq : find sv o2 with
        | none => rfl
        | some x =>
          obtain ⟨_, _, ⟨y, hy⟩, _⟩ := M.key o2 x hq
          rw [hn] at hy; cases hy
      simp only [Im.ext, hs2] at hbk
      have := (H.own o2 ob2 b h2 hl hbk).2
      exact (hb.2.2.2 this).2.1 o2 ob2 h2 hl hbk
  obtain ⟨H2, E2⟩ := Heap.change (d := []) (κ := o) (ob' := .box cs') (row := some B) (w' := w') (ι' := ι.ext sv) H1 rfl (fun _ _ h => by simp [find_nil] at h) rfl
    (fun b hb => by cases hb; exact ⟨o, _, hfo, trivial, hblk, .inl rfl⟩) (fun _ _ _ _ => ⟨rfl, rfl⟩) (fun ob1 h1 => by rw [hfo] at h1; cases h1; exact ⟨⟨cs, rfl⟩, rfl⟩)
    (fun b hb => by rw [hblk] at hb; cases hb; exact ⟨hBlt', .inl rfl⟩) (by rw [back_size]; exact Nat.le_refl _) rfl rfl rfl
    (fun b _ hne => (back_other (fun e => hne (by rw [e]))).symm) (fun a b h => by cases h)
    (fun _ => ⟨B, l', T', hblk, hcell', plain_VC (fun b hb => ⟨⟨hb.1, fun o2 ob2 h2 hl hbk => by
      rw [find_cons] at h2
      split at h2
      · rename_i e; subst e
        rw [hblk] at hbk
        exact hb.2.1 (Option.some.inj hbk).symm
      · exact okN b hb o2 ob2 (by simpa using h2) hl hbk, by
      show ι.gd b
      rcases Nat.lt_or_ge b w.heap.size with hlt | hge
      · exact (hb.2.2.2 hlt).2.2
      · exact H.gd b (F.new b (Nat.le_trans H.size hge)).1⟩, rfl⟩) hpl hcv'⟩)
  refine ⟨vv, ι.ext sv, rfl, by simpa using H2, by simpa using E1.trans E2, ?_⟩
  exact hvr _ (ι.ext sv) _ w' (fun o1 x hx => by
    show find ((o, Ob.box cs') :: ((matR key d0).2 ++ objs')) o1 = some x
    rw [find_cons, if_neg (fun e => by subst e; rw [hN] at hx; cases hx), find_append, hx]; rfl) ext_sv
theorem spNew_ok {f : FuncId} {g : List V → (V → R) → R} (h : NewOk P cx f g) : SpecOk P cx f (spNew g) := by
  intro key vs objs k r hr
  simp only [spNew] at hr
  split at hr
  case h_2 => cases hr
  rename_i hp
  obtain ⟨d, h1, h2⟩ := h _ _ _ hr
  split at h1
  case h_2 => cases h1
  rename_i cs
  refine ⟨.pbox key 0, [(key, .box cs)], [], h1, fun objs' F ι w ws hag H hfr hv => ?_⟩
  have okB : ∀ b, okOf w objs' ι b → (b < w.heap.size ∧ okOf w objs' ι b) ∧ w.heap[b]? = w.heap[b]? := fun b hb => ⟨⟨hb.1, hb⟩, rfl⟩
  refine (h2 (okOf w objs' ι) w ws (plainAs_VA okB hp hv)).mono fun e w' hd => ?_
  obtain ⟨B, cs', l, T, rfl, hdd, hbl, hB1, hB2, hcell, hpl, hcv⟩ := hd
  simp only [V.tup.injEq] at hdd
  subst hdd
  have hkn : find objs' key = none := hfr key (.box cs) (by rw [find_cons, if_pos rfl])
  have hfo : ∀ o ob, find [(key, Ob.box cs)] o = some ob → o = key ∧ ob = .box cs := by
    intro o ob h
    rw [find_cons, find_nil] at h
    split at h
    · rename_i e; cases h; exact ⟨e.symm, rfl⟩
    · cases h
  have hblk : (ι.put key (some B) Go.undef).blk key = some B := Im.put_blk _ _ _
  obtain ⟨H2, E2⟩ := Heap.add (N := [(key, .box cs)]) (ι' := ι.put key (some B) Go.undef) H (fun o ob ho => by obtain ⟨rfl, _⟩ := hfo o ob ho; exact hkn) rfl (Im.put_old hkn) hbl.size hbl.os hbl.tape hbl.output hbl.block
    (fun o ob b ho _ hb => by obtain ⟨rfl, _⟩ := hfo o ob ho; rw [hblk] at hb; cases hb; exact ⟨hB1, hB2⟩)
    (fun o o' ob ob' b ho ho' _ _ _ _ => by rw [(hfo o ob ho).1, (hfo o' ob' ho').1])
    (fun _ o ob ho => by
      obtain ⟨rfl, rfl⟩ := hfo o ob ho
      refine ⟨B, l, T, hblk, hcell, plain_VC (fun b hb => ⟨⟨hb.1, fun o2 ob2 h2 hl hbk => ?_, ?_⟩, rfl⟩) hpl hcv⟩
      · rw [find_append] at h2
        cases hn : find [(o, Ob.box cs)] o2 with
        | some y =>
          obtain ⟨rfl, _⟩ := hfo o2 y hn
          rw [hblk] at hbk
          exact hb.2.1 (Option.some.inj hbk).symm
        | none =>
          rw [hn] at h2
          have h2 : find objs' o2 = some ob2 := by simpa using h2
          rw [(Im.put_old hkn o2 ob2 h2).1] at hbk
          exact (hb.2.2 (H.own o2 ob2 b h2 hl hbk).2).2.1 o2 ob2 h2 hl hbk
      · show ι.gd b
        rcases Nat.lt_or_ge b w.heap.size with hlt | hge
        · exact (hb.2.2 hlt).2.2
        · exact H.gd b (F.new b (Nat.le_trans H.size hge)).1)
  refine ⟨_, ι.put key (some B) Go.undef, rfl, H2, E2, ?_⟩
  exact ⟨.box cs, by show find ((key, Ob.box cs) :: objs') key = _; rw [find_cons, if_pos rfl], fun cs1 h1 => ⟨B, hblk, rfl⟩⟩
end
end PM

namespace PM
open Go RowKit

section
variable {P : Program} {cx : Cx}
theorem pfunN_ok {E : Env} {fn : Func} {f : FuncId} {L : Nat → Lam} {N : Nat} (hc : CxOk P cx) (hΓ : GamOk P cx E.Γ) (hm : P.follows .mixedOrders = true) (hinl : InlOk P E.inl) (hf : FnIs P f fn) (hchk : fnChk [] fn = true)
    (hL : LamOk cx (runD std cx E.inl E.Γ 3) E fn L N) {ds : List V} {k : V → R} {r : V} (h : pfunN std cx E fn ds k = some r) :
    ∃ d, k d = some r ∧ ∀ (gd : Nat → Prop) w vs, All2 (VA cx w (fun b => b < w.heap.size ∧ gd b) [] ι00) ds vs → Calls P f vs.toArray w (DoneN cx w gd d) := by
  simp only [pfunN] at h
  cases hb : fn.body with
  | none => rw [hb] at h; cases h
  | some c =>
    rw [hb] at h
    simp only at h
    split at h
    case h_2 => cases h
    rename_i hp hle
    have hle := Nat.le_of_ble_eq_true hle
    obtain ⟨c1, c2, c3⟩ := fnChk_ok hb hchk
    obtain ⟨e, σ', hk, hwp⟩ := pexec_sound (P := P) (E := E) (tr := false) (fn := fn) (n0 := (fn.ntmps, [])) (B := c) hc hΓ hm (runD_ok hc hΓ hm hinl 3) hinl hb (fun h => by cases h) (fun _ => ⟨L, N, hL⟩)
      c 0 _ _ _ r h c1 c2 (fun p hp => find_of_nodup c3 hp)
    have fin : (e = .normal ∨ e = .ret) → retN cx fn σ' k = some r → ∃ d, k d = some r ∧ ∀ (gd : Nat → Prop) w vs, All2 (VA cx w (fun b => b < w.heap.size ∧ gd b) [] ι00) ds vs → Calls P f vs.toArray w (DoneN cx w gd d) := by
      intro he hr
      simp only [retN] at hr
      obtain ⟨vs, h1, h6⟩ := onOpt_some hr
      split at h6
      case h_2 => cases h6
      rename_i o
      split at h6
      case h_2 => cases h6
      rename_i cs' hcs
      split at h6
      case h_2 => cases h6
      rename_i hpl
      refine ⟨_, h6, fun gd w ws hargs => ?_⟩
      let F0 : Fr := ⟨fun b => w.heap.size ≤ b, fun b => w.heap.size ≤ b, w, fn.ntmps, [], fun _ h => ⟨h, h⟩, fun b => w.heap.size ≤ b ∨ gd b⟩
      let ι0 : Im := ⟨fun _ => none, fun _ => Go.undef, fun b => w.heap.size ≤ b ∨ gd b⟩
      have hok : ∀ b, (b < w.heap.size ∧ gd b) → okOf w [] ι0 b ∧ w.heap[b]? = w.heap[b]? := fun b hb => ⟨⟨hb.1, fun o ob ho => by simp [find_nil] at ho, .inr hb.2⟩, rfl⟩
      have hH : Heap cx F0 ι0 [] w :=
        ⟨fun o ob h => by simp [find_nil] at h, fun o o' ob ob' b h => by simp [find_nil] at h, fun o ob b h => by simp [find_nil] at h, Nat.le_refl _, rfl, rfl, rfl, fun b _ _ => rfl, (fun o a b h => by simp [find_nil] at h), fun b hb => .inl hb, rfl⟩
      have hv : All2 (VR cx w (okOf w [] ι0) [] ι0) ds ws := by
        have gen : ∀ {xs : List V} {ys : List Value}, plainAs xs = true → All2 (VA cx w (fun b => b < w.heap.size ∧ gd b) [] ι00) xs ys → All2 (VR cx w (okOf w [] ι0) [] ι0) xs ys := by
          intro xs
          induction xs with
          | nil => intro ys _ h; cases ys with | nil => trivial | cons => exact h.elim
          | cons v xs ih =>
            intro ys hp h
            cases ys with
            | nil => exact h.elim
            | cons y ys =>
              simp only [plainAs] at hp
              split at hp
              · rename_i hp0
                exact ⟨VR_of_VA (plainA_VA hok hp0 h.1), ih hp h.2⟩
              · cases hp
        exact gen hp hargs
      have hs := sim_start (fn := fn) (F := F0) (vs := ds) rfl hle (fun _ _ h => by cases h) hH hv
      refine calls_of_wp hf.get hb (wp_mono (hwp F0 ⟨rfl, rfl⟩ _ _ w hs) fun e' a' w' hq => ?_)
      obtain ⟨rfl, ι', hs', _⟩ := hq
      obtain ⟨ws', g1, g2⟩ := resVs_sound hc hs' h1
      have H := hs'.heap
      match ws', g2 with
      | [u], ⟨g3, _⟩ =>
        obtain ⟨ob, k1, k2⟩ := g3
        rw [hcs] at k1; cases k1
        obtain ⟨B, k3, rfl⟩ := k2 _ rfl
        obtain ⟨b', l', T', m1, m2, m3⟩ := H.obok o _ hcs
        rw [k3] at m1; cases m1
        have hB := H.own o _ B hcs trivial k3
        have q1 : ∀ x, okOf w' σ'.objs ι' x → (x < w'.heap.size ∧ x ≠ B ∧ (x < w.heap.size → gd x)) ∧ w'.heap[x]? = w'.heap[x]? := by
          intro x hx
          refine ⟨⟨hx.1, fun e => ?_, fun hlt => ?_⟩, rfl⟩
          · subst e; exact hx.2.1 o _ hcs trivial k3
          · have hg := hx.2.2
            rw [H.gdF] at hg
            rcases hg with hg | hg
            · exact absurd hlt (Nat.not_lt.2 hg)
            · exact hg
        have hdone : DoneN cx w gd (.tup cs') (.returned (packW [.pointer (some ⟨B, 0, none⟩)])) w' :=
          ⟨B, cs', l', T', rfl, rfl, ⟨H.os, H.tape, H.output, H.size, fun b hb => H.keep b hb (fun h => absurd hb (Nat.not_lt.2 h))⟩, hB.1, hB.2, m2, hpl, plain_VC q1 hpl m3⟩
        have hfin : a'.defers = [] ∧ ∃ v, (results fn a'.tmps).run P w' = .ok v w' ∧ DoneN cx w gd (.tup cs') (.returned v) w' := ⟨hs'.defers, _, results_run g1, hdone⟩
        rcases he with rfl | rfl
        · exact hfin
        · exact hfin
    cases e with
    | normal => exact fin (.inl rfl) hk
    | ret => exact fin (.inr rfl) hk
    | _ => cases hk
end
end PM

namespace PM
open Go RowKit

/-! ## Calls whose results are read alone -/
def spImm (g : List V → (V → R) → R) : SpT := fun _ vs objs k => onOpt (closeAs objs vs) fun ds => g ds fun r => k r [] []

section
variable {P : Program} {cx : Cx} {F : Fr} {ι : Im} {w w' : World} {objs : Obs} {ok okf : Nat → Prop}

theorem arr_of_own {a : Arr} {v : Value} {bs : List Nat} (h : OwnArr cx w okf a v bs) (h1 : ∀ b ∈ bs, ok b) (h2 : ∀ b, okf b → ok b) : ArrV cx w ok a v := by
  obtain ⟨sh, xs, k1, k2, k3, k4, k5, k6⟩ := h
  refine ⟨sh, k1, k3, ?_⟩
  by_cases hn : (rowsOf a).length = 0
  · obtain ⟨b, c, hv⟩ := own_slice k4
    exact .inl ⟨List.eq_nil_of_length_eq_zero hn, b, c, by rw [hv, hn]⟩
  · obtain ⟨g, cap, hv, hcap, hcell⟩ := ownsRow_cell k4 (by omega)
    refine .inr ⟨⟨g, 0, none⟩, cap, fun i j => (xs[i * sh.length + j]?).getD Go.undef, hv, rfl, hcap, h1 g (by rw [k5, hv]; simp [Value.ownBlock]), fun i j hi hj => ?_, fun i j hi hj => ?_⟩
    · obtain ⟨cv, c1, c2⟩ := k6 i j hi hj
      have := hcell _ _ c1
      show w.cell? ⟨g, 0 + (i * sh.length + j), none⟩ = some ((xs[i * sh.length + j]?).getD Go.undef)
      rw [c1, Nat.zero_add]
      exact this
    · obtain ⟨cv, c1, c2⟩ := k6 i j hi hj
      show CellV cx w ok _ _ ((xs[i * sh.length + j]?).getD Go.undef)
      rw [c1]
      exact c2.mono fun b hb => ⟨h2 b hb, rfl⟩
theorem vc_of_own {d : V} {v : Value} {bs : List Nat} (h : Own1 cx w okf d v bs) (h1 : ∀ b ∈ bs, ok b) (h2 : ∀ b, okf b → ok b) : VC cx w ok objs ι d v := by
  cases d <;> try exact h.elim
  · exact h.1
  · exact h.1
  · exact arr_of_own h h1 h2
theorem vcs_of_own : ∀ {ds : List V} {vs : List Value} {bs : List Nat}, OwnL1 cx w okf ds vs bs → (∀ b ∈ bs, ok b) → (∀ b, okf b → ok b) → All2 (VC cx w ok objs ι) ds vs
  | [], [], _, _, _, _ => trivial
  | d :: ds, v :: vs, bs, h, h1, h2 => by
    obtain ⟨b1, b2, rfl, g1, g2⟩ := h
    exact ⟨vc_of_own g1 (fun b hb => h1 b (List.mem_append.2 (.inl hb))) h2, vcs_of_own g2 (fun b hb => h1 b (List.mem_append.2 (.inr hb))) h2⟩
  | [], _ :: _, _, h, _, _ => h.elim
  | _ :: _, [], _, h, _, _ => h.elim
theorem va_of_own {d : V} {v : Value} {bs : List Nat} (h : OwnA cx w okf d v bs) (h1 : ∀ b ∈ bs, ok b) (h2 : ∀ b, okf b → ok b) : VA cx w ok objs ι d v := by
  cases d
  case agg ds =>
    obtain ⟨vs, rfl, hl⟩ := h
    exact ⟨vs, rfl, vcs_of_own hl h1 h2⟩
  case int k n => exact (show Own1 cx w okf (.int k n) v bs from h).1
  case bool b => exact (show Own1 cx w okf (.bool b) v bs from h).1
  case arr a => exact arr_of_own h h1 h2
  all_goals exact (show False from h).elim
theorem vas_of_own : ∀ {ds : List V} {vs : List Value} {bs : List Nat}, OwnLA cx w okf ds vs bs → (∀ b ∈ bs, ok b) → (∀ b, okf b → ok b) → All2 (VA cx w ok objs ι) ds vs
  | [], [], _, _, _, _ => trivial
  | d :: ds, v :: vs, bs, h, h1, h2 => by
    obtain ⟨b1, b2, rfl, g1, g2⟩ := h
    exact ⟨va_of_own g1 (fun b hb => h1 b (List.mem_append.2 (.inl hb))) h2, vas_of_own g2 (fun b hb => h1 b (List.mem_append.2 (.inr hb))) h2⟩
  | [], _ :: _, _, h, _, _ => h.elim
  | _ :: _, [], _, h, _, _ => h.elim
theorem vr_of_own {d : V} {v : Value} {bs : List Nat} (h : OwnR cx w okf d v bs) (h1 : ∀ b ∈ bs, ok b) (h2 : ∀ b, okf b → ok b) : VR cx w ok objs ι d v := by
  cases d
  case tup ds =>
    obtain ⟨vs, rfl, hl⟩ := h
    exact ⟨vs, rfl, vas_of_own hl h1 h2⟩
  all_goals exact VR_of_VA (va_of_own (show OwnA cx w okf _ v bs from h) h1 h2)
theorem spImm_ok {f : FuncId} {g : List V → (V → R) → R} (h : ∀ ds k r, g ds k = some r → ∃ d, k d = some r ∧ ∀ w vs, Args cx w ds vs → Calls P f vs.toArray w (Done cx w d)) : SpecOk P cx f (spImm g) := by
  intro key vs objs k r hr
  simp only [spImm] at hr
  obtain ⟨ds, hds, h1⟩ := onOpt_some hr
  obtain ⟨d, h2, h3⟩ := h ds _ r h1
  refine ⟨d, [], [], h2, fun objs' F ι w ws hag H _ hv => ?_⟩
  have hds' : closeAs objs' vs = some ds := by rw [closeAs_ag hag]; exact hds
  refine (h3 w ws (closeAs_ok H hds' hv)).mono fun e w' hd => ?_
  obtain ⟨vv, bs, okf, rfl, hb, hown, hnd, hbs, hokf⟩ := hd
  obtain ⟨H2, E2⟩ := H.grown hb
  have new : ∀ b, w.heap.size ≤ b → b < w'.heap.size → okOf w' objs' ι b := fun b h1 h2 => ⟨h2, fun o ob ho hl hbk => by have := (H.own o ob b ho hl hbk).2; omega, H.gd b (F.new b (Nat.le_trans H.size h1)).1⟩
  exact ⟨vv, ι, rfl, by simpa using H2, by simpa using E2, vr_of_own hown (fun b hb => new b (hbs b hb).1 (hbs b hb).2) (fun b hb => new b (hokf b hb).1 (hokf b hb).2.1)⟩
theorem GOk.imm {f : FuncId} {g : List V → (V → R) → R} (h : GOk P cx f ⟨[], g, none⟩) : GOk P cx f ⟨[], fun _ _ => none, some (spImm g)⟩ :=
  GOk.ofS h.enter (spImm_ok fun ds k r hr => h.run rfl ds k r hr)
end
end PM

namespace PM
open Go
/-! ## What the primitives are -/
@[simp] theorem std_add (k : IntKind) (x : Int) (y : Int) : std.add k x y = (k.wrap (x + y)) := rfl
@[simp] theorem std_sub (k : IntKind) (x : Int) (y : Int) : std.sub k x y = (k.wrap (x - y)) := rfl
@[simp] theorem std_mul (k : IntKind) (x : Int) (y : Int) : std.mul k x y = (k.wrap (x * y)) := rfl
@[simp] theorem std_quo (k : IntKind) (x : Int) (y : Int) : std.quo k x y = (k.wrap (x.tdiv y)) := rfl
@[simp] theorem std_rem (z0 : IntKind) (x : Int) (y : Int) : std.rem z0 x y = (x.tmod y) := rfl
@[simp] theorem std_wrap (k : IntKind) (n : Int) : std.wrap k n = (k.wrap n) := rfl
@[simp] theorem std_neg (k : IntKind) (n : Int) : std.neg k n = (k.wrap (0 - n)) := rfl
@[simp] theorem std_lt (x : Int) (y : Int) : std.lt x y = (decide (x < y)) := rfl
@[simp] theorem std_le (x : Int) (y : Int) : std.le x y = (decide (x ≤ y)) := rfl
@[simp] theorem std_eq (x : Int) (y : Int) : std.eq x y = (x == y) := rfl
@[simp] theorem std_beq (x : Bool) (y : Bool) : std.beq x y = (x == y) := rfl
@[simp] theorem std_not (x : Bool) : std.not x = (!x) := rfl
@[simp] theorem std_and (x : Bool) (y : Bool) : std.and x y = (x && y) := rfl
@[simp] theorem std_imax (x : Int) (y : Int) : std.imax x y = (if y > x then y else x) := rfl
@[simp] theorem std_imin (x : Int) (y : Int) : std.imin x y = (if y < x then y else x) := rfl
@[simp] theorem std_nz (y : Int) : std.nz y = (decide (y ≠ 0)) := rfl
@[simp] theorem std_shOk (z0 : IntKind) (y : Int) : std.shOk z0 y = (decide (0 ≤ y)) := rfl
@[simp] theorem std_inb (i : Int) (n : Int) : std.inb i n = (decide (0 ≤ i ∧ i < n)) := rfl
@[simp] theorem std_subb (l : Int) (h : Int) (n : Int) : std.subb l h n = (decide (0 ≤ l ∧ l ≤ h ∧ h ≤ n)) := rfl
@[simp] theorem std_room (a : Int) (b : Int) : std.room a b = (decide (a + b ≤ 2147483648)) := rfl
@[simp] theorem std_mkOk (n : Int) : std.mkOk n = (decide (0 ≤ n ∧ n ≤ 2147483648)) := rfl
@[simp] theorem std_ilen (l : List Int) : std.ilen l = ((l.length : Int)) := rfl
@[simp] theorem std_iget (l : List Int) (i : Int) : std.iget l i = (l.getD i.toNat 0) := rfl
@[simp] theorem std_iset (l : List Int) (i : Int) (x : Int) : std.iset l i x = (l.set i.toNat x) := rfl
@[simp] theorem std_iapp (l : List Int) (m : List Int) : std.iapp l m = (l ++ m) := rfl
@[simp] theorem std_isub (l : List Int) (a : Int) (b : Int) : std.isub l a b = ((l.drop a.toNat).take (b.toNat - a.toNat)) := rfl
@[simp] theorem std_izero (n : Int) : std.izero n = (List.replicate n.toNat 0) := rfl
@[simp] theorem std_blen (l : List Bool) : std.blen l = ((l.length : Int)) := rfl
@[simp] theorem std_bget (l : List Bool) (i : Int) : std.bget l i = (l.getD i.toNat false) := rfl
@[simp] theorem std_bset (l : List Bool) (i : Int) (x : Bool) : std.bset l i x = (l.set i.toNat x) := rfl
@[simp] theorem std_bzero (n : Int) : std.bzero n = (List.replicate n.toNat false) := rfl
@[simp] theorem std_vlen (l : List (List Int)) : std.vlen l = ((l.length : Int)) := rfl
@[simp] theorem std_vget (l : List (List Int)) (i : Int) (j : Nat) : std.vget l i j = ((l.getD i.toNat []).getD j 0) := rfl
@[simp] theorem std_vset (l : List (List Int)) (i : Int) (j : Nat) (x : Int) : std.vset l i j x = (l.set i.toNat ((l.getD i.toNat []).set j x)) := rfl
@[simp] theorem std_vput (l : List (List Int)) (i : Int) (r : List Int) : std.vput l i r = (l.set i.toNat r) := rfl
@[simp] theorem std_vapp (l : List (List Int)) (m : List (List Int)) : std.vapp l m = (l ++ m) := rfl
@[simp] theorem std_vsub (l : List (List Int)) (a : Int) (b : Int) : std.vsub l a b = ((l.drop a.toNat).take (b.toNat - a.toNat)) := rfl
@[simp] theorem std_vzero (m : Nat) (n : Int) : std.vzero m n = (List.replicate n.toNat (List.replicate m 0)) := rfl
@[simp] theorem std_rlen (l : List (List C)) : std.rlen l = ((l.length : Int)) := rfl
@[simp] theorem std_rint (l : List (List C)) (i : Int) (j : Nat) : std.rint l i j = (asInt (cOf l i.toNat j)) := rfl
@[simp] theorem std_rbool (l : List (List C)) (i : Int) (j : Nat) : std.rbool l i j = (asBool (cOf l i.toNat j)) := rfl
@[simp] theorem std_rsi (l : List (List C)) (i : Int) (j : Nat) : std.rsi l i j = ((asRows (cOf l i.toNat j)).map fun r => asInt (cAt r 0)) := rfl
@[simp] theorem std_rsb (l : List (List C)) (i : Int) (j : Nat) : std.rsb l i j = ((asRows (cOf l i.toNat j)).map fun r => asBool (cAt r 0)) := rfl
@[simp] theorem std_rsv (n : Nat) (l : List (List C)) (i : Int) (j : Nat) : std.rsv n l i j = ((asRows (cOf l i.toNat j)).map fun r => (List.range n).map fun q => asInt (cAt r q)) := rfl
@[simp] theorem std_rsr (l : List (List C)) (i : Int) (j : Nat) : std.rsr l i j = (asRows (cOf l i.toNat j)) := rfl
@[simp] theorem std_rset (l : List (List C)) (i : Int) (j : Nat) (c : C) : std.rset l i j c = (l.set i.toNat ((l.getD i.toNat []).set j c)) := rfl
@[simp] theorem std_rput (l : List (List C)) (i : Int) (r : List C) : std.rput l i r = (l.set i.toNat r) := rfl
@[simp] theorem std_rapp (l : List (List C)) (m : List (List C)) : std.rapp l m = (l ++ m) := rfl
@[simp] theorem std_rsub (l : List (List C)) (a : Int) (b : Int) : std.rsub l a b = ((l.drop a.toNat).take (b.toNat - a.toNat)) := rfl
@[simp] theorem std_rzero (z : List C) (n : Int) : std.rzero z n = (List.replicate n.toNat z) := rfl
@[simp] theorem std_ofi (l : List Int) : std.ofi l = (l.map fun n => [.i n]) := rfl
@[simp] theorem std_ofb (l : List Bool) : std.ofb l = (l.map fun b => [.b b]) := rfl
@[simp] theorem std_ofv (l : List (List Int)) : std.ofv l = (l.map fun r => r.map .i) := rfl

theorem std_fuel : std.fuel = 4294967296 := rfl
theorem i64_wrap {n : Int} (h1 : -9223372036854775808 ≤ n) (h2 : n ≤ 9223372036854775807) : IntKind.i64.wrap n = n := IntWalk.i64_in n (by omega)
theorem i64_min : IntKind.i64.min = -9223372036854775808 := by decide
theorem i64_max : IntKind.i64.max = 9223372036854775807 := by decide
end PM
