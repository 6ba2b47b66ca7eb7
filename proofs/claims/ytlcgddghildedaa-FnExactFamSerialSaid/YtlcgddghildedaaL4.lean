/- The laws machine with marks. -/
import Derived.Test.YtlcgddghildedaaL3
set_option linter.unusedVariables false
set_option linter.unusedSimpArgs false
namespace PM
open Go RowKit

/-! ## What a mark leaves: the kinds of the cells -/
def Ch (v v' : Value) : Prop := v' = v ∨ (∃ k m n, v = .int k m ∧ v' = .int k n) ∨ ∃ a b, v = .bool a ∧ v' = .bool b
theorem Ch.refl (v : Value) : Ch v v := .inl rfl
theorem Ch.int {k : IntKind} {m n : Int} : Ch (.int k m) (.int k n) := .inr (.inl ⟨k, m, n, rfl, rfl⟩)
theorem Ch.bool {a b : Bool} : Ch (.bool a) (.bool b) := .inr (.inr ⟨a, b, rfl, rfl⟩)
theorem Ch.trans {u v x : Value} (h : Ch u v) (g : Ch v x) : Ch u x := by
  rcases h with rfl | ⟨k, m, n, rfl, rfl⟩ | ⟨a, b, rfl, rfl⟩
  · exact g
  · rcases g with rfl | ⟨k', m', n', h, rfl⟩ | ⟨a, b, h, _⟩
    · exact .int
    · cases h; exact .int
    · cases h
  · rcases g with rfl | ⟨k', m', n', h, _⟩ | ⟨a', b', h, rfl⟩
    · exact .bool
    · cases h
    · exact .bool

structure MarkTo (ok : Nat → Prop) (w w' : World) : Prop where
  os : w'.os = w.os
  tape : w'.tape = w.tape
  output : w'.output = w.output
  size : w.heap.size ≤ w'.heap.size
  block : ∀ b, b < w.heap.size → ¬ ok b → w'.heap[b]? = w.heap[b]?
  cells : ∀ (b : Nat) (c : Array Value) (t : TypeId) (z : Nat × Nat), w.heap[b]? = some (Obj.cells c t z) → ∃ c', w'.heap[b]? = some (Obj.cells c' t z) ∧ ∀ (o : Nat) (v : Value), c[o]? = some v → ∃ v', c'[o]? = some v' ∧ Ch v v'

section
variable {ok ok' : Nat → Prop} {w w' w'' : World}
theorem MarkTo.refl : MarkTo ok w w := ⟨rfl, rfl, rfl, Nat.le_refl _, fun _ _ _ => rfl, fun _ c _ _ h => ⟨c, h, fun _ v hv => ⟨v, hv, .refl _⟩⟩⟩
theorem MarkTo.trans (h : MarkTo ok w w') (g : MarkTo ok w' w'') : MarkTo ok w w'' :=
  ⟨g.os.trans h.os, g.tape.trans h.tape, g.output.trans h.output, Nat.le_trans h.size g.size, fun b hb hn => (g.block b (Nat.lt_of_lt_of_le hb h.size) hn).trans (h.block b hb hn), fun b c t z hc => by
    obtain ⟨c1, h1, h2⟩ := h.cells b c t z hc
    obtain ⟨c2, g1, g2⟩ := g.cells b c1 t z h1
    refine ⟨c2, g1, fun o v hv => ?_⟩
    obtain ⟨v1, h3, h4⟩ := h2 o v hv
    obtain ⟨v2, g3, g4⟩ := g2 o v1 h3
    exact ⟨v2, g3, h4.trans g4⟩⟩
theorem MarkTo.mono (h : MarkTo ok w w') (hm : ∀ b, ok b → ok' b) : MarkTo ok' w w' :=
  ⟨h.os, h.tape, h.output, h.size, fun b hb hn => h.block b hb fun e => hn (hm b e), h.cells⟩
theorem MarkTo.of_below (h : Below w.heap.size w w') : MarkTo ok w w' :=
  ⟨h.os, h.tape, h.output, h.size, fun b hb _ => h.block b hb, fun b c t z hc => by
    have hb : b < w.heap.size := by
      rcases Nat.lt_or_ge b w.heap.size with h | h
      · exact h
      · rw [Array.getElem?_eq_none h] at hc; cases hc
    exact ⟨c, (h.block b hb).trans hc, fun _ v hv => ⟨v, hv, .refl _⟩⟩⟩
theorem MarkTo.cell (h : MarkTo ok w w') {b o : Nat} {v : Value} (hc : w.cell? ⟨b, o, none⟩ = some v) : ∃ v', w'.cell? ⟨b, o, none⟩ = some v' ∧ Ch v v' := by
  simp only [World.cell?] at hc ⊢
  split at hc
  · rename_i c t z hb
    obtain ⟨c', h1, h2⟩ := h.cells b c t z hb
    rw [h1]
    exact h2 o v (by simpa using hc)
  · cases hc
theorem MarkTo.unf (h : MarkTo ok w w') {b : Nat} (hu : Unf w b) : Unf w' b := by
  obtain ⟨c, t, hb⟩ := hu
  obtain ⟨c', h1, _⟩ := h.cells b c t _ hb
  exact ⟨c', t, h1⟩
theorem Unf.frozen {b o : Nat} (h : Unf w b) : w.frozen? ⟨b, o, none⟩ = false := by
  obtain ⟨c, t, hb⟩ := h
  simp [World.frozen?, hb]
theorem MarkTo.set {b o : Nat} {u v : Value} (hok : ok b) (hc : w.cell? ⟨b, o, none⟩ = some v) (hch : Ch v u) : MarkTo ok w (w.setCell ⟨b, o, none⟩ u) := by
  have hlt : b < w.heap.size := World.block_lt_of_cell? w ⟨b, o, none⟩ hc
  simp only [World.cell?] at hc
  split at hc
  case h_2 => cases hc
  rename_i c t z hb
  have hb : w.heap[b]? = some (Obj.cells c t z) := hb
  have hc : c[o]? = some v := by simpa using hc
  have e : ∀ b', (w.setCell ⟨b, o, none⟩ u).heap[b']? = if b = b' then some (Obj.cells (c.setIfInBounds o u) t z) else w.heap[b']? := by
    intro b'
    simp only [World.setCell, Array.getElem?_modify]
    by_cases h : b = b'
    · subst h; simp [hb]
    · simp [h]
  refine ⟨rfl, rfl, rfl, by simp [World.setCell], fun b' _ hn => ?_, fun b' c1 t1 z1 h1 => ?_⟩
  · rw [e, if_neg]
    rintro rfl
    exact hn hok
  · rw [e]
    by_cases h : b = b'
    · subst h
      rw [hb] at h1
      cases h1
      rw [if_pos rfl]
      refine ⟨_, rfl, fun o' v' hv' => ?_⟩
      rw [Array.getElem?_setIfInBounds]
      by_cases ho : o = o'
      · subst ho
        rw [hc] at hv'
        cases hv'
        have : o < c.size := by
          rcases Nat.lt_or_ge o c.size with h | h
          · exact h
          · rw [Array.getElem?_eq_none h] at hc; cases hc
        simp only [if_true, this]
        exact ⟨u, rfl, hch⟩
      · simp only [ho, if_false]
        exact ⟨v', hv', .refl _⟩
    · rw [if_neg h]
      exact ⟨c1, h1, fun _ v hv => ⟨v, hv, .refl _⟩⟩
end

/-! ## Data by their shape -/
inductive ShC (cx : Cx) (w : World) (ok : Nat → Prop) : K → C → Value → Prop
  | int (k : IntKind) (c : C) (n : Int) : ShC cx w ok (.int k) c (.int k n)
  | bool (c : C) (b : Bool) : ShC cx w ok .bool c (.bool b)
  | emp (u : TypeId) (c : C) (base : Option Addr) (cap : Nat) : asRows c = [] → ShC cx w ok (.sl u) c (.slice base 0 cap)
  | sl (u : TypeId) (ty : Ty) (e : AK) (sh : List K) (c : C) (a : Addr) (cap : Nat) (f : Nat → Nat → Value) :
      find cx u = some ty → ty.elem = some e → shAK cx e = some sh → a.spot = none → ok a.block →
      (∀ i j, i < (asRows c).length → j < sh.length → w.cell? ⟨a.block, a.off + (i * sh.length + j), none⟩ = some (f i j)) →
      (∀ i j, i < (asRows c).length → j < sh.length → ShC cx w ok (sh.getD j .bool) (cOf (asRows c) i j) (f i j)) →
      ShC cx w ok (.sl u) c (.slice (some a) (asRows c).length cap)
def ShSl (cx : Cx) (w : World) (ok : Nat → Prop) (sh : List K) (rows : List (List C)) (v : Value) : Prop :=
  (rows = [] ∧ ∃ base cap, v = .slice base 0 cap) ∨
  ∃ (a : Addr) (cap : Nat) (f : Nat → Nat → Value), v = .slice (some a) rows.length cap ∧ a.spot = none ∧ ok a.block ∧
    (∀ i j, i < rows.length → j < sh.length → w.cell? ⟨a.block, a.off + (i * sh.length + j), none⟩ = some (f i j)) ∧
    (∀ i j, i < rows.length → j < sh.length → ShC cx w ok (sh.getD j .bool) (cOf rows i j) (f i j))
section
variable {cx : Cx} {ok ok' : Nat → Prop} {w w' : World}
theorem CellV.sh (hm : ∀ b, ok b → ok' b) {k : K} {c : C} {v : Value} (h : CellV cx w ok k c v) : ShC cx w ok' k c v := by
  induction h with
  | int k c => exact .int k c _
  | bool c => exact .bool c _
  | emp u c base cap h => exact .emp u c base cap h
  | sl u ty e sh c a cap f h1 h2 h3 h4 _ h6 _ h8 _ ih => exact .sl u ty e sh c a cap f h1 h2 h3 h4 (hm _ h6) h8 ih
theorem ShC.ch {k : K} {c : C} {v v' : Value} (h : ShC cx w ok k c v) (hc : Ch v v') : ShC cx w ok k c v' := by
  cases h with
  | int k c n =>
    rcases hc with rfl | ⟨k', m', n', h, rfl⟩ | ⟨a, b, h, _⟩
    · exact .int k c n
    · cases h; exact .int k c n'
    · cases h
  | bool c b =>
    rcases hc with rfl | ⟨k', m', n', h, rfl⟩ | ⟨a, b, h, rfl⟩
    · exact .bool c b
    · cases h
    · exact .bool c _
  | emp u c base cap h1 =>
    rcases hc with rfl | ⟨k', m', n', h, rfl⟩ | ⟨a, b, h, rfl⟩
    · exact .emp u c base cap h1
    · cases h
    · cases h
  | sl u ty e sh c a cap f h1 h2 h3 h4 h5 h6 h7 =>
    rcases hc with rfl | ⟨k', m', n', h, rfl⟩ | ⟨a, b, h, rfl⟩
    · exact .sl u ty e sh c a cap f h1 h2 h3 h4 h5 h6 h7
    · cases h
    · cases h
theorem cells_mark {okm : Nat → Prop} (hm : MarkTo okm w w') {f : Nat → Nat → Value} {a : Addr} {m n : Nat} (h : ∀ i j, i < m → j < n → w.cell? ⟨a.block, a.off + (i * n + j), none⟩ = some (f i j)) :
    ∃ f' : Nat → Nat → Value, (∀ i j, i < m → j < n → w'.cell? ⟨a.block, a.off + (i * n + j), none⟩ = some (f' i j)) ∧ ∀ i j, i < m → j < n → Ch (f i j) (f' i j) := by
  refine ⟨fun i j => (w'.cell? ⟨a.block, a.off + (i * n + j), none⟩).getD Go.undef, fun i j hi hj => ?_, fun i j hi hj => ?_⟩
  · obtain ⟨v', h1, _⟩ := hm.cell (h i j hi hj)
    show _ = some (Option.getD _ _)
    rw [h1]; rfl
  · obtain ⟨v', h1, h2⟩ := hm.cell (h i j hi hj)
    show Ch _ (Option.getD _ _)
    rw [h1]; exact h2
theorem ShC.mark {okm : Nat → Prop} (hm : MarkTo okm w w') {k : K} {c : C} {v : Value} (h : ShC cx w ok k c v) : ShC cx w' ok k c v := by
  induction h with
  | int k c n => exact .int k c n
  | bool c b => exact .bool c b
  | emp u c base cap h => exact .emp u c base cap h
  | sl u ty e sh c a cap f h1 h2 h3 h4 h5 h6 _ ih =>
    obtain ⟨f', g1, g2⟩ := cells_mark hm h6
    exact .sl u ty e sh c a cap f' h1 h2 h3 h4 h5 g1 fun i j hi hj => (ih i j hi hj).ch (g2 i j hi hj)
theorem ShSl.mark {okm : Nat → Prop} (hm : MarkTo okm w w') {sh : List K} {rows : List (List C)} {v : Value} (h : ShSl cx w ok sh rows v) : ShSl cx w' ok sh rows v := by
  rcases h with h | ⟨a, cap, f, h1, h2, h3, h4, h5⟩
  · exact .inl h
  · obtain ⟨f', g1, g2⟩ := cells_mark hm h4
    exact .inr ⟨a, cap, f', h1, h2, h3, g1, fun i j hi hj => ((h5 i j hi hj).mark hm).ch (g2 i j hi hj)⟩
theorem ShC.slice {u : TypeId} {ty : Ty} {e : AK} {sh : List K} {c : C} {v : Value} (h : ShC cx w ok (.sl u) c v) (h1 : find cx u = some ty) (h2 : ty.elem = some e) (h3 : shAK cx e = some sh) : ShSl cx w ok sh (asRows c) v := by
  cases h with
  | emp _ _ base cap h => exact .inl ⟨h, base, cap, rfl⟩
  | sl _ ty' e' sh' _ a cap f g1 g2 g3 g4 g5 g6 g7 =>
    rw [h1] at g1; cases g1
    rw [h2] at g2; cases g2
    rw [h3] at g3; cases g3
    exact .inr ⟨a, cap, f, rfl, g4, g5, g6, g7⟩
/-- A value by its shape: a cell. -/
def Sh1 (cx : Cx) (w : World) (ok : Nat → Prop) : V → Value → Prop
  | .int k _, v => ∃ n, v = .int k n
  | .bool _, v => ∃ b, v = .bool b
  | .arr a, v => ∃ sh, shAK cx (akOf a) = some sh ∧ ShSl cx w ok sh (rowsOf a) v
  | _, _ => False
def ShV (cx : Cx) (w : World) (ok : Nat → Prop) : V → Value → Prop
  | .agg ds, v => ∃ vs, v = .agg vs.toArray ∧ All2 (Sh1 cx w ok) ds vs
  | d, v => Sh1 cx w ok d v
end
/-- A function that marks: its argument's numbers are written over; a number comes back. -/
structure MarkOk (P : Program) (cx : Cx) (f : FuncId) (g : List V → (V → R) → R) : Prop where
  enter : ∀ args w, (callFunc f args).run P w = .ok (.enter f args) w
  run : ∀ d n k r, g [d, .int .i64 n] k = some r → ∃ m, k (.int .i64 m) = some r ∧ ∀ ok w v, (∀ b, ok b → b < w.heap.size ∧ Unf w b) → ShV cx w ok d v →
    Calls P f #[v, .int .i64 n] w fun e w' => e = .returned (.int .i64 m) ∧ MarkTo ok w w'
abbrev Mks := List (Nat × (List V → (V → R) → R))
def MksOk (P : Program) (cx : Cx) (M : Mks) : Prop := ∀ f g, find M f = some g → MarkOk P cx f g
theorem MksOk.nil {P : Program} {cx : Cx} : MksOk P cx [] := fun f g h => by simp [find_nil] at h
theorem MksOk.cons {P : Program} {cx : Cx} {M : Mks} {f : Nat} {g : List V → (V → R) → R} (h : MarkOk P cx f g) (hM : MksOk P cx M) : MksOk P cx ((f, g) :: M) := fun f' g' hf => by
  rw [find_cons] at hf
  split at hf
  · rename_i e; subst e; cases hf; exact h
  · exact hM f' g' hf

/-! ## The machine with marks -/
/-- What outlives a mark. -/
def clOb (xs : List Nat) (o : Nat) : Ob → Ob
  | .arr fr a => match mem xs o, isRows a with
    | false, false => .arr fr a
    | _, _ => .dead
  | _ => .dead
def cleanO (xs : List Nat) : Obs → Obs
  | [] => []
  | (o, ob) :: l => (o, clOb xs o ob) :: cleanO xs l
def clV (objs : Obs) : V → V
  | .int k n => .int k n
  | .bool b => .bool b
  | .sref o => match find objs o with
    | some (.arr _ _) => .sref o
    | _ => .junk
  | _ => .junk
def cleanT (objs : Obs) : List (Nat × V) → List (Nat × V)
  | [] => []
  | (t, v) :: l => (t, clV objs v) :: cleanT objs l
/-- May this be marked: numbers, bools and slices that are objects; what lies in their cells is new. -/
def markCells (objs : Obs) : List V → Bool
  | [] => true
  | .int _ _ :: l => markCells objs l
  | .bool _ :: l => markCells objs l
  | .sref o :: l => match find objs o with
    | some (.arr true _) => markCells objs l
    | some (.arr false a) => match isRows a with
      | true => false
      | false => markCells objs l
    | _ => false
  | _ => false
def markV (objs : Obs) : V → Bool
  | .agg cs => markCells objs cs
  | v => markCells objs [v]
def mark? (M : Mks) (o : Oper) : Option ((List V → (V → R) → R) × Array Operand) :=
  match o.op with
  | .call c => match c.callee with
    | .value (.func f) => match find M f with
      | some g => some (g, c.args)
      | none => none
    | _ => none
  | _ => none
def markStep (olds : List (Nat × V)) (o : Oper) (g : List V → (V → R) → R) (args : Array Operand) (σ : S) (k : S → R) : R :=
  match o.guard with
  | some _ => none
  | none => ev0s args.toList σ fun vs => match vs with
    | [x, .int .i64 n] => onOpt (closeA σ.objs x) fun d => match markV σ.objs x with
      | true => g [d, .int .i64 n] fun r => match r with
        | .int .i64 m => fS ((⟨olds ++ cleanT (cleanO (refs1 [] x) σ.objs) σ.tmps, cleanO (refs1 [] x) σ.objs⟩ : S).put o.dst (.int .i64 m)) k
        | _ => none
      | false => none
    | _ => none

section
variable (A : Prims) (cx : Cx) (M : Mks) (olds : List (Nat × V))
def lpops (run : Run) (E : Env) (all : List Oper) (base : Nat) : Nat → List Oper → S → (S → R) → R
  | _, [], σ, k => k σ
  | n, o :: rest, σ, k => match mark? M o with
    | some (g, args) => markStep olds o g args σ fun σ' => lpops run E all base (n + 1) rest σ' k
    | none => pops A cx run E false all base n [] [] [o] σ fun σ' => fS σ' fun σ' => lpops run E all base (n + 1) rest σ' k
def lexec (run : Run) (E : Env) : Code → S → (Exit → S → R) → R
  | .skip, σ, K => K .normal σ
  | .region id ops draw, σ, K => match draw with
    | true => pops A cx run E true ops.toList (131072 * (id + 1)) 0 [] [] ops.toList σ fun σ' => match find E.live id with
      | some keep => trim false keep σ' (K .normal)
      | none => K .normal σ'
    | false => lpops A cx M olds run E ops.toList (131072 * (id + 1)) 0 ops.toList σ fun σ' => match find E.live id with
      | some keep => trim false keep σ' (K .normal)
      | none => K .normal σ'
  | .seq a b, σ, K => lexec run E a σ fun e σ => match e with
    | .normal => lexec run E b σ K
    | e => K e σ
  | .cond c a b, σ, K => ev0 c σ fun v => match v with
    | .bool x => onBool x fun x => match x with
      | true => lexec run E a (setTmp σ c true) K
      | false => lexec run E b (setTmp σ c false) K
    | _ => none
  | .ret, σ, K => K .ret σ
  | _, _, _ => none
/-- Data alone. -/
def dataC : List V → Bool
  | [] => true
  | .int _ _ :: l => dataC l
  | .bool _ :: l => dataC l
  | .arr _ :: l => dataC l
  | .pimm _ _ _ :: l => dataC l
  | _ => false
def dataV : V → Bool
  | .agg cs => dataC cs
  | v => dataC [v]
def dataVs : List V → Bool
  | [] => true
  | v :: l => match dataV v with
    | true => dataVs l
    | false => false
def lfun (E : Env) (fn : Func) (ds : List V) (k : V → R) : R :=
  match fn.body with
  | none => none
  | some c => match Nat.ble ds.length fn.ntmps, dataVs ds with
    | true, true => lexec A cx M (params 0 ds) (runD A cx E.inl E.Γ 3) E c ⟨params 0 ds, []⟩ fun e σ => match e with
      | .normal => retV cx [] fn σ k
      | .ret => retV cx [] fn σ k
      | _ => none
    | _, _ => none
end

/-! ## It is right -/
/-- A frame whose own memory is the new one; the parameters stand pinned, data in old memory. -/
structure LF (cx : Cx) (F : Fr) (olds : List (Nat × V)) : Prop where
  own : ∀ b, F.own b → F.w0.heap.size ≤ b
  fresh : ∀ b, F.fresh b → F.w0.heap.size ≤ b
  gd : F.gd = fun _ => True
  pin : ∀ t d, find olds t = some d → ∃ v, (t, v) ∈ F.pins ∧ dataV d = true ∧ VA cx F.w0 (fun b => b < F.w0.heap.size) [] ι00 d v

section
variable {P : Program} {cx : Cx} {F : Fr} {ι : Im} {σ : S} {a : Act} {w w' : World} {objs : Obs} {ok ok' : Nat → Prop}

theorem find_cleanO (xs : List Nat) : ∀ (l : Obs) (o : Nat), find (cleanO xs l) o = (find l o).map (clOb xs o)
  | [], o => rfl
  | (q, ob) :: l, o => by
    simp only [cleanO, find_cons, find_cleanO xs l o]
    split
    · rename_i e; subst e; rfl
    · rfl
theorem find_cleanT (objs : Obs) : ∀ (l : List (Nat × V)) (t : Nat), find (cleanT objs l) t = (find l t).map (clV objs)
  | [], o => rfl
  | (q, ob) :: l, o => by
    simp only [cleanT, find_cons, find_cleanT objs l o]
    split
    · rfl
    · rfl
theorem cleanO_live {xs : List Nat} {o : Nat} {ob : Ob} (h : find (cleanO xs objs) o = some ob) (hl : live ob) : ∃ fr a, ob = .arr fr a ∧ find objs o = some (.arr fr a) ∧ o ∉ xs ∧ isRows a = false := by
  rw [find_cleanO, Option.map_eq_some_iff] at h
  obtain ⟨ob0, h1, h2⟩ := h
  cases ob0 with
  | box cs => simp only [clOb] at h2; subst h2; exact hl.elim
  | dead => simp only [clOb] at h2; subst h2; exact hl.elim
  | arr fr a =>
    simp only [clOb] at h2
    split at h2
    · rename_i e1 e2
      subst h2
      exact ⟨fr, a, rfl, h1, (fun hx => by rw [mem_iff.2 hx] at e1; cases e1), e2⟩
    · subst h2; exact hl.elim

theorem Heap.clean (H : Heap cx F ι objs w) {olds : List (Nat × V)} (hF : LF cx F olds) {xs : List Nat} (hM : MarkTo ok w w')
    (hok : ∀ b, ok b → (∃ o ∈ xs, ∃ ob, find objs o = some ob ∧ live ob ∧ ι.blk o = some b) ∨ (okOf w objs ι b ∧ F.fresh b)) : Heap cx F ι (cleanO xs objs) w' := by
  have nown : ∀ b, b < F.w0.heap.size → ¬ F.own b → ¬ ok b := by
    intro b hb hn h
    rcases hok b h with ⟨o, _, ob, h1, h2, h3⟩ | ⟨_, h2⟩
    · exact hn (H.own o ob b h1 h2 h3).1
    · have := hF.fresh b h2; omega
  refine ⟨fun o ob ho => ?_, fun o o' ob ob' b h h' l l' h1 h2 => ?_, fun o ob b h l h1 => ?_, Nat.le_trans H.size hM.size, hM.os.trans H.os, hM.tape.trans H.tape, hM.output.trans H.output, fun b hb hn => ?_, fun o a b h h1 => ?_, H.gd, H.gdF⟩
  · by_cases hl : live ob
    · obtain ⟨fr, a, rfl, h1, h2, h3⟩ := cleanO_live ho hl
      obtain ⟨sh, xs', k1, k2, k3, k4, k5, k6⟩ := H.obok o _ h1
      have hb : ∀ b, ι.blk o = some b → w'.heap[b]? = w.heap[b]? := by
        intro b hb
        refine hM.block b (H.own o _ b h1 trivial hb).2 fun hk => ?_
        rcases hok b hk with ⟨o', hx, ob', g1, g2, g3⟩ | ⟨g1, _⟩
        · have := H.inj o o' _ _ b h1 g1 trivial g2 hb g3
          subst this
          exact h2 hx
        · exact g1.2.1 o _ h1 trivial hb
      refine ⟨sh, xs', k1, k2, k3, ⟨k4.1, ?_⟩, k5, fun i j hi hj => ?_⟩
      · rcases k4.2 with hn | ⟨g, cap, cur, hv, hg, hh, r⟩
        · exact .inl hn
        · refine .inr ⟨g, cap, cur, hv, hg, ?_, r⟩
          rw [hb g (by rw [k5, hv]; rfl)]; exact hh
      · obtain ⟨cv, c1, c2⟩ := k6 i j hi hj
        exact ⟨cv, c1, c2.flat h3 k1⟩
    · cases ob with
      | dead => trivial
      | box cs => exact (hl trivial).elim
      | arr fr a => exact (hl trivial).elim
  · obtain ⟨fr, a, rfl, g1, _⟩ := cleanO_live h l
    obtain ⟨fr', a', rfl, g1', _⟩ := cleanO_live h' l'
    exact H.inj o o' _ _ b g1 g1' trivial trivial h1 h2
  · obtain ⟨fr, a, rfl, g1, _⟩ := cleanO_live h l
    obtain ⟨q1, q2⟩ := H.own o _ b g1 trivial h1
    exact ⟨q1, Nat.lt_of_lt_of_le q2 hM.size⟩
  · rw [hM.block b (Nat.lt_of_lt_of_le hb H.size) (nown b hb hn)]
    exact H.keep b hb hn
  · obtain ⟨fr, a', e, g1, _⟩ := cleanO_live h trivial
    cases e
    exact H.fresh o _ b g1 h1

theorem dataC_mono {ι1 ι2 : Im} {N N' : Obs} (hm : ∀ b, ok b → ok' b ∧ w'.heap[b]? = w.heap[b]?) : ∀ {cs : List V} {vs : List Value}, dataC cs = true → All2 (VC cx w ok N ι1) cs vs → All2 (VC cx w' ok' N' ι2) cs vs
  | [], [], _, _ => trivial
  | v :: cs, x :: vs, h, ha => by
    cases v <;> simp only [dataC] at h <;> (try (cases h; done))
    · exact ⟨ha.1, dataC_mono hm h ha.2⟩
    · exact ⟨ha.1, dataC_mono hm h ha.2⟩
    · exact ⟨ArrV.mono hm ha.1, dataC_mono hm h ha.2⟩
    · obtain ⟨sh, ad, cap, h1, h2, h3, h4⟩ := ha.1
      exact ⟨⟨sh, ad, cap, h1, h2, SlV.mono hm h3, h4⟩, dataC_mono hm h ha.2⟩
  | [], _ :: _, _, h => h.elim
  | _ :: _, [], _, h => h.elim
theorem dataV_mono {ι1 ι2 : Im} {N N' : Obs} (hm : ∀ b, ok b → ok' b ∧ w'.heap[b]? = w.heap[b]?) {d : V} {v : Value} (h : dataV d = true) (hv : VA cx w ok N ι1 d v) : VA cx w' ok' N' ι2 d v := by
  cases d <;> simp only [dataV, dataC] at h <;> (try (cases h; done))
  case agg cs =>
    obtain ⟨l, rfl, hl⟩ := hv
    exact ⟨l, rfl, dataC_mono hm h hl⟩
  case int k n => exact hv
  case bool b => exact hv
  case arr a => exact ArrV.mono hm hv
  case pimm a i off =>
    obtain ⟨sh, ad, cap, h1, h2, h3, h4⟩ := hv
    exact ⟨sh, ad, cap, h1, h2, SlV.mono hm h3, h4⟩

/-- What a mark may write: the objects' own memory and new memory in their cells. -/
theorem markCells_ok (H : Heap cx F ι objs w) (hok : ∀ b, okOf w objs ι b → FU F.fresh w b → ok b) : ∀ {cs ds : List V} {l : List Value}, (∀ q ∈ refsC [] cs, ∀ ob b, find objs q = some ob → live ob → ι.blk q = some b → ok b) →
    markCells objs cs = true → closes objs cs = some ds → All2 (VC cx w (okOf w objs ι) objs ι) cs l → All2 (Sh1 cx w ok) ds l
  | [], ds, [], _, _, h, _ => by simp only [closes, Option.some.injEq] at h; subst h; trivial
  | v :: cs, ds, x :: l, hr, hm, h, ha => by
    simp only [closes] at h
    split at h
    · cases h
    rename_i c hc
    split at h
    · cases h
    rename_i r hrr
    cases h
    cases v <;> simp only [markCells] at hm <;> (try (cases hm; done))
    case int k n =>
      simp only [close1] at hc; cases hc
      exact ⟨⟨n, ha.1⟩, markCells_ok H hok (fun q hq => hr q (by simpa [refsC] using hq)) hm hrr ha.2⟩
    case bool b =>
      simp only [close1] at hc; cases hc
      exact ⟨⟨b, ha.1⟩, markCells_ok H hok (fun q hq => hr q (by simpa [refsC] using hq)) hm hrr ha.2⟩
    case sref o =>
      have hr1 : ∀ q ∈ refsC [] cs, ∀ ob b, find objs q = some ob → live ob → ι.blk q = some b → ok b := fun q hq => hr q (by simp only [refsC]; rw [refsC_acc]; exact List.mem_append.2 (.inr hq))
      have key : ∀ fr a, find objs o = some (.arr fr a) → (fr = true ∨ isRows a = false) → Sh1 cx w ok c x := by
        intro fr a ho hfr
        simp only [close1, ho] at hc
        cases hc
        obtain ⟨ob, e1, e2⟩ := ha.1
        rw [ho] at e1; cases e1
        have hx : x = ι.sv o := e2 _ _ rfl
        obtain ⟨sh, xs, k1, k2, k3, k4, k5, k6⟩ := H.obok o _ ho
        rw [← hx] at k4 k5
        refine ⟨sh, k1, ?_⟩
        by_cases hn : (rowsOf a).length = 0
        · have hnil := List.eq_nil_of_length_eq_zero hn
          rcases k4.2 with ⟨e1, _⟩ | ⟨g, cap, cur, e1, _⟩
          · exact .inl ⟨hnil, none, 0, e1⟩
          · exact .inl ⟨hnil, _, cap, by rw [e1, hn]⟩
        · obtain ⟨g, cap, e1, e2, e3⟩ := ownsRow_cell k4 (by omega)
          refine .inr ⟨⟨g, 0, none⟩, cap, fun i j => (xs[i * sh.length + j]?).getD Go.undef, e1, rfl, hr o (by simp only [refsC]; rw [refsC_acc]; simp) _ g ho trivial (by rw [k5, e1]; rfl), fun i j hi hj => ?_, fun i j hi hj => ?_⟩
          · obtain ⟨cv, c1, c2⟩ := k6 i j hi hj
            show w.cell? ⟨g, 0 + (i * sh.length + j), none⟩ = some ((xs[i * sh.length + j]?).getD Go.undef)
            rw [c1, Nat.zero_add]
            exact e3 _ _ c1
          · obtain ⟨cv, c1, c2⟩ := k6 i j hi hj
            show ShC cx w ok _ _ ((xs[i * sh.length + j]?).getD Go.undef)
            rw [c1]
            rcases hfr with rfl | hfr
            · exact c2.sh fun b hb => hok b hb.1 (hb.2 rfl)
            · exact (c2.flat (ok' := ok) (w' := w) hfr k1).sh fun _ h => h
      split at hm
      · rename_i a ho
        exact ⟨key _ _ ho (.inl rfl), markCells_ok H hok hr1 hm hrr ha.2⟩
      · rename_i a ho
        split at hm
        · cases hm
        · rename_i hf
          exact ⟨key _ _ ho (.inr hf), markCells_ok H hok hr1 hm hrr ha.2⟩
      · cases hm
  | [], _, _ :: _, _, _, _, h => h.elim
  | _ :: _, _, [], _, _, _, h => h.elim
theorem markV_ok (H : Heap cx F ι objs w) (hok : ∀ b, okOf w objs ι b → FU F.fresh w b → ok b) {x d : V} {v : Value} (hr : ∀ q ∈ refs1 [] x, ∀ ob b, find objs q = some ob → live ob → ι.blk q = some b → ok b)
    (hm : markV objs x = true) (h : closeA objs x = some d) (hv : VR cx w (okOf w objs ι) objs ι x v) : ShV cx w ok d v := by
  cases x
  case agg cs =>
    simp only [closeA] at h
    split at h
    · rename_i ds hds
      cases h
      obtain ⟨l, rfl, hl⟩ := hv
      exact ⟨l, rfl, markCells_ok H hok hr hm hds hl⟩
    · cases h
  all_goals
    simp only [markV, markCells] at hm
    try (cases hm; done)
  case int k n =>
    simp only [closeA, close1] at h; cases h
    exact ⟨n, hv⟩
  case bool b =>
    simp only [closeA, close1] at h; cases h
    exact ⟨b, hv⟩
  case sref o =>
    have h0 : close1 objs (.sref o) = some d := h
    have h2 : closes objs [.sref o] = some [d] := by simp only [closes, h0]
    have := markCells_ok (cs := [.sref o]) (l := [v]) H hok (fun q hq => hr q hq) (by simp only [markCells]; exact hm) h2 ⟨hv, trivial⟩
    have h3 : Sh1 cx w ok d v := this.1
    simp only [close1] at h0
    split at h0
    · cases h0; exact h3
    · cases h0
theorem markV_obs {x : V} (hm : markV objs x = true) : ∀ q ∈ refs1 [] x, ∃ fr a, find objs q = some (.arr fr a) := by
  have cells : ∀ cs : List V, markCells objs cs = true → ∀ q ∈ refsC [] cs, ∃ fr a, find objs q = some (.arr fr a) := by
    intro cs
    induction cs with
    | nil => intro _ q hq; cases hq
    | cons v cs ih =>
      intro hm q hq
      cases v <;> simp only [markCells] at hm <;> (try (cases hm; done))
      case int => exact ih hm q (by simpa [refsC] using hq)
      case bool => exact ih hm q (by simpa [refsC] using hq)
      case sref o =>
        simp only [refsC] at hq
        rw [refsC_acc] at hq
        split at hm
        · rename_i a ho
          rcases List.mem_append.1 hq with hq | hq
          · simp at hq; subst hq; exact ⟨_, _, ho⟩
          · exact ih hm q hq
        · rename_i a ho
          split at hm
          · cases hm
          · rcases List.mem_append.1 hq with hq | hq
            · simp at hq; subst hq; exact ⟨_, _, ho⟩
            · exact ih hm q hq
        · cases hm
  cases x
  case agg cs => exact cells cs hm
  all_goals
    first
    | (intro q hq; simp [refs1] at hq; done)
    | skip
  case sref o => exact fun q hq => cells [.sref o] hm q (by simpa [refs1, refsC] using hq)
  all_goals
    simp only [markV, markCells] at hm
    cases hm

theorem mark?_some {M : Mks} {o : Oper} {g : List V → (V → R) → R} {args : Array Operand} (h : mark? M o = some (g, args)) : ∃ c f, o.op = .call c ∧ c.callee = .value (.func f) ∧ find M f = some g ∧ args = c.args := by
  unfold mark? at h
  split at h
  · rename_i c hc
    split at h
    · rename_i f hf
      split at h
      · rename_i g' hg
        cases h
        exact ⟨c, f, hc, hf, hg, rfl⟩
      · cases h
    · cases h
  · cases h

/-- What an operation comes to in a law. -/
def LTo (P : Program) (cx : Cx) (olds : List (Nat × V)) (ops : Array Oper) (i : Nat) (τ τ' : S) : Prop :=
  ∀ F ι a w Q (K : Act → World → Prop), LF cx F olds → Sim cx F ι τ a w → (∀ o d, ops[i]? = some o → o.dst = some d → DOk F d) →
    (∀ ι' a' w', Sim cx F ι' τ' a' w' → K a' w') → wpOp P ops Q i K a w

theorem mark_step {M : Mks} {olds : List (Nat × V)} {ops : Array Oper} {n : Nat} {o : Oper} {g : List V → (V → R) → R} {args : Array Operand} {k : S → R} {r : V} (hM : MksOk P cx M) (ho : ops[n]? = some o) (hm : mark? M o = some (g, args))
    (h : markStep olds o g args σ k = some r) : ∃ σ1, LTo P cx olds ops n σ σ1 ∧ k σ1 = some r := by
  obtain ⟨c, f, hop, hcal, hfind, rfl⟩ := mark?_some hm
  have hf := hM f g hfind
  unfold markStep at h
  split at h
  · cases h
  rename_i hg
  obtain ⟨vs, h1, h2⟩ := ev0s_all (cx := cx) h
  split at h1
  case h_2 => cases h1
  rename_i x m
  obtain ⟨d, hd, h3⟩ := onOpt_some h1
  split at h3
  case h_2 => cases h3
  rename_i hmv
  obtain ⟨q, h4, h5⟩ := hf.run _ _ _ _ h3
  dsimp only at h4
  rw [fS_eq] at h4
  refine ⟨_, fun F ι a w Q K hF hs hdd hK => ?_, h4⟩
  have H := hs.heap
  have hv := h2 F ι a w hs
  have hdst : ∀ d, o.dst = some d → DOk F d := fun d h => hdd o d ho h
  match hvs : c.args.toList.map a.eval, hv with
  | [v, vn], ⟨hv1, hv2, _⟩ =>
    have hv2 : vn = .int .i64 m := hv2
    subst hv2
    let ok : Nat → Prop := fun b => (∃ o ∈ refs1 [] x, ∃ ob, find σ.objs o = some ob ∧ live ob ∧ ι.blk o = some b) ∨ (okOf w σ.objs ι b ∧ FU F.fresh w b)
    have hok : ∀ b, ok b → b < w.heap.size ∧ Unf w b := by
      rintro b (⟨q', hq, ob, g1, g2, g3⟩ | ⟨g1, g2⟩)
      · obtain ⟨fr, a', g4⟩ := markV_obs hmv q' hq
        refine ⟨(H.own q' ob b g1 g2 g3).2, ?_⟩
        obtain ⟨sh, xs, _, _, _, k4, k5, _⟩ := H.obok q' _ g4
        exact own_unf k4 (by rw [← k5]; exact g3)
      · exact ⟨g1.1, g2.2⟩
    have hsv : ShV cx w ok d v := markV_ok H (fun b hb hu => .inr ⟨hb, hu⟩) (fun q' hq ob b g1 g2 g3 => .inl ⟨q', hq, ob, g1, g2, g3⟩) hmv hd hv1
    have hcall := h5 ok w v hok hsv
    unfold wpOp
    simp only [ho, want_none hg cx F ι a w hs, if_true]
    refine .inl ?_
    unfold Oper.wp
    have hex : (execOp a.eval o).run P w = .ok (.enter f #[v, .int .i64 m]) w := by
      have e1 : c.args.map a.eval = #[v, .int .i64 m] := by
        apply Array.ext'; simpa using hvs
      have := hf.enter (c.args.map a.eval ++ #[]) w
      simp [execOp, hop, resolve, hcal, Act.eval, Deferred.ofValue, invoke, e1] at this ⊢
      exact this
    rw [hex]
    refine hcall.mono fun e w' he => ?_
    obtain ⟨rfl, hmk⟩ := he
    have H2 : Heap cx F ι (cleanO (refs1 [] x) σ.objs) w' := H.clean hF hmk fun b hb => by
      rcases hb with hb | hb
      · exact .inl hb
      · exact .inr ⟨hb.1, hb.2.1⟩
    have hs2 : Sim cx F ι ⟨olds ++ cleanT (cleanO (refs1 [] x) σ.objs) σ.tmps, cleanO (refs1 [] x) σ.objs⟩ a w' := by
      refine ⟨hs.defers, hs.size, fun t y hy => ?_, H2, hs.pin⟩
      have hy : find (olds ++ cleanT (cleanO (refs1 [] x) σ.objs) σ.tmps) t = some y := hy
      rw [find_append] at hy
      cases hol : find olds t with
      | some d0 =>
        rw [hol] at hy
        have hy : d0 = y := by simpa using hy
        subst hy
        obtain ⟨v0, p1, p2, p3⟩ := hF.pin t d0 hol
        rw [hs.pin t v0 p1]
        have hm : ∀ b, b < F.w0.heap.size → okOf w' (cleanO (refs1 [] x) σ.objs) ι b ∧ w'.heap[b]? = F.w0.heap[b]? := by
          intro b hb
          have hn : ¬ F.own b := fun hown => by have := hF.own b hown; omega
          exact ⟨⟨Nat.lt_of_lt_of_le hb H2.size, fun o' ob ho' hl hbk => hn (H2.own o' ob b ho' hl hbk).1, by rw [H2.gdF, hF.gd]; trivial⟩, H2.keep b hb hn⟩
        exact VR_of_VA (dataV_mono hm p2 p3)
      | none =>
        rw [hol] at hy
        have hy : find (cleanT (cleanO (refs1 [] x) σ.objs) σ.tmps) t = some y := by simpa using hy
        rw [find_cleanT, Option.map_eq_some_iff] at hy
        obtain ⟨y0, hy1, rfl⟩ := hy
        have hold := hs.tmps t y0 hy1
        cases y0 <;> first | trivial | exact hold | skip
        case sref o' =>
          simp only [clV]
          split
          · rename_i fr a' ho'
            obtain ⟨ob, e1, e2⟩ := hold
            obtain ⟨fr', a'', e3, e4, _⟩ := cleanO_live ho' trivial
            cases e3
            rw [e4] at e1; cases e1
            exact ⟨_, ho', fun fr1 a1 _ => e2 _ _ rfl⟩
          · trivial
    have A : After cx F ι (cleanO (refs1 [] x) σ.objs) w' ι (cleanO (refs1 [] x) σ.objs) w' (.int .i64 q) (.int .i64 q) := ⟨H2, Ext.refl, rfl⟩
    exact hK ι _ w' (hs2.put A hdst)

variable {run : Run} {E : Env} {n0 : Nat × List Nat} {M : Mks} {olds : List (Nat × V)} {base : Nat} {k : S → R} {r : V} {ops : Array Oper}
theorem lpops_sound (hM : MksOk P cx M) (hc : CxOk P cx) (hΓ : GamOk P cx E.Γ) (hrun : RunOk P cx run) (hinl : InlOk P E.inl) {m0 : Nat} (hd : ∀ (i : Nat) (o : Oper) (d : Nat), m0 ≤ i → ops[i]? = some o → o.dst = some d → DIn n0 d) :
    ∀ {rest : List Oper} {n : Nat} {σ : S}, m0 ≤ n → n ≤ ops.size → ops.toList.drop n = rest → lpops std cx M olds run E ops.toList base n rest σ k = some r →
      ∃ σ', k σ' = some r ∧ ∀ F, Fits F n0 → LF cx F olds → ∀ Q ι a w, Sim cx F ι σ a w → (∀ ι' a' w', Sim cx F ι' σ' a' w' → Q Exit.normal a' w') → wpOps P ops Q (List.range' n (ops.size - n)) a w
  | [], n, σ, hm0, hn, hr, h => by
    have hle : n = ops.size := by
      have := List.drop_eq_nil_iff.1 hr
      simp at this; omega
    rw [lpops] at h
    refine ⟨σ, h, fun F _ _ Q ι a w hs hQ => ?_⟩
    subst hle
    simp only [Nat.sub_self, List.range'_zero, wpOps]
    exact hQ ι a w hs
  | o :: rest, n, σ, hm0, hn, hr, h => by
    have ho : ops[n]? = some o := by
      have := congrArg (·[0]?) hr
      simpa [List.getElem?_drop] using this
    have hlt : n < ops.size := (Array.getElem?_eq_some_iff.1 ho).1
    have step : ∃ σ1, LTo P cx olds ops n σ σ1 ∧ lpops std cx M olds run E ops.toList base (n + 1) rest σ1 k = some r := by
      rw [lpops] at h
      split at h
      · rename_i g args hm
        exact mark_step hM ho hm h
      · obtain ⟨σ1, h1, h2⟩ := pops_seq_step hc hΓ hrun hinl rfl ho h
        rw [pops, fS_eq] at h2
        exact ⟨σ1, fun F ι a w Q K _ hs hdd hK => h1 F ι a w Q K hs hdd fun ι' a' w' hs' _ => hK ι' a' w' hs', h2⟩
    obtain ⟨σ1, h1, h2⟩ := step
    obtain ⟨σ', h3, h4⟩ := lpops_sound hM hc hΓ hrun hinl hd (n := n + 1) (by omega) hlt (by
      have := congrArg List.tail hr
      simpa [List.tail_drop] using this) h2
    refine ⟨σ', h3, fun F hF hL Q ι a w hs hQ => ?_⟩
    rw [show ops.size - n = (ops.size - (n + 1)) + 1 by omega, List.range'_succ, wpOps_cons]
    refine h1 F ι a w Q _ hL hs (fun o d h1 h2 => (hd n o d hm0 h1 h2).fits hF) fun ι' a' w' hs' => ?_
    exact h4 F hF hL Q ι' a' w' hs' hQ

def LMain (P : Program) (cx : Cx) (M : Mks) (olds : List (Nat × V)) (run : Run) (E : Env) (n0 : Nat × List Nat) (c : Code) : Prop := ∀ (σ : S) (K : Exit → S → R) (r : V), lexec std cx M olds run E c σ K = some r → dstsOk n0 c = true →
  ∃ e σ', K e σ' = some r ∧ ∀ F, Fits F n0 → LF cx F olds → ∀ ι a w, Sim cx F ι σ a w → c.wp P (fun e' a' w' => e' = e ∧ ∃ ι', Sim cx F ι' σ' a' w') a w

theorem lexec_sound (hM : MksOk P cx M) (hc : CxOk P cx) (hΓ : GamOk P cx E.Γ) (hm : P.follows .mixedOrders = true) (hrun : RunOk P cx run) (hinl : InlOk P E.inl) : ∀ c, LMain P cx M olds run E n0 c := by
  intro c
  induction c with
  | skip =>
    intro σ K r h _
    simp only [lexec] at h
    exact ⟨_, _, h, fun F _ _ ι a w hs => wp_skip ⟨rfl, ι, hs⟩⟩
  | region id ops draw =>
    intro σ K r h hd
    simp only [lexec] at h
    have hd' : ∀ (i : Nat) (o : Oper) (d : Nat), ops[i]? = some o → o.dst = some d → DIn n0 d := fun i o d h1 h2 => dstOk_ok hd i o d (by simpa using h1) h2
    have key : ∃ σ', (match find E.live id with
        | some keep => trim false keep σ' (K .normal)
        | none => K .normal σ') = some r ∧ ∀ F, Fits F n0 → LF cx F olds → ∀ Q ι a w, Sim cx F ι σ a w → (∀ ι' a' w', Sim cx F ι' σ' a' w' → Q Exit.normal a' w') → (Code.region id ops draw).wp P Q a w := by
      cases draw with
      | true =>
        obtain ⟨σ', h1, h2⟩ := region_draw hc hΓ hm hd' h
        exact ⟨σ', h1, fun F hF _ Q ι a w hs hQ => h2 F hF Q ι a w hs fun ι' a' w' hs' _ => hQ ι' a' w' hs'⟩
      | false =>
        obtain ⟨σ', h1, h2⟩ := lpops_sound hM hc hΓ hrun hinl (m0 := 0) (fun i o d _ => hd' i o d) (n := 0) (Nat.zero_le _) (Nat.zero_le _) rfl h
        refine ⟨σ', h1, fun F hF hL Q ι a w hs hQ => wp_region ?_⟩
        have := h2 F hF hL Q ι a w hs hQ
        rwa [Nat.sub_zero, ← List.range_eq_range'] at this
    obtain ⟨σ', h1, h2⟩ := key
    cases hlive : find E.live id with
    | some keep =>
      rw [hlive] at h1
      obtain ⟨σ2, h3, h4⟩ := trim_sound (cx := cx) h1
      refine ⟨_, σ2, h3, fun F hF hL ι a w hs => h2 F hF hL _ ι a w hs fun ι' a' w' hs' => ?_⟩
      obtain ⟨ι2, hs2⟩ := h4 F ι' a' w' hs'
      exact ⟨rfl, ι2, hs2⟩
    | none =>
      rw [hlive] at h1
      exact ⟨_, σ', h1, fun F hF hL ι a w hs => h2 F hF hL _ ι a w hs fun ι' a' w' hs' => ⟨rfl, ι', hs'⟩⟩
  | seq x y ihx ihy =>
    intro σ K r h hd
    simp only [lexec] at h
    have hd1 : dstsOk n0 x = true ∧ dstsOk n0 y = true := by
      simp only [dstsOk] at hd
      split at hd
      · rename_i h1; exact ⟨h1, hd⟩
      · cases hd
    obtain ⟨e1, σ1, hk, hx⟩ := ihx σ _ r h hd1.1
    have other : ∀ e, e ≠ .normal → e1 = e → K e σ1 = some r → ∃ e σ', K e σ' = some r ∧ ∀ F, Fits F n0 → LF cx F olds → ∀ ι a w, Sim cx F ι σ a w → (Code.seq x y).wp P (fun e' a' w' => e' = e ∧ ∃ ι', Sim cx F ι' σ' a' w') a w := by
      intro e hne he hk
      subst he
      exact ⟨e1, σ1, hk, fun F hF hL ι a w hs => wp_seq_end hne (wp_mono (hx F hF hL ι a w hs) fun e' a' w' hq => ⟨hq.1, hq⟩)⟩
    cases e1 with
    | normal =>
      have hk : lexec std cx M olds run E y σ1 K = some r := hk
      obtain ⟨e, σ', h2, hy⟩ := ihy σ1 K r hk hd1.2
      refine ⟨e, σ', h2, fun F hF hL ι a w hs => wp_seq (wp_mono (hx F hF hL ι a w hs) fun e' a' w' hq => ?_)⟩
      obtain ⟨rfl, ι', hs'⟩ := hq
      exact hy F hF hL ι' a' w' hs'
    | exit id => exact other _ (by simp) rfl hk
    | goto l => exact other _ (by simp) rfl hk
    | ret => exact other _ (by simp) rfl hk
    | panic ch => exact other _ (by simp) rfl hk
    | outgrown => exact other _ (by simp) rfl hk
  | cond x c d ihc ihd =>
    intro σ K r h hd
    simp only [lexec] at h
    have hd1 : dstsOk n0 c = true ∧ dstsOk n0 d = true := by
      simp only [dstsOk] at hd
      split at hd
      · rename_i h1; exact ⟨h1, hd⟩
      · cases hd
    obtain ⟨v, h1, h2, h3⟩ := ev0_at (cx := cx) h
    cases v <;> simp only at h1 <;> try (cases h1; done)
    rename_i t
    rw [onBool_eq] at h1
    have hseq : SEq σ (setTmp σ x t) := by
      cases x with
      | tmp q => exact put_same (h2 q rfl)
      | _ => exact SEq.refl σ
    cases t with
    | true =>
      simp only at h1
      obtain ⟨e, σ', h4, h5⟩ := ihc _ K r h1 hd1.1
      refine ⟨e, σ', h4, fun F hF hL ι a w hs => ?_⟩
      exact wp_cond_true (h3 F ι a w hs) (h5 F hF hL ι a w (hs.seq hseq).1)
    | false =>
      simp only at h1
      obtain ⟨e, σ', h4, h5⟩ := ihd _ K r h1 hd1.2
      refine ⟨e, σ', h4, fun F hF hL ι a w hs => ?_⟩
      exact wp_cond_false (h3 F ι a w hs) (h5 F hF hL ι a w (hs.seq hseq).1)
  | ret =>
    intro σ K r h _
    simp only [lexec] at h
    exact ⟨_, _, h, fun F _ _ ι a w hs => wp_ret ⟨rfl, ι, hs⟩⟩
  | _ => intro σ K r h; simp only [lexec] at h; cases h

def pinsW : Nat → List Value → List (Nat × Value)
  | _, [] => []
  | n, v :: l => (n, v) :: pinsW (n + 1) l
theorem pinsW_fst : ∀ (l : List Value) (n : Nat), (pinsW n l).map (·.1) = List.range' n l.length
  | [], n => rfl
  | v :: l, n => by simp [pinsW, pinsW_fst l (n + 1), List.range'_succ]
theorem pinsW_get : ∀ {l : List Value} {n t : Nat} {v : Value}, (t, v) ∈ pinsW n l → n ≤ t ∧ l[t - n]? = some v
  | [], n, t, v, h => by cases h
  | x :: l, n, t, v, h => by
    simp only [pinsW, List.mem_cons, Prod.mk.injEq] at h
    rcases h with ⟨rfl, rfl⟩ | h
    · simp
    · obtain ⟨h1, h2⟩ := pinsW_get h
      exact ⟨by omega, by rw [show t - n = (t - (n + 1)) + 1 by omega]; simpa using h2⟩
theorem pinsW_of {N : Obs} {ι1 : Im} : ∀ {ds : List V} {ws : List Value} {n t : Nat} {d : V}, dataVs ds = true → All2 (VA cx w ok N ι1) ds ws → find (params n ds) t = some d → ∃ v, (t, v) ∈ pinsW n ws ∧ dataV d = true ∧ VA cx w ok N ι1 d v
  | [], [], n, t, d, _, _, h => by simp [params, find_nil] at h
  | d0 :: ds, v0 :: ws, n, t, d, hd, ha, h => by
    simp only [params, find_cons] at h
    simp only [dataVs] at hd
    split at hd
    case h_2 => cases hd
    rename_i hd0
    split at h
    · rename_i e
      subst e
      cases h
      exact ⟨v0, by simp [pinsW], hd0, ha.1⟩
    · obtain ⟨v, h1, h2⟩ := pinsW_of hd ha.2 h
      exact ⟨v, by simp only [pinsW, List.mem_cons]; exact .inr h1, h2⟩
  | [], _ :: _, _, _, _, _, h, _ => h.elim
  | _ :: _, [], _, _, _, _, h, _ => h.elim

theorem lfun_ok {fn : Func} {f : FuncId} (hM : MksOk P cx M) (hc : CxOk P cx) (hΓ : GamOk P cx E.Γ) (hm : P.follows .mixedOrders = true) (hinl : InlOk P E.inl) (hf : FnIs P f fn) {ds : List V} (hchk : fnChk (List.range ds.length) fn = true)
    {k : V → R} {r : V} (h : lfun std cx M E fn ds k = some r) :
    ∃ d, k d = some r ∧ ∀ w ws, Args cx w ds ws → Calls P f ws.toArray w (Done cx w d) := by
  simp only [lfun] at h
  cases hb : fn.body with
  | none => rw [hb] at h; cases h
  | some c =>
    rw [hb] at h
    simp only at h
    split at h
    case h_2 => cases h
    rename_i hle hdat
    have hle := Nat.le_of_ble_eq_true hle
    obtain ⟨c1, c2, c3⟩ := fnChk_ok hb hchk
    obtain ⟨e, σ', hk, hwp⟩ := lexec_sound (P := P) (E := E) (M := M) (olds := params 0 ds) (n0 := (fn.ntmps, List.range ds.length)) hM hc hΓ hm (runD_ok hc hΓ hm hinl 3) hinl c _ _ _ h c1
    have fin : (e = .normal ∨ e = .ret) → retV cx [] fn σ' k = some r → ∃ d, k d = some r ∧ ∀ w ws, Args cx w ds ws → Calls P f ws.toArray w (Done cx w d) := by
      intro he hr
      simp only [retV] at hr
      obtain ⟨vs, h1, h2⟩ := onOpt_some hr
      obtain ⟨fs, h3, h4⟩ := onOpt_some h2
      obtain ⟨⟨ds', u⟩, h5, h6⟩ := onOpt_some h4
      have hfs : fs = ([], []) := by
        simp only [finM, Option.some.injEq] at h3
        exact h3.symm
      subst hfs
      have h7 : k (packV ds') = some r := h6
      refine ⟨_, h7, fun w ws hargs => ?_⟩
      let F0 : Fr := { Fr.start w fn.ntmps with pins := pinsW 0 ws }
      have hok : okOf w [] ι00 = fun b => b < w.heap.size := by
        funext b
        exact propext ⟨fun h => h.1, fun h => ⟨h, fun o ob ho => by simp [find_nil] at ho, trivial⟩⟩
      have hv : All2 (VR cx w (okOf w [] ι00) [] ι00) ds ws := by
        rw [hok]; exact hargs.mono fun _ _ h => VR_of_VA h
      have H0 := heap_start (cx := cx) w fn.ntmps ι00 rfl
      have H0' : Heap cx F0 ι00 [] w := ⟨H0.obok, H0.inj, H0.own, H0.size, H0.os, H0.tape, H0.output, H0.keep, H0.fresh, H0.gd, H0.gdF⟩
      have hs := sim_start (fn := fn) (F := F0) rfl hle (fun t v ht => by
        obtain ⟨_, h2⟩ := pinsW_get (show (t, v) ∈ pinsW 0 ws from ht)
        simpa using h2) H0' hv
      have hfit : Fits F0 (fn.ntmps, List.range ds.length) := ⟨rfl, by
        show (pinsW 0 ws).map (·.1) = _
        rw [pinsW_fst, hargs.length, List.range_eq_range']⟩
      have hLF : LF cx F0 (params 0 ds) := ⟨fun b h => h, fun b h => h, rfl, fun t d hd => pinsW_of hdat hargs hd⟩
      refine calls_of_wp hf.get hb (wp_mono (hwp F0 hfit hLF _ _ w hs) fun e' a' w' hq => ?_)
      obtain ⟨rfl, ι', hs'⟩ := hq
      obtain ⟨ws', g1, g2⟩ := resVs_sound hc hs' h1
      obtain ⟨bs, o1, o2⟩ := ownAs_ok hs'.heap h5 g2
      have H := hs'.heap
      have hdone : Done cx w (packV ds') (.returned (packW ws')) w' := by
        refine ⟨packW ws', bs, okR w' σ'.objs ι' F0, rfl, ⟨H.os, H.tape, H.output, H.size, fun b hb => H.keep b hb (by show ¬ w.heap.size ≤ b; omega)⟩, pack_Own o1, o2.1, fun b hb => ?_, fun b hb => ⟨hb.2.1, hb.1.1, fun hbs => ?_, hb.2.2⟩⟩
        · obtain ⟨o, a, _, _, k3, k4⟩ := o2.2.2 b hb
          exact ⟨H.fresh o a b k3 k4, (H.own o _ b k3 trivial k4).2⟩
        · obtain ⟨o, a, _, _, k3, k4⟩ := o2.2.2 b hbs
          exact hb.1.2.1 o _ k3 trivial k4
      have hfin : a'.defers = [] ∧ ∃ v, (results fn a'.tmps).run P w' = .ok v w' ∧ Done cx w (packV ds') (.returned v) w' := ⟨hs'.defers, _, results_run g1, hdone⟩
      rcases he with rfl | rfl
      · exact hfin
      · exact hfin
    cases e with
    | normal => exact fin (.inl rfl) hk
    | ret => exact fin (.inr rfl) hk
    | _ => cases hk

/-! ## A law whose parameter lies in a box from the beginning: the box is old memory -/
/-- The operation that boxes a parameter: the parameter's cells as one row. -/
def boxOf (A : Prims) (cx : Cx) (ds : List V) (o : Oper) : Option (Nat × V) := match o.guard, o.op, o.dst with
  | none, .box t (.tmp p), some d => match nth ds p, find cx t with
    | some (.agg cs), some ty => match ty.alen, ty.isAgg, dataC0 cs, kindsOk cx [] ty.shape cs, Nat.beq cs.length ty.size, Nat.blt 0 ty.size with
      | none, true, true, true, true, true => match toCs A [] cs with
        | some row => some (d, .pimm (.rows t [row]) 0 0)
        | none => none
      | _, _, _, _, _, _ => none
    | _, _ => none
  | _, _, _ => none
where
  dataC0 : List V → Bool
    | [] => true
    | .int _ _ :: l => dataC0 l
    | .bool _ :: l => dataC0 l
    | .arr _ :: l => dataC0 l
    | _ => false
def lfunB (A : Prims) (cx : Cx) (M : Mks) (E : Env) (fn : Func) (ds : List V) (k : V → R) : R :=
  match fn.body with
  | some (.seq (.region id ops false) b) => match ops.toList with
    | o :: rest => onOpt (boxOf A cx ds o) fun x => match dataVs ds, Nat.ble ds.length x.1, Nat.blt x.1 fn.ntmps with
      | true, true, true => lpops A cx M (x :: params 0 ds) (runD A cx E.inl E.Γ 3) E ops.toList (131072 * (id + 1)) 1 rest ⟨x :: params 0 ds, []⟩ fun σ' =>
          let K : S → R := fun σ => lexec A cx M (x :: params 0 ds) (runD A cx E.inl E.Γ 3) E b σ fun e σ => match e with
            | .normal => retV cx [] fn σ k
            | .ret => retV cx [] fn σ k
            | _ => none
          match find E.live id with
          | some keep => trim false keep σ' K
          | none => K σ'
      | _, _, _ => none
    | [] => none
  | _ => none
def chkB (ps : List Nat) (fn : Func) : Bool := match fn.body with
  | some (.seq (.region _ ops false) b) => match ops.toList with
    | o :: rest => match o.dst with
      | some d => match dstOk (fn.ntmps, d :: ps) rest with
        | true => dstsOk (fn.ntmps, d :: ps) b
        | false => false
      | none => false
    | [] => false
  | _ => false

theorem cellFor_data {N : Obs} {ι1 : Im} {kk : K} {v : V} {c : C} {x : Value} (hd : boxOf.dataC0 [v] = true) (h : CellFor cx N kk v c) (hv : VC cx w ok N ι1 v x) : CellV cx w ok kk c x := by
  cases v <;> simp only [CellFor] at h <;> try exact h.elim
  case int i n =>
    obtain ⟨rfl, rfl⟩ := h
    have hv : x = .int i (asInt c) := hv
    subst hv; exact .int i c
  case bool b =>
    obtain ⟨rfl, rfl⟩ := h
    have hv : x = .bool (asBool c) := hv
    subst hv; exact .bool c
  case arr a =>
    obtain ⟨t, ty, rfl, h2, h3, h4⟩ := h
    obtain ⟨sh, m1, m2, m3⟩ := hv
    rcases m3 with ⟨h0, base, cap, rfl⟩ | ⟨ad, cap, f, rfl, n2, n20, n3, n4, n5⟩
    · exact .emp t c base cap (by rw [h4, h0])
    · rw [← h4]
      exact .sl t ty (akOf a) sh c ad cap f h2 h3 m1 n2 (by rw [h4]; exact n20) n3 (by rw [h4]; exact m2) (by rw [h4]; exact n4) (by rw [h4]; exact n5)
  case sref q => simp [boxOf.dataC0] at hd
theorem dataC0_one : ∀ {cs : List V}, boxOf.dataC0 cs = true → ∀ (j : Nat) v, cs[j]? = some v → boxOf.dataC0 [v] = true
  | [], _, j, v, h => by simp at h
  | u :: cs, hd, j, v, h => by
    cases u <;> simp only [boxOf.dataC0] at hd <;> (try (cases hd; done)) <;>
    · cases j with
      | zero => simp at h; subst h; rfl
      | succ j => exact dataC0_one hd j v (by simpa using h)

theorem boxOf_ok (hc : CxOk P cx) {ds : List V} {ws : List Value} {o : Oper} {d : Nat} {x : V} {a0 : Act} (h : boxOf std cx ds o = some (d, x)) (hargs : Args cx w ds ws) (ha : ∀ p v, ws[p]? = some v → a0.tmps.getD p Go.undef = v) :
    o.guard = none ∧ o.dst = some d ∧ dataV x = true ∧ ∃ l T, (execOp a0.eval o).run P w = .ok (.value (.pointer (some ⟨w.heap.size, 0, none⟩))) (w.alloc (.cells l T)) ∧
      ∀ N ι1, VA cx (w.alloc (.cells l T)) (fun b => b < (w.alloc (.cells l T)).heap.size) N ι1 x (.pointer (some ⟨w.heap.size, 0, none⟩)) := by
  unfold boxOf at h
  split at h
  case h_2 => cases h
  rename_i t p d' hg hop hdst
  split at h
  case h_2 => cases h
  rename_i cs ty hn hty
  split at h
  case h_2 => cases h
  rename_i hal hagg hdat hk hlen hpos
  split at h
  case h_2 => cases h
  rename_i row hrow
  simp only [Option.some.injEq, Prod.mk.injEq] at h
  obtain ⟨rfl, rfl⟩ := h
  have hlen := Nat.eq_of_beq_eq_true hlen
  have hpos := Nat.le_of_ble_eq_true hpos
  rw [nth_eq] at hn
  obtain ⟨v, hv1, hv2⟩ := hargs.get p _ hn
  obtain ⟨l, rfl, hl⟩ := hv2
  have hev : a0.eval (.tmp p) = .agg l.toArray := ha p _ hv1
  have hcells : (a0.eval (.tmp p)).cells = l.toArray := by rw [hev]; rfl
  refine ⟨hg, hdst, rfl, l.toArray, t, exec_of (s := Instr.box t (a0.eval (.tmp p))) (by simp only [execOp, hop]) (by simp [Instr.box, newVar, newRow, hcells]), fun N ι1 => ?_⟩
  obtain ⟨k1, k2, k3⟩ := kinds_cells hk hrow
  have hsl : cs.length = l.length := hl.length
  have hshape := (hc t ty hty).shape hal
  have hrl : row.length = ty.shape.length := by rw [k2, hlen, hshape]
  have hll : l.length = ty.shape.length := by rw [← hsl, hlen, hshape]
  refine ⟨ty.shape, ⟨w.heap.size, 0, none⟩, 1, by simp [akOf, shAK, hty], fun r hr => ?_, .inr ⟨⟨w.heap.size, 0, none⟩, 1, fun _ j => l.getD j Go.undef, rfl, rfl, Nat.le_refl _, by simp, fun i j hi hj => ?_, fun i j hi hj => ?_⟩, Int.le_refl _, by simp [rowsOf_rows], by simp⟩
  · rw [rowsOf_rows] at hr
    simp at hr
    subst hr; exact hrl
  · have hi : i < 1 := hi
    obtain rfl : i = 0 := by omega
    have hj' : j < l.length := by omega
    have hnew : (w.alloc (.cells l.toArray t)).heap[w.heap.size]? = some (.cells l.toArray t) := heap_alloc_new w _
    show World.cell? _ ⟨w.heap.size, 0 + (0 * ty.shape.length + j), none⟩ = some (l.getD j Go.undef)
    rw [Nat.zero_mul, Nat.zero_add, Nat.zero_add]
    simp only [World.cell?, hnew, Option.isSome_none, Bool.false_eq_true, if_false]
    rw [List.getElem?_toArray, List.getElem?_eq_getElem hj', List.getD_eq_getElem?_getD, List.getElem?_eq_getElem hj']; rfl
  · have hi : i < 1 := hi
    obtain rfl : i = 0 := by omega
    have hj' : j < cs.length := by omega
    have hc1 : cs[j]? = some cs[j] := List.getElem?_eq_getElem hj'
    obtain ⟨u, hu1, hu2⟩ := hl.get j _ hc1
    have e1 : l.getD j Go.undef = u := by rw [List.getD_eq_getElem?_getD, hu1]; rfl
    show CellV cx _ _ _ (cAt row j) (l.getD j Go.undef)
    rw [e1]
    have := cellFor_data (dataC0_one hdat j _ hc1) (k3 j _ hc1) (show VC cx w (fun b => b < w.heap.size) [] ι00 cs[j] u from hu2)
    exact this.mono fun b hb => ⟨by simp; omega, heap_alloc_old w _ hb⟩

theorem lfunB_ok {fn : Func} {f : FuncId} (hM : MksOk P cx M) (hc : CxOk P cx) (hΓ : GamOk P cx E.Γ) (hm : P.follows .mixedOrders = true) (hinl : InlOk P E.inl) (hf : FnIs P f fn) {ds : List V} (hchk : chkB (List.range ds.length) fn = true)
    {k : V → R} {r : V} (h : lfunB std cx M E fn ds k = some r) :
    ∃ d, k d = some r ∧ ∀ w ws, Args cx w ds ws → Calls P f ws.toArray w (Done cx w d) := by
  unfold lfunB at h
  unfold chkB at hchk
  split at h
  case h_2 => cases h
  rename_i id ops b hb
  rw [hb] at hchk
  simp only at hchk
  split at h
  case h_2 => cases h
  rename_i o rest hops
  rw [hops] at hchk
  simp only at hchk
  obtain ⟨⟨d0, x⟩, hbox, h1⟩ := onOpt_some h
  split at h1
  case h_2 => cases h1
  rename_i hdat hge hlt
  simp only at hge hlt h1
  have hge := Nat.le_of_ble_eq_true hge
  have hlt : d0 < fn.ntmps := Nat.le_of_ble_eq_true hlt
  have hdst0 : o.dst = some d0 := by
    unfold boxOf at hbox
    split at hbox
    case h_2 => cases hbox
    rename_i t p d' _ _ hdst
    split at hbox
    case h_2 => cases hbox
    split at hbox
    case h_2 => cases hbox
    split at hbox
    case h_2 => cases hbox
    simp only [Option.some.injEq, Prod.mk.injEq] at hbox
    rw [hdst, hbox.1]
  rw [hdst0] at hchk
  simp only at hchk
  split at hchk
  case h_2 => cases hchk
  rename_i hc1
  have h0 : ops[0]? = some o := by
    have := congrArg (·[0]?) hops
    simpa using this
  have hdrop : ops.toList.drop 1 = rest := by rw [hops]; rfl
  have hd : ∀ (i : Nat) (o : Oper) (d : Nat), 1 ≤ i → ops[i]? = some o → o.dst = some d → DIn (fn.ntmps, d0 :: List.range ds.length) d := fun i o' d' hi h2 h3 => by
    refine dstOk_ok hc1 (i - 1) o' d' ?_ h3
    rw [← hdrop, List.getElem?_drop, show 1 + (i - 1) = i by omega]
    simpa using h2
  have hsz : 1 ≤ ops.size := (Array.getElem?_eq_some_iff.1 h0).1
  obtain ⟨σ1, h2, hwp1⟩ := lpops_sound (n0 := (fn.ntmps, d0 :: List.range ds.length)) hM hc hΓ (runD_ok hc hΓ hm hinl 3) hinl (m0 := 1) hd (n := 1) (Nat.le_refl _) hsz hdrop h1
  have tr : ∃ σ2, lexec std cx M ((d0, x) :: params 0 ds) (runD std cx E.inl E.Γ 3) E b σ2 (fun e σ => match e with
      | .normal => retV cx [] fn σ k
      | .ret => retV cx [] fn σ k
      | _ => none) = some r ∧ ∀ F ι a w, Sim cx F ι σ1 a w → ∃ ι', Sim cx F ι' σ2 a w := by
    cases hlive : find E.live id with
    | some keep =>
      rw [hlive] at h2
      exact trim_sound (cx := cx) h2
    | none =>
      rw [hlive] at h2
      exact ⟨σ1, h2, fun F ι a w hs => ⟨ι, hs⟩⟩
  obtain ⟨σ2, h3, htr⟩ := tr
  obtain ⟨e, σ', hk, hwp⟩ := lexec_sound (P := P) (E := E) (M := M) (olds := (d0, x) :: params 0 ds) (n0 := (fn.ntmps, d0 :: List.range ds.length)) hM hc hΓ hm (runD_ok hc hΓ hm hinl 3) hinl b _ _ _ h3 hchk
  have fin : (e = .normal ∨ e = .ret) → retV cx [] fn σ' k = some r → ∃ d, k d = some r ∧ ∀ w ws, Args cx w ds ws → Calls P f ws.toArray w (Done cx w d) := by
    intro he hr
    simp only [retV] at hr
    obtain ⟨vs, h1, h2⟩ := onOpt_some hr
    obtain ⟨fs, h3, h4⟩ := onOpt_some h2
    obtain ⟨⟨ds', u⟩, h5, h6⟩ := onOpt_some h4
    have hfs : fs = ([], []) := by
      simp only [finM, Option.some.injEq] at h3
      exact h3.symm
    subst hfs
    have h7 : k (packV ds') = some r := h6
    refine ⟨_, h7, fun w ws hargs => ?_⟩
    -- the world behind the box
    have hok : okOf w [] ι00 = fun b => b < w.heap.size := by
      funext b
      exact propext ⟨fun h => h.1, fun h => ⟨h, fun o ob ho => by simp [find_nil] at ho, trivial⟩⟩
    have hv : All2 (VR cx w (okOf w [] ι00) [] ι00) ds ws := by
      rw [hok]; exact hargs.mono fun _ _ h => VR_of_VA h
    have H0 := heap_start (cx := cx) w fn.ntmps ι00 rfl
    have hlds : ds.length ≤ fn.ntmps := by omega
    have hs0 := sim_start (fn := fn) (F := Fr.start w fn.ntmps) rfl hlds (fun _ _ h => by cases h) H0 hv
    generalize ha0 : ({ tmps := ws.toArray ++ Array.replicate (fn.ntmps - ws.toArray.size) Go.undef, defers := [] } : Act) = a0 at hs0
    have hga : ∀ p v, ws[p]? = some v → a0.tmps.getD p Go.undef = v := by
      intro p v hp
      have hlt' : p < ws.length := (List.getElem?_eq_some_iff.1 hp).1
      rw [← ha0, Array.getD_eq_getD_getElem?, Array.getElem?_append_left (by simpa using hlt')]
      simp [hp]
    obtain ⟨g1, g2, g3, l, T, g4, g5⟩ := boxOf_ok (P := P) (a0 := a0) hc hbox hargs hga
    generalize hw1 : w.alloc (.cells l T) = w1 at g4 g5
    have hw1s : w1.heap.size = w.heap.size + 1 := by rw [← hw1]; simp
    have hold : ∀ b, b < w.heap.size → w1.heap[b]? = w.heap[b]? := fun b hb => by rw [← hw1]; exact heap_alloc_old w _ hb
    let ptr : Value := .pointer (some ⟨w.heap.size, 0, none⟩)
    let F1 : Fr := { Fr.start w1 fn.ntmps with pins := (d0, ptr) :: pinsW 0 ws }
    have H1 : Heap cx F1 ι00 [] w1 := by
      have H := heap_start (cx := cx) w1 fn.ntmps ι00 rfl
      exact ⟨H.obok, H.inj, H.own, H.size, H.os, H.tape, H.output, H.keep, H.fresh, H.gd, H.gdF⟩
    have hmono : ∀ b, b < w.heap.size → (b < w1.heap.size) ∧ w1.heap[b]? = w.heap[b]? := fun b hb => ⟨by omega, hold b hb⟩
    have hparam : ∀ t d, find (params 0 ds) t = some d → t < ds.length ∧ ∃ v, ws[t]? = some v ∧ dataV d = true ∧ VA cx w1 (fun b => b < w1.heap.size) [] ι00 d v := by
      intro t d hd
      obtain ⟨v, p1, p2, p3⟩ := pinsW_of hdat hargs hd
      obtain ⟨_, p4⟩ := pinsW_get p1
      have p4 : ws[t]? = some v := by simpa using p4
      exact ⟨by rw [hargs.length]; exact (List.getElem?_eq_some_iff.1 p4).1, v, p4, p2, dataV_mono hmono p2 p3⟩
    have hok1 : okOf w1 [] ι00 = fun b => b < w1.heap.size := by
      funext b
      exact propext ⟨fun h => h.1, fun h => ⟨h, fun o ob ho => by simp [find_nil] at ho, trivial⟩⟩
    have hsize0 : a0.tmps.size = fn.ntmps := hs0.size
    have hs1 : Sim cx F1 ι00 ⟨(d0, x) :: params 0 ds, []⟩ (a0.put (some d0) ptr) w1 := by
      refine ⟨hs0.defers, (by show (a0.put (some d0) ptr).tmps.size = fn.ntmps; simpa [Act.put] using hsize0), fun t y hy => ?_, H1, fun t v htv => ?_⟩
      · have hy2 : (if d0 = t then some x else find (params 0 ds) t) = some y := by rw [← find_cons]; exact hy
        clear hy
        by_cases e : d0 = t
        · rw [if_pos e] at hy2
          obtain rfl : x = y := Option.some.inj hy2
          subst e
          have : (a0.put (some d0) ptr).tmps.getD d0 Go.undef = ptr := by
            rw [Array.getD_eq_getD_getElem?]
            simp only [Act.put]
            rw [Array.getElem?_setIfInBounds_self_of_lt (by rw [hsize0]; exact hlt)]
            rfl
          rw [this]
          show VR cx w1 (okOf w1 [] ι00) [] ι00 x ptr
          rw [hok1]
          exact VR_of_VA (g5 [] ι00)
        · rw [if_neg e] at hy2
          obtain ⟨q1, v, q2, _, q3⟩ := hparam t y hy2
          have : (a0.put (some d0) ptr).tmps.getD t Go.undef = v := by
            rw [Array.getD_eq_getD_getElem?]
            simp only [Act.put]
            rw [Array.getElem?_setIfInBounds_ne e, ← Array.getD_eq_getD_getElem?]
            exact hga t v q2
          rw [this]
          show VR cx w1 (okOf w1 [] ι00) [] ι00 y v
          rw [hok1]
          exact VR_of_VA q3
      · have htv : (t, v) = (d0, ptr) ∨ (t, v) ∈ pinsW 0 ws := List.mem_cons.1 htv
        rcases htv with htv | htv
        · cases htv
          rw [Array.getD_eq_getD_getElem?]
          simp only [Act.put]
          rw [Array.getElem?_setIfInBounds_self_of_lt (by rw [hsize0]; exact hlt)]
          rfl
        · obtain ⟨_, q⟩ := pinsW_get htv
          have q : ws[t]? = some v := by simpa using q
          have hne : d0 ≠ t := by
            have := (List.getElem?_eq_some_iff.1 q).1
            rw [← hargs.length] at this
            omega
          rw [Array.getD_eq_getD_getElem?]
          simp only [Act.put]
          rw [Array.getElem?_setIfInBounds_ne hne, ← Array.getD_eq_getD_getElem?]
          exact hga t v q
    have hfit : Fits F1 (fn.ntmps, d0 :: List.range ds.length) := ⟨rfl, by
      show ((d0, ptr) :: pinsW 0 ws).map (·.1) = _
      rw [List.map_cons, pinsW_fst, hargs.length, List.range_eq_range']⟩
    have hLF : LF cx F1 ((d0, x) :: params 0 ds) := ⟨fun b h => h, fun b h => h, rfl, fun t d hd => by
      rw [find_cons] at hd
      split at hd
      · rename_i e
        subst e
        cases hd
        exact ⟨ptr, List.mem_cons_self, g3, g5 [] ι00⟩
      · obtain ⟨v, p1, p2, p3⟩ := pinsW_of hdat hargs hd
        exact ⟨v, List.mem_cons_of_mem _ p1, p2, dataV_mono hmono p2 p3⟩⟩
    have hreg : (Code.region id ops false).wp P (fun e' a' w' => e' = .normal ∧ ∃ ι', Sim cx F1 ι' σ1 a' w') a0 w := by
      refine wp_region ?_
      have hrest := hwp1 F1 hfit hLF (fun e' a' w' => e' = .normal ∧ ∃ ι', Sim cx F1 ι' σ1 a' w') ι00 (a0.put (some d0) ptr) w1 hs1 (fun ι' a' w' hs' => ⟨rfl, ι', hs'⟩)
      rw [List.range_eq_range', show ops.size = (ops.size - 1) + 1 by omega, List.range'_succ, wpOps_cons]
      unfold wpOp
      have hwant : Region.wanted o (yielded ops a0.tmps) = true := by simp [Region.wanted, g1]
      simp only [h0, hwant, if_true]
      refine .inl ?_
      unfold Oper.wp
      rw [g4]
      show wpOps P ops _ _ (a0.put o.dst ptr) w1
      rw [g2]
      exact hrest
    refine calls_of_wp hf.get hb ?_
    rw [ha0]
    refine wp_seq (wp_mono hreg fun e' a' w' hq => ?_)
    obtain ⟨rfl, ι1, hs2⟩ := hq
    obtain ⟨ι2, hs3⟩ := htr F1 ι1 a' w' hs2
    refine wp_mono (hwp F1 hfit hLF ι2 a' w' hs3) fun e' a' w' hq => ?_
    obtain ⟨rfl, ι', hs'⟩ := hq
    obtain ⟨ws', g1, g2⟩ := resVs_sound hc hs' h1
    obtain ⟨bs, o1, o2⟩ := ownAs_ok hs'.heap h5 g2
    have H := hs'.heap
    have hsz1 : w1.heap.size ≤ w'.heap.size := H.size
    have os1 : w1.os = w.os ∧ w1.tape = w.tape ∧ w1.output = w.output := by rw [← hw1]; exact ⟨rfl, rfl, rfl⟩
    have hdone : Done cx w (packV ds') (.returned (packW ws')) w' := by
      refine ⟨packW ws', bs, okR w' σ'.objs ι' F1, rfl, ⟨H.os.trans os1.1, H.tape.trans os1.2.1, H.output.trans os1.2.2, by omega, fun b hb => (H.keep b (show b < w1.heap.size by omega) (by show ¬ w1.heap.size ≤ b; omega)).trans (hold b hb)⟩, pack_Own o1, o2.1, fun b hb => ?_, fun b hb => ⟨?_, hb.1.1, fun hbs => ?_, hb.2.2⟩⟩
      · obtain ⟨o, a, _, _, k3, k4⟩ := o2.2.2 b hb
        have : w1.heap.size ≤ b := H.fresh o a b k3 k4
        exact ⟨by omega, (H.own o _ b k3 trivial k4).2⟩
      · have : w1.heap.size ≤ b := hb.2.1
        omega
      · obtain ⟨o, a, _, _, k3, k4⟩ := o2.2.2 b hbs
        exact hb.1.2.1 o _ k3 trivial k4
    have hfin : a'.defers = [] ∧ ∃ v, (results fn a'.tmps).run P w' = .ok v w' ∧ Done cx w (packV ds') (.returned v) w' := ⟨hs'.defers, _, results_run g1, hdone⟩
    rcases he with rfl | rfl
    · exact hfin
    · exact hfin
  cases e with
  | normal => exact fin (.inl rfl) hk
  | ret => exact fin (.inr rfl) hk
  | _ => cases hk
end
end PM

namespace PM
open Go RowKit

/-! ## Calls whose result is nil just where it is empty; at some places it may be -/
def spNil (A : Prims) (K : List Nat) (g : List V → (V → R) → R) : SpT := fun key vs objs k => onOpt (closeAs objs vs) fun ds => g ds fun r => match r with
  | .arr a => onBool (A.lt 0 (alen A a)) fun b => match b with
    | true => k (.arr a) [] []
    | false => match mem K key with
      | true => k .nil [] []
      | false => none
  | _ => none
def NilOk (P : Program) (cx : Cx) (f : FuncId) (g : List V → (V → R) → R) : Prop := ∀ ds k r, g ds k = some r → ∃ d, k d = some r ∧ ∀ w vs, Args cx w ds vs →
  (∃ a, d = .arr a ∧ rowsOf a ≠ [] ∧ Calls P f vs.toArray w (Done cx w d)) ∨ (∃ a, d = .arr a ∧ rowsOf a = [] ∧ Calls P f vs.toArray w fun e w' => e = .returned (.slice none 0 0) ∧ Below w.heap.size w w')
section
variable {P : Program} {cx : Cx} {F : Fr} {ι : Im} {w w' : World} {objs : Obs}
theorem spNil_ok {f : FuncId} {K : List Nat} {g : List V → (V → R) → R} (h : NilOk P cx f g) : SpecOk P cx f (spNil std K g) := by
  intro key vs objs k r hr
  simp only [spNil] at hr
  obtain ⟨ds, hds, h1⟩ := onOpt_some hr
  obtain ⟨d, h2, h3⟩ := h ds _ r h1
  split at h2
  case h_2 => cases h2
  rename_i a
  rw [onBool_eq] at h2
  have hlen : std.lt 0 (alen std a) = decide (0 < (rowsOf a).length) := by rw [alen_std]; simp [std]
  rw [hlen] at h2
  by_cases hn : rowsOf a = []
  · have e : decide (0 < (rowsOf a).length) = false := by rw [hn]; rfl
    rw [e] at h2
    simp only at h2
    split at h2
    case h_2 => cases h2
    refine ⟨.nil, [], [], h2, fun objs' F ι w ws hag H _ hv => ?_⟩
    have hds' : closeAs objs' vs = some ds := by rw [closeAs_ag hag]; exact hds
    rcases h3 w ws (closeAs_ok H hds' hv) with ⟨a', e1, e2, _⟩ | ⟨a', e1, e2, hc⟩
    · cases e1; exact absurd hn e2
    · refine hc.mono fun e w' hd => ?_
      obtain ⟨rfl, hb⟩ := hd
      obtain ⟨H2, E2⟩ := H.grown hb
      exact ⟨_, ι, rfl, by simpa using H2, by simpa using E2, rfl⟩
  · have e : decide (0 < (rowsOf a).length) = true := decide_eq_true (by cases h : rowsOf a with | nil => exact absurd h hn | cons _ _ => simp)
    rw [e] at h2
    simp only at h2
    refine ⟨.arr a, [], [], h2, fun objs' F ι w ws hag H _ hv => ?_⟩
    have hds' : closeAs objs' vs = some ds := by rw [closeAs_ag hag]; exact hds
    rcases h3 w ws (closeAs_ok H hds' hv) with ⟨a', e1, e2, hc⟩ | ⟨a', e1, e2, _⟩
    · refine hc.mono fun e w' hd => ?_
      obtain ⟨vv, bs, okf, rfl, hb, hown, hnd, hbs, hokf⟩ := hd
      obtain ⟨H2, E2⟩ := H.grown hb
      have new : ∀ b, w.heap.size ≤ b → b < w'.heap.size → okOf w' objs' ι b := fun b h1 h2 => ⟨h2, fun o ob ho hl hbk => by have := (H.own o ob b ho hl hbk).2; omega, H.gd b (F.new b (Nat.le_trans H.size h1)).1⟩
      exact ⟨vv, ι, rfl, by simpa using H2, by simpa using E2, vr_of_own (d := .arr a) hown (fun b hb => new b (hbs b hb).1 (hbs b hb).2) (fun b hb => new b (hokf b hb).1 (hokf b hb).2.1)⟩
    · cases e1; exact absurd e2 hn
theorem GOk.nil {f : FuncId} {K : List Nat} {g : List V → (V → R) → R} (he : ∀ args w, (callFunc f args).run P w = .ok (.enter f args) w) (h : NilOk P cx f g) : GOk P cx f ⟨[], fun _ _ => none, some (spNil std K g)⟩ :=
  GOk.ofS he (spNil_ok h)
end
end PM

namespace PM
open Go RowKit

/-! ## A call that takes an owned slice of rows of three numbers, and a predicate that knows one number; it hands back the slice's beginning -/
def spDel (c : Nat) (g : List V → (V → R) → R) : SpT := fun key vs objs k => match vs with
  | [.sref o, .func f [.pbox p 0]] => match Nat.beq f c, find objs o, find objs p with
    | true, some (.arr fr (.vecs t n l)), some (.box [.int .i64 who]) => g [.arr (.vecs t n l), .int .i64 who] fun r => match r with
      | .arr (.vecs u m b) => match Nat.beq u t, Nat.beq m n with
        | true, true => k (.sref key) [(key, .arr fr (.vecs t n b))] [(o, .dead)]
        | _, _ => none
      | _ => none
    | _, _, _ => none
  | _ => none
/-- The cells of rows of numbers. -/
def CellsOf (n : Nat) (l : List (List Int)) (xs : List Value) : Prop := ∀ i j, i < l.length → j < n → xs[i * n + j]? = some (.int .i64 ((l.getD i []).getD j 0))
def cutS (v : Value) (n : Nat) : Value := match v with
  | .slice b _ c => .slice b n c
  | v => v
def DelOk (P : Program) (f c : FuncId) (g : List V → (V → R) → R) : Prop := ∀ t n l who k r, g [.arr (.vecs t n l), .int .i64 who] k = some r → ∃ b m, k (.arr (.vecs t n b)) = some r ∧ b.length ≤ l.length ∧ m.length = l.length ∧ m.take b.length = b ∧ (∀ x ∈ m, x.length = n) ∧
  ∀ w v xs B, w.ownsRow 0 t n v l.length xs → CellsOf n l xs → w.cell? ⟨B, 0, none⟩ = some (.int .i64 who) → v.ownBlock ≠ some B →
    Calls P f #[v, .func (.func c) #[] #[.pointer (some ⟨B, 0, none⟩)]] w fun e w' => e = .returned (cutS v b.length) ∧ w.grownBy w' v.ownBlock ∧ ∃ ys, w'.ownsRow 0 t n v l.length ys ∧ CellsOf n m ys

section
variable {P : Program} {cx : Cx} {F : Fr} {ι : Im} {w w' : World} {objs : Obs}
theorem cOf_vecI {t : TypeId} {n : Nat} {l : List (List Int)} (hw : ∀ x ∈ l, x.length = n) {i j : Nat} (hi : i < l.length) (hj : j < n) : asInt (cOf (rowsOf (.vecs t n l)) i j) = (l.getD i []).getD j 0 := by
  have hl := hw _ (List.getElem_mem hi)
  rw [rowsOf_vecs]
  unfold cOf cAt
  simp only [List.getD_eq_getElem?_getD, List.getElem?_map, List.getElem?_eq_getElem hi, Option.map_some, Option.getD_some]
  rw [List.getElem?_eq_getElem (by omega)]
  rfl
theorem rep_get {n j : Nat} (hj : j < n) : (List.replicate n (K.int .i64)).getD j .bool = .int .i64 := by
  rw [List.getD_eq_getElem?_getD, List.getElem?_replicate, if_pos hj]; rfl
theorem wf_vecs {t : TypeId} {n : Nat} {l : List (List Int)} {sh : List K} (h : sh.length = n) (hw : Wf sh (rowsOf (.vecs t n l))) : ∀ x ∈ l, x.length = n := by
  intro x hx
  have := hw (x.map .i) (by rw [rowsOf_vecs]; exact List.mem_map.2 ⟨x, hx, rfl⟩)
  rw [List.length_map] at this
  omega
theorem cutS_block {v : Value} {n : Nat} : (cutS v n).ownBlock = v.ownBlock := by
  cases v <;> try rfl
  rename_i b _ _
  cases b <;> rfl
theorem spDel_ok {f c : FuncId} {g : List V → (V → R) → R} (h : DelOk P f c g) : SpecOk P cx f (spDel c g) := by
  intro key vs objs k r hr
  unfold spDel at hr
  split at hr
  case h_2 => cases hr
  rename_i o f' p
  split at hr
  case h_2 => cases hr
  rename_i fr t n l who hf ho hp
  have hf := Nat.eq_of_beq_eq_true hf
  subst hf
  obtain ⟨b, m, h1, h2, h3, h4, h5, h6⟩ := h _ _ _ _ _ _ hr
  simp only [Nat.beq_refl] at h1
  refine ⟨_, _, _, h1, fun objs' F ι w ws hag H hfr hv => ?_⟩
  match ws, hv with
  | [v, vf], ⟨hv1, hv2, _⟩ =>
    have ho' : find objs' o = some (.arr fr (.vecs t n l)) := by rw [hag (.sref o) (by simp) o (by simp [refs1])]; exact ho
    have hp' : find objs' p = some (.box [.int .i64 who]) := by rw [hag (.func f' [.pbox p 0]) (by simp) p (by simp [refs1, refsC])]; exact hp
    obtain ⟨ob, e1, e2⟩ := hv1
    rw [ho'] at e1; cases e1
    have hxv : v = ι.sv o := e2 _ _ rfl
    obtain ⟨lf, rfl, hlf⟩ := hv2
    match lf, hlf with
    | [vp], ⟨hvp, _⟩ =>
      obtain ⟨ob, e1, e3⟩ := hvp
      rw [hp'] at e1; cases e1
      obtain ⟨B, hB, rfl⟩ := e3 _ rfl
      obtain ⟨B', lb, T, hB', hcell, hcv⟩ := H.obok p _ hp'
      rw [hB] at hB'; cases hB'
      obtain ⟨sh, xs, p1, p2, p3, p4, p5, p6⟩ := H.obok o _ ho'
      obtain rfl : List.replicate n (.int .i64) = sh := Option.some.inj p1
      have hn : (List.replicate n (K.int .i64)).length = n := by simp
      have hlen : (rowsOf (.vecs t n l)).length = l.length := by rw [rowsOf_vecs]; simp
      have hlw := wf_vecs hn p3
      rw [hn, hlen] at p4
      rw [← hxv] at p4 p5
      have hcells : CellsOf n l xs := fun i j hi hj => by
        obtain ⟨cv, c1, c2⟩ := p6 i j (by rw [hlen]; exact hi) (by rw [hn]; exact hj)
        rw [hn] at c1
        rw [rep_get hj] at c2
        cases c2
        rw [c1, cOf_vecI hlw hi hj]
      have hwho : w.cell? ⟨B, 0, none⟩ = some (.int .i64 who) := by
        match lb, hcv with
        | [u], ⟨hu, _⟩ =>
          have hu : u = .int .i64 who := hu
          subst hu
          simp [World.cell?, hcell]
      have hne : v.ownBlock ≠ some B := by
        intro e
        have := H.inj o p _ _ B ho' hp' trivial trivial (by rw [p5]; exact e) hB
        subst this
        rw [ho'] at hp'; cases hp'
      refine (h6 w v xs B p4 hcells hwho hne).mono fun e w' hq => ?_
      obtain ⟨rfl, hgb, ys, hy, hyc⟩ := hq
      have f1 : find objs' key = none := hfr key _ (by rw [find_cons, if_pos rfl])
      have hkq : key ≠ o := by rintro rfl; rw [f1] at ho'; cases ho'
      have hdead : Dead [(o, Ob.dead)] := fun o' ob' h' => by obtain ⟨_, rfl⟩ := find_one h'; rfl
      have hqb : ∀ b', v.ownBlock = some b' → ι.blk o = some b' := fun b' h' => by rw [p5]; exact h'
      have hbw : ∀ x ∈ b, x.length = n := fun x hx => h5 x (by rw [← h4] at hx; exact List.mem_of_mem_take hx)
      have hblen : (rowsOf (.vecs t n b)).length = b.length := by rw [rowsOf_vecs]; simp
      have hbm : ∀ i, i < b.length → b.getD i [] = m.getD i [] := fun i hi => by
        rw [← h4, List.getD_eq_getElem?_getD, List.getElem?_take_of_lt (by omega), List.getD_eq_getElem?_getD]
      have hown : w'.ownsRow 0 t n (cutS v b.length) b.length (ys.take (b.length * n)) := by
        have hyl : (ys.take (b.length * n)).length = b.length * n := by
          rw [List.length_take, hy.1]
          exact Nat.min_eq_left (Nat.mul_le_mul_right _ h2)
        rcases hy.2 with ⟨rfl, hn0⟩ | ⟨g0, cap, cur, rfl, hg, hc, hcap, hmax, hsz, htk⟩
        · have : b.length = 0 := by omega
          rw [this]
          exact ⟨by rw [this] at hyl; exact hyl, .inl ⟨rfl, rfl⟩⟩
        · refine ⟨hyl, .inr ⟨g0, cap, cur, rfl, hg, hc, by omega, hmax, hsz, ?_⟩⟩
          rw [← htk, List.take_take, Nat.min_eq_left (Nat.mul_le_mul_right _ h2)]
      obtain ⟨H2, E2⟩ := Heap.change (d := [(o, Ob.dead)]) (κ := key) (ob' := .arr fr (.vecs t n b)) (row := v.ownBlock) (w' := w') (ι' := ι.put key (cutS v b.length).ownBlock (cutS v b.length)) H rfl hdead
        (by rw [find_cons, if_neg (fun e => hkq e.symm)]; rfl)
        (fun b' h' => ⟨o, _, ho', trivial, hqb b' h', .inr (by rw [find_cons, if_pos rfl])⟩) (fun o1 ob1 _ hne => by simp [Im.put, hne]) (fun ob1 h' => by rw [f1] at h'; cases h')
        (fun b' h' => by
          rw [Im.put_blk] at h'
          exact ⟨(World.ownsRow.lt hown b' h').2, .inl (by rw [← cutS_block (n := b.length)]; exact h')⟩)
        hgb.size hgb.os hgb.tape hgb.output (fun b' h' hr => hgb.block b' h' fun e => hr e.symm)
        (fun a1 b' h' hbk => by
          rw [Im.put_blk, cutS_block] at hbk
          cases h'
          exact H.fresh o _ b' ho' (hqb b' hbk))
        (fun e => by
          refine ⟨List.replicate n (.int .i64), ys.take (b.length * n), rfl, p2, fun x hx => ?_, ?_, by rw [Im.put_blk, Im.put_sv], fun i j hi hj => ?_⟩
          · rw [rowsOf_vecs] at hx
            obtain ⟨y, hy, rfl⟩ := List.mem_map.1 hx
            rw [List.length_map, hbw y hy, hn]
          · rw [Im.put_sv, hn, hblen]; exact hown
          · rw [hblen] at hi
            rw [hn] at hj ⊢
            refine ⟨.int .i64 (asInt (cOf (rowsOf (.vecs t n b)) i j)), ?_, by rw [rep_get hj]; exact .int _ _⟩
            have hlt : i * n + j < b.length * n := by
              calc i * n + j < i * n + n := by omega
                _ = (i + 1) * n := by rw [Nat.add_mul, Nat.one_mul]
                _ ≤ _ := Nat.mul_le_mul_right _ hi
            rw [List.getElem?_take_of_lt hlt, cOf_vecI hbw hi hj, hbm i hi]
            exact hyc i j (by omega) hj)
      have hsame : ∀ o1, find ([(o, Ob.dead)] ++ ([(key, Ob.arr fr (.vecs t n b))] ++ objs')) o1 = find ((key, Ob.arr fr (.vecs t n b)) :: ([(o, Ob.dead)] ++ objs')) o1 := by
        intro o1
        simp only [List.singleton_append, List.cons_append, List.nil_append, find_cons]
        by_cases e1 : o = o1
        · subst e1; simp [hkq]
        · simp [e1]
      refine ⟨cutS v b.length, _, rfl, H2.same hsame, E2.trans (Ext.same hsame), .arr fr (.vecs t n b), ?_, fun fr1 a1 h' => (Im.put_sv _ _ _).symm⟩
      rw [hsame, find_cons, if_pos rfl]
end
end PM
