/- The laws of single operations. -/
import Derived.Test.YtlcgddghildedaaL1
import Derived.Laws.Tables
import Derived.Laws.CopyRow
import Derived.Maps.AppendAt
import Derived.Below
set_option linter.unusedVariables false
set_option linter.unusedSimpArgs false
namespace PM
open Go

section
variable {cx : Cx} {F : Fr} {ι : Im} {objs : Obs} {w : World}

/-! ## A heap looks at its objects by name alone -/
theorem Ext.same {objs' : Obs} (e : ∀ o, find objs' o = find objs o) : Ext ι objs w ι objs' w := by
  refine ⟨fun b hb => ⟨⟨hb.1, fun o ob ho => hb.2.1 o ob (by rw [← e]; exact ho), hb.2.2⟩, rfl⟩, fun o ob ho => ⟨ob, by rw [e]; exact ho, ?_⟩⟩
  cases ob with
  | box cs => exact ⟨⟨cs, rfl⟩, rfl⟩
  | arr fr a => exact ⟨fr, a, rfl, rfl, rfl, rfl⟩
  | dead => trivial
theorem Heap.same {objs' : Obs} (H : Heap cx F ι objs w) (e : ∀ o, find objs' o = find objs o) : Heap cx F ι objs' w := by
  refine ⟨fun o ob ho => ?_, fun o o' ob ob' b h h' => H.inj o o' ob ob' b (by rw [← e]; exact h) (by rw [← e]; exact h'), fun o ob b h => H.own o ob b (by rw [← e]; exact h), H.size, H.os, H.tape, H.output, H.keep, fun o a b h => H.fresh o a b (by rw [← e]; exact h), H.gd, H.gdF⟩
  rw [e] at ho
  exact ObOK.ext (Ext.same e) rfl rfl (fun _ _ => rfl) (H.obok o ob ho)

/-! ## A new box, a new array -/
def Im.put (ι : Im) (key : Nat) (b : Option Nat) (v : Value) : Im := ⟨fun o => if o = key then b else ι.blk o, fun o => if o = key then v else ι.sv o, ι.gd⟩
theorem Im.put_blk (key : Nat) (b : Option Nat) (v : Value) : (ι.put key b v).blk key = b := by simp [Im.put]
theorem Im.put_sv (key : Nat) (b : Option Nat) (v : Value) : (ι.put key b v).sv key = v := by simp [Im.put]
theorem Im.put_old {key : Nat} {b : Option Nat} {v : Value} (hf : find objs key = none) : ∀ o ob, find objs o = some ob → (ι.put key b v).blk o = ι.blk o ∧ (ι.put key b v).sv o = ι.sv o := by
  intro o ob ho
  have : o ≠ key := by rintro rfl; rw [hf] at ho; cases ho
  simp [Im.put, this]
theorem find_one {α : Type} {key : Nat} {x : α} {o : Nat} {y : α} (h : find [(key, x)] o = some y) : o = key ∧ y = x := by
  rw [find_cons] at h
  split at h
  · rename_i e; exact ⟨e.symm, by simpa using h.symm⟩
  · cases h

theorem Heap.box (H : Heap cx F ι objs w) {key : Nat} {cs : List V} {l : List Value} {T : TypeId} (hf : find objs key = none) (hv : All2 (VC cx w (okOf w objs ι) objs ι) cs l) :
    Heap cx F (ι.put key (some w.heap.size) Go.undef) ((key, .box cs) :: objs) (w.alloc (.cells l.toArray T)) ∧
      Ext ι objs w (ι.put key (some w.heap.size) Go.undef) ((key, .box cs) :: objs) (w.alloc (.cells l.toArray T)) := by
  refine Heap.add (N := [(key, .box cs)]) H (fun o ob ho => ?_) rfl (Im.put_old hf) (by simp) rfl rfl rfl (fun b hb => heap_alloc_old w _ hb) (fun o ob b ho _ hb => ?_) (fun o o' ob ob' b ho ho' _ _ _ _ => ?_) (fun e o ob ho => ?_)
  · obtain ⟨rfl, rfl⟩ := find_one ho; exact hf
  · obtain ⟨rfl, rfl⟩ := find_one ho
    rw [Im.put_blk] at hb; cases hb
    simp
  · rw [(find_one ho).1, (find_one ho').1]
  · obtain ⟨rfl, rfl⟩ := find_one ho
    exact ⟨w.heap.size, l, T, Im.put_blk _ _ _, heap_alloc_new w _, hv.mono fun _ _ => VC.ext e⟩

theorem Heap.arr (H : Heap cx F ι objs w) {key : Nat} {fr : Bool} {a : Arr} {sh : List K} {cur : Array Value} {cap : Nat} (hf : find objs key = none)
    (h1 : shAK cx (akOf a) = some sh) (h2 : 0 < sh.length) (h3 : Wf sh (rowsOf a)) (h4 : (rowsOf a).length ≤ cap) (h5 : cap ≤ maxLen) (h6 : cur.size = cap * sh.length)
    (h7 : ∀ i j, i < (rowsOf a).length → j < sh.length → ∃ cv, cur[i * sh.length + j]? = some cv ∧ CellV cx w (fun b => okOf w objs ι b ∧ (fr = true → FU F.fresh w b)) (sh.getD j .bool) (cOf (rowsOf a) i j) cv) :
    Heap cx F (ι.put key (some w.heap.size) (.slice (some ⟨w.heap.size, 0, none⟩) (rowsOf a).length cap)) ((key, .arr fr a) :: objs) (w.alloc (.cells cur (tAK (akOf a)))) ∧
      Ext ι objs w (ι.put key (some w.heap.size) (.slice (some ⟨w.heap.size, 0, none⟩) (rowsOf a).length cap)) ((key, .arr fr a) :: objs) (w.alloc (.cells cur (tAK (akOf a)))) := by
  refine Heap.add (N := [(key, .arr fr a)]) H (fun o ob ho => ?_) rfl (Im.put_old hf) (by simp) rfl rfl rfl (fun b hb => heap_alloc_old w _ hb) (fun o ob b ho _ hb => ?_) (fun o o' ob ob' b ho ho' _ _ _ _ => ?_) (fun e o ob ho => ?_)
  · obtain ⟨rfl, rfl⟩ := find_one ho; exact hf
  · obtain ⟨rfl, rfl⟩ := find_one ho
    rw [Im.put_blk] at hb; cases hb
    simp
  · rw [(find_one ho).1, (find_one ho').1]
  · obtain ⟨rfl, rfl⟩ := find_one ho
    refine ⟨sh, cur.toList.take ((rowsOf a).length * sh.length), h1, h2, h3, ?_, ?_, fun i j hi hj => ?_⟩
    · rw [Im.put_sv]
      refine ⟨?_, .inr ⟨w.heap.size, cap, cur, rfl, Nat.zero_le _, heap_alloc_new w _, h4, h5, h6, rfl⟩⟩
      have h6' : cur.toList.length = cap * sh.length := by simpa using h6
      rw [List.length_take, h6']
      exact Nat.min_eq_left (Nat.mul_le_mul_right _ h4)
    · rw [Im.put_blk, Im.put_sv]; rfl
    · obtain ⟨cv, c1, c2⟩ := h7 i j hi hj
      refine ⟨cv, ?_, c2.mono fun b hb => ⟨⟨(e.okm b hb.1).1, unfs (e.okm b hb.1).2 hb.2⟩, (e.okm b hb.1).2⟩⟩
      rw [List.getElem?_take, if_pos]
      · simpa using c1
      · calc i * sh.length + j < i * sh.length + sh.length := by omega
          _ = (i + 1) * sh.length := by rw [Nat.add_mul, Nat.one_mul]
          _ ≤ _ := Nat.mul_le_mul_right _ hi

/-! ## Objects that become data -/
def Dead (u : Obs) : Prop := ∀ o ob, find u o = some ob → ob = .dead
theorem find_dead {u : Obs} (hd : Dead u) {o : Nat} {ob : Ob} (h : find (u ++ objs) o = some ob) (hl : live ob) : find u o = none ∧ find objs o = some ob := by
  rw [find_append] at h
  cases hu : find u o with
  | some x => rw [hu] at h; simp at h; subst h; rw [hd o x hu] at hl; exact hl.elim
  | none => rw [hu] at h; exact ⟨rfl, by simpa using h⟩
theorem Heap.kill (H : Heap cx F ι objs w) {u : Obs} (hd : Dead u) : Heap cx F ι (u ++ objs) w ∧ Ext ι objs w ι (u ++ objs) w := by
  have e : Ext ι objs w ι (u ++ objs) w := by
    refine ⟨fun b hb => ⟨⟨hb.1, fun o ob ho hl => hb.2.1 o ob (find_dead hd ho hl).2 hl, hb.2.2⟩, rfl⟩, fun o ob ho => ?_⟩
    cases hu : find u o with
    | some x => exact ⟨x, by rw [find_append, hu]; rfl, by rw [hd o x hu]; trivial⟩
    | none =>
      refine ⟨ob, by rw [find_append, hu]; simpa using ho, ?_⟩
      cases ob with
      | box cs => exact ⟨⟨cs, rfl⟩, rfl⟩
      | arr fr a => exact ⟨fr, a, rfl, rfl, rfl, rfl⟩
      | dead => trivial
  refine ⟨⟨fun o ob ho => ?_, fun o o' ob ob' b h h' l l' => H.inj o o' ob ob' b (find_dead hd h l).2 (find_dead hd h' l').2 l l', fun o ob b h l => H.own o ob b (find_dead hd h l).2 l, H.size, H.os, H.tape, H.output, H.keep, fun o a b h => H.fresh o a b (find_dead hd h trivial).2, H.gd, H.gdF⟩, e⟩
  by_cases hl : live ob
  · exact ObOK.ext e rfl rfl (fun _ _ => rfl) (H.obok o ob (find_dead hd ho hl).2)
  · cases ob with
    | dead => trivial
    | box cs => exact (hl trivial).elim
    | arr fr a => exact (hl trivial).elim
end
end PM

namespace PM
open Go

section
variable {P : Program} {cx : Cx} {o : Oper} {σ : S} {key : Nat} {Γ : Gam} {k : V → Obs → Obs → R} {r : V}

theorem zero_own {w : World} {okf : Nat → Prop} : ∀ {z : List V} {zv : List Value}, All2 (ZeroC cx) z zv → OwnL1 cx w okf z zv []
  | [], [], _ => rfl
  | z :: zs, v :: vs, h => by
    refine ⟨[], [], rfl, ?_, zero_own h.2⟩
    have h1 := h.1
    cases z <;> simp only [ZeroC] at h1
    case int k n => exact ⟨h1, rfl⟩
    case bool b => exact ⟨h1, rfl⟩
    case arr a => obtain ⟨h2, h3, rfl⟩ := h1; exact ownArr_nil h2 h3
  | [], _ :: _, h => h.elim
  | _ :: _, [], h => h.elim

theorem zero_run {t : TypeId} {i : TypeInfo} {z : Value} (h1 : P.info? t = some i) (h2 : i.zero = some z) (w : World) : (zeroValue t).run P w = .ok z w := by
  simp [zeroValue, typeInfo, h1, h2]

theorem run_alloc {t : TypeId} {i : TypeInfo} {z : Value} (h1 : P.info? t = some i) (h2 : i.zero = some z) (w : World) :
    (Instr.alloc t true (.tuple #[])).run P w = .ok (.pointer (some ⟨w.heap.size, 0, none⟩)) (w.alloc (.cells z.cells t)) := by
  simp [Instr.alloc, zero_run h1 h2, newVar, newRow]

theorem wf_ints {t : TypeId} {i : IntKind} (l : List Int) : Wf [.int i] (rowsOf (.ints t i l)) := by
  intro r hr
  rw [rowsOf_ints] at hr
  obtain ⟨n, _, rfl⟩ := List.mem_map.1 hr
  rfl
theorem wf_bools {t : TypeId} (l : List Bool) : Wf [.bool] (rowsOf (.bools t l)) := by
  intro r hr
  rw [rowsOf_bools] at hr
  obtain ⟨n, _, rfl⟩ := List.mem_map.1 hr
  rfl

theorem pop_alloc (hc : CxOk P cx) {t : TypeId} (ho : o.op = .alloc t) (h : pop std cx Γ key o σ k = some r) : Sound P cx o σ k r := by
  simp only [pop, ho] at h
  obtain ⟨ty, hty, h1⟩ := onOpt_some h
  have hT := hc t ty hty
  split at h1
  · rename_i m hal
    obtain ⟨e, he, h2⟩ := onOpt_some h1
    obtain ⟨e', kk, ee, ie, it, zc, a1, a2, a3, a4, a5, a6, a7, a8, a9, a10⟩ := hT.arr m hal
    rw [he] at a1; cases a1
    have hmx := hT.alen m hal
    have main : ∀ (a : Arr), akOf a = e → (rowsOf a).length = m → Wf [kk] (rowsOf a) → (∀ i, i < m → ∀ w ok cv, ZeroK kk cv → CellV cx w ok kk (cOf (rowsOf a) i 0) cv) →
        k (.parr key m) [(key, .arr true a)] [] = some r → Sound P cx o σ k r := by
      intro a b1 b2 b3 b4 b5
      refine ⟨_, _, _, b5, fun τ ag F ι act w hs hf => .inl ?_⟩
      obtain ⟨f1, _, _⟩ := fresh_cons hf
      have hr := run_alloc (P := P) a7 a8 w
      obtain ⟨H', E'⟩ := Heap.arr (a := a) (fr := true) (cur := zc) (cap := m) (key := key) hs.heap f1 (by rw [b1]; exact a4) (by simp) b3 (by omega) hmx (by simp; simpa using a9) (fun i j hi hj => by
        simp at hj; subst hj
        have hi' : i < zc.toList.length := by rw [a9, ← b2]; exact hi
        have hz := a10 zc.toList[i] (List.getElem_mem hi')
        refine ⟨zc.toList[i], by simp, ?_⟩
        exact b4 i (by omega) _ _ _ hz)
      have e1 : tAK (akOf a) = t := by rw [b1, a3]
      rw [e1] at H' E'
      refine ⟨_, _, _, exec_of (s := Instr.alloc t true (.tuple #[])) (by simp only [execOp, ho]) hr, H', E', _, by simp [find_cons]; rfl, fun fr a' ha => ?_⟩
      cases ha
      exact ⟨_, _, by rw [Im.put_sv, b2], rfl⟩
    split at h2
    · rename_i u i
      have hk : kk = .int i := by simp [shAK] at a4; exact a4.symm
      subst hk
      refine main _ rfl (by simp [rowsOf_ints, std]) (wf_ints _) (fun j hj w ok cv hz => ?_) h2
      have hz : cv = .int i 0 := hz
      have : cOf (rowsOf (.ints u i (std.izero (Int.ofNat m)))) j 0 = .i 0 := by
        simp [rowsOf_ints, std, cOf, cAt, hj]
      rw [this, hz]; exact CellV.int i (.i 0)
    · rename_i u
      have hk : kk = .bool := by simp [shAK] at a4; exact a4.symm
      subst hk
      refine main _ rfl (by simp [rowsOf_bools, std]) (wf_bools _) (fun j hj w ok cv hz => ?_) h2
      have hz : cv = .bool false := hz
      have : cOf (rowsOf (.bools u (std.bzero (Int.ofNat m)))) j 0 = .b false := by
        simp [rowsOf_bools, std, cOf, cAt, hj]
      rw [this, hz]; exact CellV.bool (.b false)
    · cases h2
  · rename_i hal
    obtain ⟨i, z, q1, q2, q3, _⟩ := hT.zero hal
    refine ⟨_, _, _, h1, fun τ ag F ι act w hs hf => .inl ?_⟩
    obtain ⟨f1, f2, f3⟩ := fresh_cons hf
    obtain ⟨sv, M, hv⟩ := mats_ok (key := key + 1) (zero_own (cx := cx) (w := w) (okf := fun _ => False) q3) (by simp)
    obtain ⟨H1, E1⟩ := Heap.nils hs.heap M (fresh_of f3)
    have hcs := hv ((mats (key + 1) ty.zero).2.1 ++ τ.objs) (ι.ext sv) (okOf w ((mats (key + 1) ty.zero).2.1 ++ τ.objs) (ι.ext sv)) w find_app_left ext_sv
    obtain ⟨H2, E2⟩ := H1.box (key := key) (T := t) (by rw [find_append, f2]; simpa using f1) hcs
    refine ⟨_, _, _, exec_of (s := Instr.alloc t true (.tuple #[])) (by simp only [execOp, ho]) (run_alloc (P := P) q1 q2 w), H2, E1.trans E2, _, by simp [find_cons]; rfl, fun cs hcs => ⟨_, Im.put_blk _ _ _, rfl⟩⟩
end
end PM

namespace PM
open Go

section
variable {P : Program} {cx : Cx} {o : Oper} {σ : S} {key : Nat} {Γ : Gam} {k : V → Obs → Obs → R} {r : V} {F : Fr} {ι : Im} {w : World} {objs : Obs}

theorem slV_one {ok : Nat → Prop} {sh : List K} {rows : List (List C)} {v : Value} (h : SlV cx w ok sh rows v) : v.oneCell' = true := by
  rcases h with ⟨_, b, c, rfl⟩ | ⟨a, c, f, rfl, _⟩ <;> rfl
theorem ownsRow_one {b e size n : Nat} {v : Value} {xs : List Value} (h : w.ownsRow b e size v n xs) : v.oneCell' = true := by
  rcases h.2 with ⟨rfl, _⟩ | ⟨g, cap, cur, rfl, _⟩ <;> rfl

/-- Cells that may be stored are one cell each. -/
theorem liveCells_ok (H : Heap cx F ι objs w) : ∀ {cs : List V} {l : List Value}, liveCells objs cs = true → All2 (VC cx w (okOf w objs ι) objs ι) cs l → ∀ u ∈ l, u.oneCell' = true
  | [], [], _, _, u, hu => by cases hu
  | v :: cs, x :: l, h, ha, u, hu => by
    have key : x.oneCell' = true ∧ liveCells objs cs = true := by
      have h1 := ha.1
      cases v <;> simp only [liveCells] at h <;> try (cases h; done)
      case int k n => have h1 : x = .int k n := h1; subst h1; exact ⟨rfl, h⟩
      case bool b => have h1 : x = .bool b := h1; subst h1; exact ⟨rfl, h⟩
      case arr a => obtain ⟨sh, _, _, h2⟩ := h1; exact ⟨slV_one h2, h⟩
      case pimm a i off => obtain ⟨sh, ad, cap, _, _, _, _, _, rfl⟩ := h1; exact ⟨rfl, h⟩
      case sref o =>
        split at h
        · rename_i fr a hob
          obtain ⟨ob, h2, h3⟩ := h1
          have h4 := h3 fr a (by rw [hob] at h2; exact (Option.some.inj h2).symm)
          obtain ⟨sh, xs, _, _, _, h5, _⟩ := H.obok o _ hob
          rw [h4]
          exact ⟨ownsRow_one h5, h⟩
        · cases h
    rcases List.mem_cons.1 hu with rfl | hu
    · exact key.1
    · exact liveCells_ok H key.2 ha.2 u hu
  | [], _ :: _, _, h, _, _ => h.elim
  | _ :: _, [], _, h, _, _ => h.elim

theorem cells_one {v : Value} (h : v.oneCell' = true) : v.cells = #[v] := by cases v <;> first | rfl | (simp [Value.oneCell'] at h)

/-- A value's cells. -/
theorem cellsOf_ok (H : Heap cx F ι objs w) {v : V} {vv : Value} (h : liveCells objs (cellsOf v) = true) (hv : VR cx w (okOf w objs ι) objs ι v vv) :
    All2 (VC cx w (okOf w objs ι) objs ι) (cellsOf v) vv.cells.toList ∧ ∀ u ∈ vv.cells.toList, u.oneCell' = true := by
  have one : ∀ (hcv : cellsOf v = [v]), VC cx w (okOf w objs ι) objs ι v vv → All2 (VC cx w (okOf w objs ι) objs ι) (cellsOf v) vv.cells.toList ∧ ∀ u ∈ vv.cells.toList, u.oneCell' = true := by
    intro e hvc
    have h2 : All2 (VC cx w (okOf w objs ι) objs ι) (cellsOf v) [vv] := by rw [e]; exact ⟨hvc, trivial⟩
    have h3 := liveCells_ok H h h2
    rw [cells_one (h3 vv (by simp))]
    exact ⟨h2, h3⟩
  cases v
  case agg cs =>
    obtain ⟨l, rfl, hl⟩ := hv
    exact ⟨hl, liveCells_ok H h hl⟩
  case tup => simp [cellsOf, liveCells] at h
  case func => simp [cellsOf, liveCells] at h
  all_goals exact one rfl hv

/-- What cells name. -/
theorem mem_refsC : ∀ {cs : List V} {seen : List Nat} {κ : Nat}, κ ∈ refsC seen cs ↔ κ ∈ seen ∨ V.sref κ ∈ cs ∨ ∃ off, V.pbox κ off ∈ cs
  | [], seen, κ => by simp [refsC]
  | v :: cs, seen, κ => by
    cases v <;> simp only [refsC]
    case sref q => rw [mem_refsC]; simp [or_assoc]
    case pbox q off =>
      rw [mem_refsC, List.mem_append, List.mem_singleton]
      constructor
      · rintro ((h | h) | h | ⟨f, h⟩)
        · exact .inl h
        · exact .inr (.inr ⟨off, by rw [h]; simp⟩)
        · exact .inr (.inl (List.mem_cons.2 (.inr h)))
        · exact .inr (.inr ⟨f, List.mem_cons.2 (.inr h)⟩)
      · rintro (h | h | ⟨f, h⟩)
        · exact .inl (.inl h)
        · rcases List.mem_cons.1 h with h | h
          · cases h
          · exact .inr (.inl h)
        · rcases List.mem_cons.1 h with h | h
          · cases h; exact .inl (.inr rfl)
          · exact .inr (.inr ⟨f, h⟩)
    all_goals rw [mem_refsC]; simp

theorem mem_refs_cells {v : V} {q : Nat} (h : V.sref q ∈ cellsOf v) : q ∈ refs1 [] v := by
  cases v <;> simp only [cellsOf, List.mem_singleton] at h <;> try (cases h; done)
  case sref => cases h; simp [refs1]
  case agg cs => simp only [refs1]; rw [mem_refsC]; exact .inr (.inl h)

/-- What the cells name, under agreement. -/
theorem liveCells_ag {objs' : Obs} : ∀ {cs : List V}, (∀ q, V.sref q ∈ cs → find objs' q = find objs q) → liveCells objs' cs = liveCells objs cs
  | [], _ => rfl
  | v :: cs, ha => by
    have ih := liveCells_ag (cs := cs) (fun q hq => ha q (List.mem_cons.2 (.inr hq)))
    cases v <;> simp only [liveCells, ih]
    case sref q => rw [ha q (by simp)]
theorem toC_ag {objs' : Obs} {v : V} (h : ∀ q, v = .sref q → find objs' q = find objs q) : toC std objs' v = toC std objs v := by
  cases v <;> simp only [toC]
  case sref q => rw [h q rfl]
theorem toCs_ag {objs' : Obs} : ∀ {cs : List V}, (∀ q, V.sref q ∈ cs → find objs' q = find objs q) → toCs std objs' cs = toCs std objs cs
  | [], _ => rfl
  | v :: cs, ha => by
    simp only [toCs, toC_ag (v := v) (fun q hq => ha q (by simp [hq])), toCs_ag (cs := cs) (fun q hq => ha q (List.mem_cons.2 (.inr hq)))]
theorem kindOk_ag {objs' : Obs} {K : PM.K} {v : V} (h : ∀ q, v = .sref q → find objs' q = find objs q) : kindOk cx objs' K v = kindOk cx objs K v := by
  cases K <;> cases v <;> simp only [kindOk]
  case sl.sref u q => rw [h q rfl]
theorem kindsOk_ag {objs' : Obs} : ∀ {ks : List PM.K} {cs : List V}, (∀ q, V.sref q ∈ cs → find objs' q = find objs q) → kindsOk cx objs' ks cs = kindsOk cx objs ks cs
  | _, [], _ => by simp [kindsOk]
  | [], _ :: _, _ => by simp [kindsOk]
  | k :: ks, v :: cs, ha => by
    simp only [kindsOk, kindOk_ag (v := v) (fun q hq => ha q (by simp [hq])), kindsOk_ag (ks := ks) (cs := cs) (fun q hq => ha q (List.mem_cons.2 (.inr hq)))]
/-- Data cells are cells that may be stored. -/
theorem toCs_live : ∀ {cs : List V} {ds : List C}, toCs std objs cs = some ds → liveCells objs cs = true
  | [], _, _ => rfl
  | v :: cs, ds, h => by
    simp only [toCs] at h
    split at h
    · cases h
    · rename_i c hc
      split at h
      · cases h
      · rename_i r hr
        have ih := toCs_live hr
        cases v <;> simp only [toC] at hc <;> try (cases hc; done)
        case sref q =>
          simp only [liveCells]
          split at hc
          · exact ih
          · cases hc
        all_goals exact ih
end
end PM

namespace PM
open Go

/-! ## Overwriting cells -/
def seg {α : Type} (l : List α) (n : Nat) (xs : List α) : List α := l.take n ++ xs ++ l.drop (n + xs.length)
theorem over_ok {α : Type} : ∀ {l xs r : List α}, splice.over l xs = some r → xs.length ≤ l.length ∧ r = xs ++ l.drop xs.length
  | l, [], r, h => by simp [splice.over] at h; subst h; simp
  | [], x :: xs, r, h => by simp [splice.over] at h
  | y :: l, x :: xs, r, h => by
    simp only [splice.over] at h
    split at h
    · rename_i q hq
      simp at h; subst h
      obtain ⟨h1, h2⟩ := over_ok hq
      exact ⟨by simp; omega, by rw [h2]; simp⟩
    · cases h
theorem splice_ok {α : Type} : ∀ {l : List α} {n : Nat} {xs r : List α}, splice l n xs = some r → n + xs.length ≤ l.length ∧ r = seg l n xs
  | l, 0, xs, r, h => by
    simp only [splice] at h
    obtain ⟨h1, h2⟩ := over_ok h
    exact ⟨by omega, by simp [seg, h2]⟩
  | [], n + 1, xs, r, h => by simp [splice] at h
  | y :: l, n + 1, xs, r, h => by
    simp only [splice] at h
    split at h
    · rename_i q hq
      simp at h; subst h
      obtain ⟨h1, h2⟩ := splice_ok hq
      refine ⟨by simp; omega, ?_⟩
      rw [h2]
      simp [seg, show n + 1 + xs.length = n + xs.length + 1 by omega]
    · cases h
theorem All2.seg {α β : Type} {R : α → β → Prop} {l xs : List α} {m ys : List β} (h : All2 R l m) (g : All2 R xs ys) (n : Nat) : All2 R (seg l n xs) (seg m n ys) := by
  unfold PM.seg
  rw [g.length]
  exact ((h.take n).append g).append (h.drop _)
theorem seg_length {α : Type} {l : List α} {n : Nat} {xs : List α} (h : n + xs.length ≤ l.length) : (seg l n xs).length = l.length := by simp [seg]; omega

theorem fold_set (off : Nat) : ∀ (xs : List Value) (k : Nat) (cs : Array Value), off + k + xs.length ≤ cs.size →
    (xs.zipIdx k).foldl (fun cs (c, j) => cs.setIfInBounds (off + j) c) cs = (seg cs.toList (off + k) xs).toArray
  | [], k, cs, h => by simp [seg]
  | x :: xs, k, cs, h => by
    rw [List.zipIdx_cons, List.foldl_cons]
    have ih := fold_set off xs (k + 1) (cs.setIfInBounds (off + k) x) (by simp at h ⊢; omega)
    rw [ih]
    congr 1
    have e := list_seg_step cs.toList (off + k) x xs (by simp at h ⊢; omega)
    simp only [seg, Array.toList_setIfInBounds]
    simpa [Nat.add_assoc] using e
theorem fold_set' (off : Nat) (v cs : Array Value) (h : off + v.size ≤ cs.size) : v.zipIdx.foldl (fun cs (c, j) => cs.setIfInBounds (off + j) c) cs = (seg cs.toList off v.toList).toArray := by
  rw [← Array.foldl_toList, Array.toList_zipIdx]
  exact fold_set off v.toList 0 cs (by simpa using h)

section
variable {P : Program} {cx : Cx} {o : Oper} {σ : S} {key : Nat} {Γ : Gam} {k : V → Obs → Obs → R} {r : V} {F : Fr} {ι : Im} {w : World} {objs : Obs}

theorem pop_box (hc : CxOk P cx) {t : TypeId} {x : Operand} (ho : o.op = .box t x) (h : pop std cx Γ key o σ k = some r) : Sound P cx o σ k r := by
  simp only [pop, ho] at h
  obtain ⟨ty, hty, h1⟩ := onOpt_some h
  split at h1
  · cases h1
  obtain ⟨v, n, h2, h3⟩ := ev_sound hc h1
  split at h2
  · rename_i hlen hlive
    refine ⟨_, _, _, h2, fun τ ag F ι act w hs hf => .inl ?_⟩
    obtain ⟨g1, g2⟩ := h3 τ (ag x (by simp [ho, Op.operands]))
    obtain ⟨f1, f2, f3⟩ := fresh_cons hf
    obtain ⟨ι', A⟩ := g2 F ι act w hs (fresh_of f3)
    have hlive' : liveCells (n ++ τ.objs) (cellsOf v) = true := by
      rw [← hlive]
      refine liveCells_ag fun q hq => ?_
      rw [find_append, find_append]
      cases hn : find n q with
      | some y => rfl
      | none => simpa using g1 q (mem_refs_cells hq) hn
    obtain ⟨c1, c2⟩ := cellsOf_ok A.heap hlive' A.val
    obtain ⟨H2, E2⟩ := A.heap.box (key := key) (T := t) (by rw [find_append, f2]; simpa using f1) c1
    refine ⟨_, _, _, exec_of (s := Instr.box t (act.eval x)) (by simp only [execOp, ho]) (by simp [Instr.box, newVar, newRow]), H2, A.ext.trans E2, _, by simp [find_cons]; rfl, fun cs hcs => ⟨_, Im.put_blk _ _ _, rfl⟩⟩
  · cases h2

theorem evps_sound : ∀ {ps : List (Nat × Operand)} {σ : S} {k : List (Nat × V) → R} {r : V}, evps ps σ k = some r →
    ∃ vs, k vs = some r ∧ ∀ τ, Ag (ps.map (·.2)) σ τ → (∀ f v, (f, v) ∈ vs → ∀ κ ∈ refs1 [] v, find τ.objs κ = find σ.objs κ) ∧
      ∀ F ι a w, Sim cx F ι τ a w → All2 (fun x y => x.1 = y.1 ∧ VR cx w (okOf w τ.objs ι) τ.objs ι x.2 y.2) vs (ps.map fun (i, x) => (i, a.eval x))
  | [], σ, k, r, h => ⟨[], h, fun τ _ => ⟨fun f v hj => (by simp at hj), fun _ _ _ _ _ => trivial⟩⟩
  | (f, x) :: ps, σ, k, r, h => by
    simp only [evps] at h
    obtain ⟨v, h1, h2⟩ := ev0_sound (cx := cx) h
    obtain ⟨vs, h3, h5⟩ := evps_sound h1
    refine ⟨(f, v) :: vs, h3, fun τ ag => ?_⟩
    have a1 := h2 τ (ag x (by simp))
    have a2 := h5 τ (fun y hy => ag y (by simp at hy ⊢; exact .inr hy))
    refine ⟨fun f' u hj => ?_, fun F ι a w hs => ⟨⟨rfl, a1.2 F ι a w hs⟩, a2.2 F ι a w hs⟩⟩
    rcases List.mem_cons.1 hj with hj | hj
    · cases hj; exact a1.1
    · exact a2.1 f' u hj

theorem builds_ok (H : Heap cx F ι objs w) {offs sizes : List Nat} (hl : offs.length = sizes.length) : ∀ {vs : List (Nat × V)} {ps : List (Nat × Value)} {z cs : List V} {zv : Array Value},
    builds objs offs sizes z vs = some cs → All2 (fun x y => x.1 = y.1 ∧ VR cx w (okOf w objs ι) objs ι x.2 y.2) vs ps → All2 (VC cx w (okOf w objs ι) objs ι) z zv.toList →
    ∃ l, Instr.fill ((offs.zip sizes).toArray[·]?) zv ps = some l ∧ All2 (VC cx w (okOf w objs ι) objs ι) cs l.toList
  | [], [], z, cs, zv, h, _, hz => by
    simp [builds] at h; subst h
    exact ⟨zv, rfl, hz⟩
  | (f, v) :: vs, (f', vv) :: ps, z, cs, zv, h, ha, hz => by
    obtain ⟨⟨h1, h2⟩, h3⟩ := ha
    simp only at h1 h2
    subst h1
    simp only [builds] at h
    split at h
    · rename_i off size hoff hsize
      split at h
      · rename_i hlen hlive
        split at h
        · cases h
        · rename_i z' hz'
          obtain ⟨s1, rfl⟩ := splice_ok hz'
          have hlen := Nat.eq_of_beq_eq_true hlen
          obtain ⟨c1, c2⟩ := cellsOf_ok H hlive h2
          have hcl := c1.length
          have hzl := hz.length
          have hsz : vv.cells.size = size := by rw [← hlen, hcl]; simp
          have hb : off + vv.cells.size ≤ zv.size := by
            have e1 : zv.size = z.length := by rw [hzl]; simp
            rw [hsz, e1, ← hlen]; exact s1
          rw [nth_eq] at hoff hsize
          have hplace : (offs.zip sizes).toArray[f]? = some (off, size) := by
            simp [List.getElem?_zip_eq_some, hoff, hsize]
          have hz2 := hz.seg c1 off
          obtain ⟨l, q1, q2⟩ := builds_ok H hl (zv := (seg zv.toList off vv.cells.toList).toArray) h h3 (by simpa using hz2)
          refine ⟨l, ?_, q2⟩
          simp only [Instr.fill, hplace]
          rw [if_neg (by simp [hsz]; omega), fold_set' off vv.cells zv hb]
          exact q1
      · cases h
    · cases h
  | [], _ :: _, _, _, _, _, h, _ => h.elim
  | _ :: _, [], _, _, _, _, h, _ => h.elim

theorem pop_build (hc : CxOk P cx) {t : TypeId} {ps : Array (Nat × Operand)} (ho : o.op = .build t ps) (h : pop std cx Γ key o σ k = some r) : Sound P cx o σ k r := by
  simp only [pop, ho] at h
  obtain ⟨ty, hty, h1⟩ := onOpt_some h
  have hT := hc t ty hty
  split at h1
  · rename_i hal hag
    obtain ⟨vs, h2, h3⟩ := evps_sound (cx := cx) h1
    obtain ⟨cs, hcs, h4⟩ := onOpt_some h2
    obtain ⟨i, z, q1, q2, q3, q4⟩ := hT.zero hal
    obtain ⟨fs, p1, p2, p3⟩ := hT.parts hal hag
    refine ⟨_, _, _, h4, fun τ ag F ι act w hs hf => .inl ?_⟩
    obtain ⟨g1, g2⟩ := h3 τ (fun x hx => ag x (by simp [ho, Op.operands] at hx ⊢; exact hx))
    have g2 := g2 F ι act w hs
    obtain ⟨sv, M, hv⟩ := mats_ok (key := key) (zero_own (cx := cx) (w := w) (okf := fun _ => False) q3) (by simp)
    obtain ⟨H1, E1⟩ := Heap.nils hs.heap M (fresh_of hf)
    have hz := hv ((mats key ty.zero).2.1 ++ τ.objs) (ι.ext sv) (okOf w ((mats key ty.zero).2.1 ++ τ.objs) (ι.ext sv)) w find_app_left ext_sv
    have hb : builds ((mats key ty.zero).2.1 ++ τ.objs) ty.foffs ty.fsizes (mats key ty.zero).1 vs = some cs := by
      have main : ∀ (vs : List (Nat × V)) (z : List V), (∀ f v, (f, v) ∈ vs → ∀ q, V.sref q ∈ cellsOf v → liveCells σ.objs (cellsOf v) = true → find ((mats key ty.zero).2.1 ++ τ.objs) q = find σ.objs q) →
          ∀ cs, builds σ.objs ty.foffs ty.fsizes z vs = some cs → builds ((mats key ty.zero).2.1 ++ τ.objs) ty.foffs ty.fsizes z vs = some cs := by
        intro vs
        induction vs with
        | nil => intro z _ cs h; exact h
        | cons p vs ih =>
          obtain ⟨f, v⟩ := p
          intro z hag cs h
          simp only [builds] at h ⊢
          split at h
          · rename_i off size hoff hsize
            split at h
            · rename_i hlen hlive
              have e : liveCells ((mats key ty.zero).2.1 ++ τ.objs) (cellsOf v) = liveCells σ.objs (cellsOf v) := liveCells_ag fun q hq => hag f v (by simp) q hq hlive
              simp only [hoff, hsize, hlen, e, hlive]
              split at h
              · cases h
              · rename_i z' hz'
                exact ih z' (fun f' v' hm => hag f' v' (List.mem_cons.2 (.inr hm))) cs h
            · cases h
          · cases h
      refine main vs _ (fun f v hm q hq hlive => ?_) cs hcs
      have e1 := g1 f v hm q (mem_refs_cells hq)
      rw [find_append]
      cases hn : find (mats key ty.zero).2.1 q with
      | none => simpa using e1
      | some y =>
        exfalso
        have hfr := fresh_of hf q y hn
        rw [hfr] at e1
        have : ∀ (cs : List V), V.sref q ∈ cs → liveCells σ.objs cs = true → find σ.objs q = none → False := by
          intro cs
          induction cs with
          | nil => intro h; cases h
          | cons v cs ih =>
            intro h hl hn
            rcases List.mem_cons.1 h with h' | h'
            · subst h'; simp [liveCells, hn] at hl
            · cases v <;> simp only [liveCells] at hl <;> try (cases hl; done)
              case sref => split at hl; exact ih h' hl hn; cases hl
              all_goals exact ih h' hl hn
        exact this _ hq hlive e1.symm
    obtain ⟨l, l1, l2⟩ := builds_ok (zv := z.cells) H1 p2 hb (g2.mono fun x y hxy => ⟨hxy.1, VR.ext E1 hxy.2⟩) (by simpa using hz)
    have hbuilt : P.built t (ps.map fun (i, x) => (i, act.eval x)).toList = some l := by
      unfold Program.built
      rw [q1, p1]
      simp only [q2, p3, Array.toList_map]
      exact l1
    exact ⟨_, _, _, exec_of (s := Instr.build t (ps.map fun (i, x) => (i, act.eval x))) (by simp only [execOp, ho]) (run_build w t _ l hbuilt), H1, E1, l.toList, by simp, l2⟩
  · cases h1
end
end PM

namespace PM
open Go

section
variable {P : Program} {cx : Cx} {o : Oper} {σ : S} {key : Nat} {Γ : Gam} {k : V → Obs → Obs → R} {r : V} {F : Fr} {ι : Im} {w : World} {objs : Obs}

theorem All2.getD {K : PM.K → Value → Prop} {l : List PM.K} {m : List Value} (h : All2 K l m) {j : Nat} (hj : j < l.length) : ∃ v, m[j]? = some v ∧ K (l.getD j .bool) v := by
  obtain ⟨v, h1, h2⟩ := h.get j l[j] (by simp [hj])
  exact ⟨v, h1, by simpa [List.getD_eq_getElem?_getD, hj] using h2⟩

theorem madeCells_at {z : Array Value} {n i j s : Nat} (hs : z.size = s) (hj : j < s) (h : i * s + j < n) : (madeCells z n)[i * s + j]? = z[j]? := by
  subst hs
  simp only [madeCells]
  have e : (i * z.size + j) % z.size = j := by rw [Nat.mul_comm, Nat.mul_add_mod, Nat.mod_eq_of_lt hj]
  simp [h, e, hj]

theorem pop_makeSlice (hc : CxOk P cx) {t : TypeId} {x y : Operand} (ho : o.op = .makeSlice t x y) (h : pop std cx Γ key o σ k = some r) : Sound P cx o σ k r := by
  simp only [pop, ho] at h
  obtain ⟨ty, hty, h1⟩ := onOpt_some h
  have hT := hc t ty hty
  split at h1
  · cases h1
  rename_i hal
  obtain ⟨e, he, h2⟩ := onOpt_some h1
  obtain ⟨v1, h3, e1⟩ := ev0_sound (cx := cx) h2
  obtain ⟨v2, h4, e2⟩ := ev0_sound (cx := cx) h3
  split at h4
  · rename_i n m
    split at h4
    · rename_i hn
      split at h4
      · rename_i hnm
        split at h4
        · rename_i hm
          have hn : 0 ≤ n ∧ n ≤ 2147483648 := by simpa [std] using hn
          have hm : 0 ≤ m ∧ m ≤ 2147483648 := by simpa [std] using hm
          have hnm : n ≤ m := by simpa [std] using hnm
          obtain ⟨sh, ie, ze, s1, s2, s3, s4, s5, s6, s7, s8, s9⟩ := hT.slice hal e he
          have main : ∀ a, ZeroRows sh a e n.toNat → k (.sref key) [(key, .arr true a)] [] = some r → Sound P cx o σ k r := by
            intro a Z hk
            refine ⟨_, _, _, hk, fun τ ag F ι act w hs hf => .inl ?_⟩
            obtain ⟨f1, _, _⟩ := fresh_cons hf
            have a1 : act.eval x = .int .i64 n := (e1 τ (ag x (by simp [ho, Op.operands]))).2 F ι act w hs
            have a2 : act.eval y = .int .i64 m := (e2 τ (ag y (by simp [ho, Op.operands]))).2 F ι act w hs
            have hb : (ie.bytes : Int) * m ≤ 281474976710656 := by
              have : (ie.bytes : Int) * m ≤ 65536 * 2147483648 := Int.mul_le_mul (by omega) hm.2 hm.1 (by omega)
              omega
            have hr := run_make (P := P) w t (tAK e) ie ze s1 s4 s6 .i64 .i64 n m hn.1 hnm hb (by omega)
            have hzl := s7.length
            have hzs : ze.cells.size = sh.length := by rw [hzl]; simp
            obtain ⟨H', E'⟩ := Heap.arr (a := a) (fr := true) (sh := sh) (cur := madeCells ze.cells (m.toNat * ie.size)) (cap := m.toNat) (key := key) hs.heap f1 (by rw [Z.ak]; exact s2) s3 Z.wf (by rw [Z.len]; omega) (by simp [maxLen]; omega)
              (by rw [size_madeCells, s5]) (fun i j hi hj => by
                rw [Z.len] at hi
                obtain ⟨v, hv1, hv2⟩ := s7.getD hj
                refine ⟨v, ?_, CellV.zero (Z.zero i j hi hj) hv2⟩
                rw [madeCells_at hzs hj]
                · simpa using hv1
                · rw [s5]
                  calc i * sh.length + j < i * sh.length + sh.length := by omega
                    _ = (i + 1) * sh.length := by rw [Nat.add_mul, Nat.one_mul]
                    _ ≤ m.toNat * sh.length := Nat.mul_le_mul_right _ (by omega))
            have e3 : tAK (akOf a) = tAK e := by rw [Z.ak]
            rw [e3] at H' E'
            refine ⟨_, _, _, exec_of (s := Instr.makeSlice t (act.eval x) (act.eval y)) (by simp only [execOp, ho]) (by rw [a1, a2]; exact hr), H', E', _, by simp [find_cons]; rfl, fun fr a' ha => ?_⟩
            rw [Im.put_sv, Z.len]
          split at h4
          · rename_i u
            obtain ⟨te, hte, h5⟩ := onOpt_some h4
            split at h5
            · rename_i hal'
              obtain ⟨a, ha, h6⟩ := onOpt_some h5
              obtain ⟨i', z', z1, z2, z3, _⟩ := (hc u te hte).zero hal'
              refine main a (azero_ok (cx := cx) ha s2 fun t' ht' => ?_) h6
              cases ht'
              have q1 : P.info? u = some ie := s4
              rw [z1] at q1; cases q1
              rw [z2] at s6; cases s6
              exact ⟨_, z3, s7⟩
            · cases h5
          · rename_i hne
            obtain ⟨a, ha, h6⟩ := onOpt_some h4
            exact main a (azero_ok (cx := cx) ha s2 fun t' ht' => (hne t' ht').elim) h6
        · cases h4
      · cases h4
    · cases h4
  · cases h4
end
end PM

namespace PM
open Go

section
variable {P : Program} {cx : Cx} {o : Oper} {σ : S} {key : Nat} {Γ : Gam} {k : V → Obs → Obs → R} {r : V} {F : Fr} {ι : Im} {w : World} {objs : Obs}

/-- The block of an object that has become data is any data's. -/
theorem okOf_dead (H : Heap cx F ι objs w) {u : Obs} (hd : Dead u) {q : Nat} {ob : Ob} (hq : find objs q = some ob) (hl : live ob) (hu : find u q = some .dead) {b : Nat} (hb : ι.blk q = some b) :
    okOf w (u ++ objs) ι b := by
  refine ⟨(H.own q ob b hq hl hb).2, fun o' ob' ho' hl' hb' => ?_, H.gd b (H.own q ob b hq hl hb).1⟩
  obtain ⟨h1, h2⟩ := find_dead hd ho' hl'
  have := H.inj q o' ob ob' b hq h2 hl hl' hb hb'
  subst this
  rw [hu] at h1; cases h1

theorem ownsRow_cell {w : World} {e : TypeId} {size n : Nat} {v : Value} {xs : List Value} (h : w.ownsRow 0 e size v n xs) (hn : 0 < n) :
    ∃ g cap, v = .slice (some ⟨g, 0, none⟩) n cap ∧ n ≤ cap ∧ ∀ (j : Nat) u, xs[j]? = some u → w.cell? ⟨g, j, none⟩ = some u := by
  rcases h.2 with ⟨_, h2⟩ | ⟨g, cap, cur, h1, _, h3, h4, _, _, h7⟩
  · omega
  · refine ⟨g, cap, h1, h4, fun j u hu => ?_⟩
    rw [cell_of_cells h3]
    rw [← h7, List.getElem?_take] at hu
    split at hu
    · simpa using hu
    · cases hu

theorem own_unf {w : World} {e : TypeId} {sh n g : Nat} {v : Value} {xs : List Value} (h : w.ownsRow 0 e sh v n xs) (hg : v.ownBlock = some g) : Unf w g := by
  rcases h.2 with ⟨rfl, _⟩ | ⟨g', cap, cur, rfl, _, h3, _⟩
  · cases hg
  · cases hg
    exact ⟨_, _, h3⟩
/-- A value's cell as data: it may name what was an object. -/
theorem CellFor.cell (hc : CxOk P cx) (H : Heap cx F ι objs w) {u : Obs} (hd : Dead u) {kk : K} {v : V} {c : C} {x : Value} (h : CellFor cx objs kk v c) (hv : VC cx w (okOf w objs ι) objs ι v x)
    (hb : ∀ q, v = .sref q → find u q = some .dead) : CellV cx w (fun b => okOf w (u ++ objs) ι b ∧ (newCells objs [v] = true → FU F.fresh w b)) kk c x := by
  have E := (H.kill hd).2
  cases v <;> simp only [CellFor] at h <;> try exact h.elim
  case int i n =>
    obtain ⟨rfl, rfl⟩ := h
    have hv : x = .int i (asInt c) := hv
    subst hv; exact .int i c
  case bool b =>
    obtain ⟨rfl, rfl⟩ := h
    have hv : x = .bool (asBool c) := hv
    subst hv; exact .bool c
  case arr a =>
    obtain ⟨t, ty, rfl, h2, h3, h4⟩ := h
    obtain ⟨sh, m1, m2, m3⟩ := hv
    have mono : ∀ b, okOf w objs ι b → (okOf w (u ++ objs) ι b ∧ (newCells objs [V.arr a] = true → FU F.fresh w b)) ∧ w.heap[b]? = w.heap[b]? := fun b hb => ⟨⟨(E.okm b hb).1, fun hh => by simp [newCells] at hh⟩, rfl⟩
    rcases m3 with ⟨h0, base, cap, rfl⟩ | ⟨ad, cap, f, rfl, n2, n20, n3, n4, n5⟩
    · exact .emp t c base cap (by rw [h4, h0])
    · rw [← h4]
      have hsl : CellV cx w (okOf w objs ι) (.sl t) c (.slice (some ad) (asRows c).length cap) :=
        .sl t ty (akOf a) sh c ad cap f h2 h3 m1 n2 (by rw [h4]; exact n20) n3 (by rw [h4]; exact m2) (by rw [h4]; exact n4) (by rw [h4]; exact n5)
      exact hsl.mono mono
  case sref q =>
    obtain ⟨t, ty, fr, a, rfl, h2, h3, h4, h5⟩ := h
    obtain ⟨ob, m1, m2⟩ := hv
    rw [h3] at m1; cases m1
    have hx := m2 fr a rfl
    obtain ⟨sh, xs, p1, p2, p3, p4, p5, p6⟩ := H.obok q _ h3
    rw [← hx] at p4 p5
    have hq := hb q rfl
    by_cases hn : (rowsOf a).length = 0
    · have hnil := List.eq_nil_of_length_eq_zero hn
      rcases p4.2 with ⟨e1, _⟩ | ⟨g, cap, cur, e1, _⟩
      · rw [e1]; exact .emp t c none 0 (by rw [h5, hnil])
      · rw [e1, hn]; exact .emp t c _ cap (by rw [h5, hnil])
    · obtain ⟨g, cap, e1, e2, e3⟩ := ownsRow_cell p4 (by omega)
      have hbg : ι.blk q = some g := by rw [p5, e1]; rfl
      have okg := okOf_dead H hd h3 trivial hq hbg
      have frg : newCells objs [V.sref q] = true → F.fresh g ∧ fr = true := by
        intro hh
        simp only [newCells, h3] at hh
        cases fr with
        | true => exact ⟨H.fresh q a g h3 hbg, rfl⟩
        | false => simp at hh
      have hex : ∀ i j : Nat, ∃ cv : Value, ∀ (_ : i < (rowsOf a).length) (_ : j < sh.length), xs[i * sh.length + j]? = some cv ∧ CellV cx w (fun b => okOf w objs ι b ∧ (fr = true → FU F.fresh w b)) (sh.getD j .bool) (cOf (rowsOf a) i j) cv := by
        intro i j
        by_cases hi : i < (rowsOf a).length
        · by_cases hj : j < sh.length
          · obtain ⟨cv, c1, c2⟩ := p6 i j hi hj
            exact ⟨cv, fun _ _ => ⟨c1, c2⟩⟩
          · exact ⟨default, fun _ h => (hj h).elim⟩
        · exact ⟨default, fun h => (hi h).elim⟩
      have hf := fun i j => Classical.choose_spec (hex i j)
      obtain ⟨f, hf⟩ : ∃ f : Nat → Nat → Value, ∀ (i j : Nat) (_ : i < (rowsOf a).length) (_ : j < sh.length), xs[i * sh.length + j]? = some (f i j) ∧ CellV cx w (fun b => okOf w objs ι b ∧ (fr = true → FU F.fresh w b)) (sh.getD j .bool) (cOf (rowsOf a) i j) (f i j) := ⟨fun i j => Classical.choose (hex i j), hf⟩
      rw [e1, ← h5]
      refine .sl t ty (akOf a) sh c ⟨g, 0, none⟩ cap f h2 h4 p1 rfl (by rw [h5]; exact e2) ⟨okg, fun hh => ⟨(frg hh).1, own_unf p4 (by rw [e1]; rfl)⟩⟩ (by rw [h5]; exact p3) (fun i j hi hj => ?_) (fun i j hi hj => ?_)
      · rw [h5] at hi
        simp only [Nat.zero_add]
        exact e3 _ _ (hf i j hi hj).1
      · rw [h5] at hi ⊢
        exact (hf i j hi hj).2.mono fun b hb => ⟨⟨(E.okm b hb.1).1, fun hh => hb.2 (frg hh).2⟩, rfl⟩
end
end PM

namespace PM
open Go

/-! ## Bringing cells into an array: what they name is gone -/
theorem find_bury : ∀ {cs : List V} {q : Nat}, (V.sref q ∈ cs → find (bury cs) q = some .dead) ∧ ∀ x, find (bury cs) q = some x → x = .dead ∧ V.sref q ∈ cs
  | [], q => ⟨fun h => (by cases h), fun x h => by simp [bury, find_nil] at h⟩
  | v :: cs, q => by
    have ih := find_bury (cs := cs) (q := q)
    cases v
    case sref p =>
      simp only [bury, find_cons]
      by_cases e : p = q
      · subst e; simp
      · simp only [e, if_false]
        refine ⟨fun h => ih.1 ?_, fun x h => ⟨(ih.2 x h).1, List.mem_cons.2 (.inr (ih.2 x h).2)⟩⟩
        rcases List.mem_cons.1 h with h | h
        · cases h; exact (e rfl).elim
        · exact h
    all_goals
      simp only [bury]
      refine ⟨fun h => ih.1 ?_, fun x h => ⟨(ih.2 x h).1, List.mem_cons.2 (.inr (ih.2 x h).2)⟩⟩
      rcases List.mem_cons.1 h with h | h
      · cases h
      · exact h
theorem dead_bury (cs : List V) : Dead (bury cs) := fun o ob h => ((find_bury (cs := cs) (q := o)).2 ob h).1
theorem find_buryAll : ∀ {es : List (List V)} {q : Nat}, (∀ e ∈ es, V.sref q ∈ e → find (buryAll es) q = some .dead) ∧ ∀ x, find (buryAll es) q = some x → x = .dead ∧ ∃ e ∈ es, V.sref q ∈ e
  | [], q => ⟨fun e h => (by cases h), fun x h => by simp [buryAll, find_nil] at h⟩
  | e :: es, q => by
    have ih := find_buryAll (es := es) (q := q)
    have ie := find_bury (cs := e) (q := q)
    simp only [buryAll]
    constructor
    · intro e' he' hq
      rw [find_append]
      cases hb : find (bury e) q with
      | some x => rw [(ie.2 x hb).1]; rfl
      | none =>
        rcases List.mem_cons.1 he' with rfl | h
        · rw [ie.1 hq] at hb; cases hb
        · simpa using ih.1 e' h hq
    · intro x hx
      rw [find_append] at hx
      cases hb : find (bury e) q with
      | some y =>
        rw [hb] at hx; simp at hx; subst hx
        exact ⟨(ie.2 y hb).1, e, by simp, (ie.2 y hb).2⟩
      | none =>
        rw [hb] at hx
        obtain ⟨h1, e', h2, h3⟩ := ih.2 x (by simpa using hx)
        exact ⟨h1, e', List.mem_cons.2 (.inr h2), h3⟩
theorem dead_buryAll (es : List (List V)) : Dead (buryAll es) := fun o ob h => ((find_buryAll (es := es) (q := o)).2 ob h).1

theorem newCells_ag {objs objs' : Obs} : ∀ {cs : List V}, (∀ q, V.sref q ∈ cs → find objs' q = find objs q) → newCells objs' cs = newCells objs cs
  | [], _ => rfl
  | v :: cs, ha => by
    have ih := newCells_ag (cs := cs) (fun q hq => ha q (List.mem_cons.2 (.inr hq)))
    cases v <;> simp only [newCells, ih]
    case sref q => rw [ha q (by simp)]
theorem newRows_ag {objs objs' : Obs} : ∀ {es : List (List V)}, (∀ e ∈ es, ∀ q, V.sref q ∈ e → find objs' q = find objs q) → newRows objs' es = newRows objs es
  | [], _ => rfl
  | e :: es, ha => by
    simp only [newRows, newCells_ag (ha e (by simp)), newRows_ag (es := es) fun e' h => ha e' (List.mem_cons.2 (.inr h))]
theorem newCells_one {objs : Obs} : ∀ {cs : List V}, newCells objs cs = true → ∀ v ∈ cs, newCells objs [v] = true
  | [], _, v, hv => by cases hv
  | u :: cs, h, v, hv => by
    have : newCells objs [u] = true ∧ newCells objs cs = true := by
      cases u <;> simp only [newCells] at h ⊢ <;> try exact ⟨trivial, h⟩
      case sref q =>
        split at h
        · exact ⟨by simp, h⟩
        · cases h
      case arr => cases h
    rcases List.mem_cons.1 hv with rfl | hv
    · exact this.1
    · exact newCells_one this.2 v hv
theorem newRows_one {objs : Obs} : ∀ {es : List (List V)}, newRows objs es = true → ∀ e ∈ es, newCells objs e = true
  | [], _, e, he => by cases he
  | u :: es, h, e, he => by
    simp only [newRows] at h
    split at h
    · rename_i hu
      rcases List.mem_cons.1 he with rfl | he
      · exact hu
      · exact newRows_one h e he
    · cases h

section
variable {P : Program} {cx : Cx} {o : Oper} {σ : S} {key : Nat} {Γ : Gam} {k : V → Obs → Obs → R} {r : V} {F : Fr} {ι : Im} {w : World} {objs objs' : Obs}

theorem alistRows_ag {sh : List PM.K} : ∀ {es : List (List V)}, (∀ e ∈ es, ∀ q, V.sref q ∈ e → find objs' q = find objs q) → alist.rows std cx objs' sh es = alist.rows std cx objs sh es
  | [], _ => rfl
  | e :: es, ha => by
    simp only [alist.rows, kindsOk_ag (ks := sh) (ha e (by simp)), toCs_ag (ha e (by simp)), alistRows_ag (es := es) fun e' h => ha e' (List.mem_cons.2 (.inr h))]
theorem alist_ag {e : AK} {es : List (List V)} (h : ∀ e ∈ es, ∀ q, V.sref q ∈ e → find objs' q = find objs q) : alist std cx objs' e es = alist std cx objs e es := by
  cases e <;> simp only [alist]
  rw [show alist.rows std cx objs' = fun sh es => alist.rows std cx objs' sh es from rfl]
  simp only [alistRows_ag h]

theorem seg_get {α : Type} {l xs : List α} {n : Nat} (h : n + xs.length ≤ l.length) (i : Nat) :
    (seg l n xs)[i]? = if i < n then l[i]? else if i < n + xs.length then xs[i - n]? else l[i]? := by
  have hl : (l.take n).length = n := by simp; omega
  unfold seg
  by_cases h1 : i < n
  · rw [if_pos h1, List.append_assoc, List.getElem?_append_left (by omega), List.getElem?_take, if_pos h1]
  · rw [if_neg h1]
    by_cases h2 : i < n + xs.length
    · rw [if_pos h2, List.getElem?_append_left (by simp; omega), List.getElem?_append_right (by omega), hl]
    · rw [if_neg h2, List.getElem?_append_right (by simp; omega)]
      simp only [List.length_append, hl, List.getElem?_drop]
      congr 1; omega

/-- The elements of a literal, row by row. -/
theorem fill_rows {s : Nat} : ∀ {ps : List (Nat × Value)} {z : Array Value} {base N : Nat}, z.size = N * s → base + ps.length ≤ N → (∀ i p, ps[i]? = some p → p.1 = base + i ∧ p.2.cells.size = s) →
    ∃ l, Instr.fill (fun i => some (i * s, s)) z ps = some l ∧ l.size = z.size ∧ (∀ i p j, ps[i]? = some p → j < s → l[(base + i) * s + j]? = p.2.cells[j]?) ∧ ∀ q, q < base * s → l[q]? = z[q]?
  | [], z, base, N, _, _, _ => ⟨z, rfl, rfl, fun i p j h => by simp at h, fun _ _ => rfl⟩
  | (f, v) :: ps, z, base, N, hz, hN, hp => by
    obtain ⟨h1, h2⟩ := hp 0 (f, v) rfl
    simp only [Nat.add_zero] at h1 h2
    subst h1
    have hb : f * s + v.cells.size ≤ z.size := by
      rw [hz, h2]
      calc f * s + s = (f + 1) * s := by rw [Nat.add_mul, Nat.one_mul]
        _ ≤ N * s := Nat.mul_le_mul_right _ (by simp at hN; omega)
    have hb' : f * s + v.cells.toList.length ≤ z.toList.length := by simpa using hb
    have hz' : (seg z.toList (f * s) v.cells.toList).toArray.size = z.size := by simp only [List.size_toArray, seg_length hb', Array.length_toList]
    obtain ⟨l, q1, q2, q3, q4⟩ := fill_rows (ps := ps) (z := (seg z.toList (f * s) v.cells.toList).toArray) (base := f + 1) (N := N) (by rw [hz', hz]) (by simp at hN; omega)
      (fun i p hi => by
        obtain ⟨g1, g2⟩ := hp (i + 1) p (by simpa using hi)
        exact ⟨by omega, g2⟩)
    have hseg : ∀ i, (seg z.toList (f * s) v.cells.toList).toArray[i]? = if i < f * s then z[i]? else if i < f * s + s then v.cells[i - f * s]? else z[i]? := by
      intro i
      have := seg_get hb' i
      simpa [h2] using this
    refine ⟨l, ?_, q2.trans hz', fun i p j hi hj => ?_, fun q hq => ?_⟩
    · simp only [Instr.fill]
      rw [if_neg (by rw [h2] at hb; simp [h2]; omega), fold_set' (f * s) v.cells z hb]
      exact q1
    · cases i with
      | zero =>
        simp at hi; subst hi
        rw [Nat.add_zero, q4 _ (by rw [Nat.add_mul, Nat.one_mul]; omega), hseg, if_neg (by omega), if_pos (by omega)]
        congr 1; omega
      | succ i =>
        rw [show f + (i + 1) = f + 1 + i by omega]
        exact q3 i p j (by simpa using hi) hj
    · rw [q4 q (by rw [Nat.add_mul, Nat.one_mul]; omega), hseg, if_pos hq]

theorem run_buildSlice {t e : TypeId} {n : Nat} {ie : TypeInfo} {ze : Value} {parts : Array (Nat × Value)} {cells : Array Value} (ht : P.underlying t = some (.slice e)) (hi : P.info? e = some ie) (hz : ie.zero = some ze)
    (hb : n * ie.size ≤ 2 ^ 24) (hf : ∀ z : Array Value, z.size = n * ie.size → Instr.fill (fun i => some (i * ie.size, ie.size)) z parts.toList = some cells) (w : World) :
    (Instr.buildSlice t n parts).run P w = .ok (.slice (some ⟨w.heap.size, 0, none⟩) n n) (w.alloc (.cells cells e)) := by
  have h1 : ¬ (n * ie.size > 2 ^ 24) := by omega
  have hzr := zero_run (P := P) hi hz w
  by_cases h0 : n * ie.size = 0
  · have := hf ((Array.range (n * ie.size)).map (fun i => (#[] : Array Value)[i % 0]!)) (by simp)
    simp [Instr.buildSlice, run_underlying ht, Go.sizeOf, typeInfo, hi, h0, newRow] at this ⊢
    simp [this]
  · have := hf ((Array.range (n * ie.size)).map (fun i => ze.cells[i % ze.cells.size]!)) (by simp)
    simp only [Instr.buildSlice, Sem.run_bind, run_underlying ht, Result.andThen_ok, Go.sizeOf, typeInfo, run_program, hi, Sem.run_pure, h1, h0, if_false, hzr, this, newRow, run_newObj_alloc]
end
end PM

namespace PM
open Go

section
variable {P : Program} {cx : Cx} {o : Oper} {σ : S} {key : Nat} {Γ : Gam} {k : V → Obs → Obs → R} {r : V} {F : Fr} {ι : Im} {w : World} {objs objs' : Obs}

theorem inOrder_ok : ∀ {vs : List (Nat × V)} {n : Nat} {es : List (List V)}, inOrder n vs = some es →
    es.length = vs.length ∧ (∀ i p, vs[i]? = some p → p.1 = n + i ∧ es[i]? = some (cellsOf p.2)) ∧ ∀ e ∈ es, ∃ f v, (f, v) ∈ vs ∧ e = cellsOf v
  | [], n, es, h => by simp [inOrder] at h; subst h; exact ⟨rfl, fun i p h => by simp at h, fun e h => (by cases h)⟩
  | (f, v) :: vs, n, es, h => by
    simp only [inOrder] at h
    split at h
    · cases h
    · rename_i hf
      split at h
      · rename_i r hr
        simp at h; subst h
        have hf := Nat.eq_of_beq_eq_true hf
        obtain ⟨h1, h2, h3⟩ := inOrder_ok hr
        refine ⟨by simp [h1], fun i p hi => ?_, fun e he => ?_⟩
        · cases i with
          | zero => simp at hi; subst hi; exact ⟨by omega, by simp⟩
          | succ i =>
            obtain ⟨g1, g2⟩ := h2 i p (by simpa using hi)
            exact ⟨by omega, by simpa using g2⟩
        · rcases List.mem_cons.1 he with rfl | he
          · exact ⟨f, v, by simp, rfl⟩
          · obtain ⟨f', v', m, e⟩ := h3 e he
            exact ⟨f', v', List.mem_cons.2 (.inr m), e⟩
      · cases h

theorem cellFor_live {kk : K} {v : V} {c : C} (h : CellFor cx objs kk v c) : liveCells objs [v] = true := by
  cases v <;> simp only [CellFor] at h <;> try exact h.elim
  case sref q => obtain ⟨_, _, _, _, _, _, h, _⟩ := h; simp [liveCells, h]
  all_goals rfl
theorem liveCells_all : ∀ {cs : List V}, (∀ v ∈ cs, liveCells objs [v] = true) → liveCells objs cs = true
  | [], _ => rfl
  | v :: cs, h => by
    have h1 := h v (by simp)
    have ih := liveCells_all (cs := cs) fun u hu => h u (List.mem_cons.2 (.inr hu))
    cases v <;> simp only [liveCells] at h1 ⊢ <;> try exact ih
    case sref q =>
      split at h1
      · exact ih
      · cases h1
    all_goals exact h1

theorem exec_buildSlice {ρ : Operand → Value} {t : TypeId} {n : Nat} {ps : Array (Nat × Operand)} {w w' : World} {u : Value} (ho : o.op = .buildSlice t n ps)
    (hs : (Instr.buildSlice t n (ps.map fun (i, x) => (i, ρ x))).run P w = .ok u w') : (execOp ρ o).run P w = .ok (.value u) w' :=
  exec_of (by simp only [execOp, ho]) hs

set_option maxHeartbeats 1000000 in
theorem pop_buildSlice (hc : CxOk P cx) {t : TypeId} {n : Nat} {ps : Array (Nat × Operand)} (ho : o.op = .buildSlice t n ps) (h : pop std cx Γ key o σ k = some r) : Sound P cx o σ k r := by
  simp only [pop, ho] at h
  obtain ⟨ty, hty, h1⟩ := onOpt_some h
  have hT := hc t ty hty
  split at h1
  · cases h1
  rename_i hal
  obtain ⟨e, he, h2⟩ := onOpt_some h1
  obtain ⟨vs, h3, g⟩ := evps_sound (cx := cx) h2
  obtain ⟨es, hes, h4⟩ := onOpt_some h3
  split at h4
  · rename_i hn hle hsz
    have hn := Nat.eq_of_beq_eq_true hn
    have hle := Nat.le_of_ble_eq_true hle
    have hsz := Nat.le_of_ble_eq_true hsz
    obtain ⟨a, ha, h5⟩ := onOpt_some h4
    obtain ⟨sh, ie, ze, s1, s2, s3, s4, s5, s6, s7, s8, s9⟩ := hT.slice hal e he
    obtain ⟨i1, i2, i3⟩ := inOrder_ok hes
    have L0 := alist_ok ha s2
    refine ⟨_, _, _, h5, fun τ ag F ι act w hs hf => .inl ?_⟩
    obtain ⟨f1, _, _⟩ := fresh_cons hf
    obtain ⟨g1, g2⟩ := g τ (fun x hx => ag x (by simp [ho, Op.operands] at hx ⊢; exact hx))
    have g2 := g2 F ι act w hs
    have agr : ∀ el ∈ es, ∀ q, V.sref q ∈ el → find τ.objs q = find σ.objs q := by
      intro el hel q hq
      obtain ⟨f, v, hm, rfl⟩ := i3 el hel
      exact g1 f v hm q (mem_refs_cells hq)
    rw [← alist_ag agr] at ha
    have L := alist_ok ha s2
    have hd := dead_buryAll es
    obtain ⟨HK, EK⟩ := hs.heap.kill hd
    have hlen2 := g2.length
    have hvl : vs.length = n := by rw [← i1]; exact hn
    have hpl : ps.toList.length = n := by rw [← hvl, hlen2]; simp
    -- each part's cells
    have parts : ∀ (i : Nat) (p : Nat × Value), (ps.toList.map fun (i, x) => (i, act.eval x))[i]? = some p → ∃ el, es[i]? = some el ∧ p.1 = i ∧ p.2.cells.size = sh.length ∧ All2 (VC cx w (okOf w τ.objs ι) τ.objs ι) el p.2.cells.toList := by
      intro i p hp
      have hi : i < vs.length := by
        have := (List.getElem?_eq_some_iff.1 hp).1
        rw [hlen2]; exact this
      obtain ⟨p', hp', h1, h2⟩ := g2.get i vs[i] (by simp [hi])
      rw [hp] at hp'; cases hp'
      obtain ⟨j1, j2⟩ := i2 i vs[i] (by simp [hi])
      obtain ⟨r1, r2⟩ := L.row i _ j2
      have hlive : liveCells τ.objs (cellsOf vs[i].2) = true := by
        refine liveCells_all fun v hv => ?_
        obtain ⟨j, hj, e⟩ := List.getElem_of_mem hv
        exact cellFor_live (r2 j v (by rw [← e]; simp [hj]))
      obtain ⟨c1, c2⟩ := cellsOf_ok hs.heap hlive h2
      have := c1.length
      exact ⟨_, j2, by rw [← h1, j1]; omega, by rw [r1] at this; simpa using this.symm, c1⟩
    have hfill : ∀ z : Array Value, z.size = n * ie.size → ∃ l, Instr.fill (fun i => some (i * ie.size, ie.size)) z (ps.toList.map fun (i, x) => (i, act.eval x)) = some l ∧ l.size = z.size ∧
        ∀ (i : Nat) (p : Nat × Value) (j : Nat), (ps.toList.map fun (i, x) => (i, act.eval x))[i]? = some p → j < ie.size → l[i * ie.size + j]? = p.2.cells[j]? := by
      intro z hz
      obtain ⟨l, q1, q2, q3, _⟩ := fill_rows (s := ie.size) (ps := ps.toList.map fun (i, x) => (i, act.eval x)) (z := z) (base := 0) (N := n) hz (by simp; simpa using Nat.le_of_eq hpl) (fun i p hp => by
        obtain ⟨el, _, h1, h2, _⟩ := parts i p hp
        exact ⟨by omega, by rw [s5]; exact h2⟩)
      exact ⟨l, q1, q2, fun i p j hp hj => by have := q3 i p j hp hj; rwa [Nat.zero_add] at this⟩
    have hdet : ∀ (z z' : Array Value) l l', z.size = n * ie.size → z'.size = n * ie.size → Instr.fill (fun i => some (i * ie.size, ie.size)) z (ps.toList.map fun (i, x) => (i, act.eval x)) = some l →
        Instr.fill (fun i => some (i * ie.size, ie.size)) z' (ps.toList.map fun (i, x) => (i, act.eval x)) = some l' → l = l' := by
      intro z z' l l' hz hz' hl hl'
      obtain ⟨m, q1, q2, q3⟩ := hfill z hz
      obtain ⟨m', q1', q2', q3'⟩ := hfill z' hz'
      rw [hl] at q1; cases q1
      rw [hl'] at q1'; cases q1'
      apply Array.ext
      · rw [q2, q2', hz, hz']
      · intro q hq hq'
        have hs0 : 0 < ie.size := by omega
        have hqn : q < n * ie.size := by rw [← hz, ← q2]; exact hq
        have hdiv : q / ie.size < n := (Nat.div_lt_iff_lt_mul hs0).2 hqn
        have hi : q / ie.size < (ps.toList.map fun (i, x) => (i, act.eval x)).length := by rw [List.length_map, hpl]; exact hdiv
        have e1 := q3 (q / ie.size) _ (q % ie.size) (List.getElem?_eq_getElem hi) (Nat.mod_lt _ hs0)
        have e2 := q3' (q / ie.size) _ (q % ie.size) (List.getElem?_eq_getElem hi) (Nat.mod_lt _ hs0)
        have e3 : q / ie.size * ie.size + q % ie.size = q := by rw [Nat.mul_comm]; exact Nat.div_add_mod q ie.size
        rw [e3] at e1 e2
        have := e1.trans e2.symm
        rw [Array.getElem?_eq_getElem hq, Array.getElem?_eq_getElem hq'] at this
        exact Option.some.inj this
    obtain ⟨l, l1, l2, l3⟩ := hfill (Array.replicate (n * ie.size) default) (by simp)
    have hl2 : l.size = n * ie.size := by rw [l2]; simp
    have hr := run_buildSlice (P := P) (t := t) (n := n) (parts := ps.map fun (i, x) => (i, act.eval x)) (cells := l) s1 s4 s6
      (by rw [s5, ← s9]; calc n * ty.esize ≤ 4096 * 4096 := Nat.mul_le_mul hle hsz
            _ ≤ 2 ^ 24 := by decide)
      (fun z hz => by
        obtain ⟨m, q1, _⟩ := hfill z hz
        rw [Array.toList_map, q1, hdet z _ m l hz (by simp) q1 l1]) w
    have hkey : find (buryAll es ++ τ.objs) key = none := by
      rw [find_append]
      cases hb : find (buryAll es) key with
      | none => simpa using f1
      | some x =>
        exfalso
        obtain ⟨_, el, hel, hq⟩ := (find_buryAll (es := es) (q := key)).2 x hb
        obtain ⟨i, hi, e0⟩ := List.getElem_of_mem hel
        obtain ⟨r1, r2⟩ := L.row i el (by rw [← e0]; simp [hi])
        obtain ⟨j, hj, e1⟩ := List.getElem_of_mem hq
        obtain ⟨_, _, _, _, _, _, h3, _⟩ := r2 j (V.sref key) (by rw [← e1]; simp [hj])
        rw [f1] at h3; cases h3
    have hnewr : newRows τ.objs es = newRows σ.objs es := newRows_ag agr
    obtain ⟨H', E'⟩ := Heap.arr (a := a) (fr := newRows σ.objs es) (sh := sh) (cur := l) (cap := n) (key := key) HK hkey (by rw [L.ak]; exact s2) s3 L.wf (by rw [L.len, hn]; exact Nat.le_refl _) (by simp [maxLen]; omega) (by rw [hl2, s5])
      (fun i j hi hj => by
        rw [L.len, hn] at hi
        have hi' : i < (ps.toList.map fun (i, x) => (i, act.eval x)).length := by rw [List.length_map, hpl]; exact hi
        obtain ⟨el, p1, p2, p3, p4⟩ := parts i _ (List.getElem?_eq_getElem hi')
        obtain ⟨r1, r2⟩ := L.row i el p1
        have hj' : j < el.length := by omega
        obtain ⟨cv, c1, c2⟩ := p4.get j el[j] (by simp [hj'])
        refine ⟨cv, ?_, ?_⟩
        · have := l3 i _ j (List.getElem?_eq_getElem hi') (by omega)
          rw [s5] at this
          rw [this]; simpa using c1
        · have cf := r2 j el[j] (by simp [hj'])
          have hel : el ∈ es := List.mem_of_getElem? p1
          refine (cf.cell hc hs.heap hd c2 (fun q hq => (find_buryAll (es := es) (q := q)).1 el hel (by rw [← hq]; simp))).mono fun b hb => ⟨⟨hb.1, fun hh => hb.2 ?_⟩, rfl⟩
          rw [← hnewr] at hh
          exact newCells_one (newRows_one hh el hel) _ (by simp))
    have e3 : tAK (akOf a) = tAK e := by rw [L.ak]
    rw [e3] at H' E'
    have hsame : ∀ q, find (buryAll es ++ ([(key, Ob.arr (newRows σ.objs es) a)] ++ τ.objs)) q = find ((key, Ob.arr (newRows σ.objs es) a) :: (buryAll es ++ τ.objs)) q := by
      intro q
      rw [find_append, find_append, find_cons, find_nil, find_cons, find_append]
      by_cases e : key = q
      · subst e
        rw [find_append] at hkey
        cases hb : find (buryAll es) key with
        | none => simp
        | some x => rw [hb] at hkey; simp at hkey
      · simp [e]
    have hk : find (buryAll es ++ ([(key, Ob.arr (newRows σ.objs es) a)] ++ τ.objs)) key = some (Ob.arr (newRows σ.objs es) a) := (hsame key).trans (by rw [find_cons, if_pos rfl])
    have hx := exec_buildSlice (P := P) (w := w) (o := o) (ρ := act.eval) ho hr
    refine ⟨_, _, _, hx, H'.same hsame, (EK.trans E').trans (Ext.same hsame), ?_⟩
    refine ⟨_, hk, fun fr a' ha' => ?_⟩
    rw [Im.put_sv, L.len, hn]
  · cases h4
end
end PM

namespace PM
open Go

/-- One object changes, or takes another's place: in the row of the old object, or in new memory. -/
theorem Heap.change {cx : Cx} {F : Fr} {ι ι' : Im} {objs d : Obs} {w w' : World} {κ : Nat} {ob' : Ob} {row : Option Nat} (H : Heap cx F ι objs w) (hgd : ι'.gd = ι.gd) (hd : Dead d) (hdk : find d κ = none)
    (hrow : ∀ b, row = some b → ∃ o ob, find objs o = some ob ∧ live ob ∧ ι.blk o = some b ∧ (o = κ ∨ find d o = some .dead))
    (hι : ∀ o ob, find objs o = some ob → o ≠ κ → ι'.blk o = ι.blk o ∧ ι'.sv o = ι.sv o)
    (hk : ∀ ob, find objs κ = some ob → Keeps ι ι' κ ob ob')
    (hb : ∀ b, ι'.blk κ = some b → b < w'.heap.size ∧ (row = some b ∨ w.heap.size ≤ b))
    (hsz : w.heap.size ≤ w'.heap.size) (hos : w'.os = w.os) (htp : w'.tape = w.tape) (hou : w'.output = w.output)
    (hw : ∀ b, b < w.heap.size → row ≠ some b → w'.heap[b]? = w.heap[b]?)
    (hfr : ∀ a b, ob' = .arr true a → ι'.blk κ = some b → F.fresh b)
    (hob : Ext ι objs w ι' ((κ, ob') :: (d ++ objs)) w' → ObOK cx w' (okOf w' ((κ, ob') :: (d ++ objs)) ι') ((κ, ob') :: (d ++ objs)) ι' F.fresh κ ob') :
    Heap cx F ι' ((κ, ob') :: (d ++ objs)) w' ∧ Ext ι objs w ι' ((κ, ob') :: (d ++ objs)) w' := by
  have hf : ∀ o ob, find ((κ, ob') :: (d ++ objs)) o = some ob → (o = κ ∧ ob = ob') ∨ (o ≠ κ ∧ find (d ++ objs) o = some ob) := by
    intro o ob h
    rw [find_cons] at h
    split at h
    · rename_i e; exact .inl ⟨e.symm, by simpa using h.symm⟩
    · rename_i e; exact .inr ⟨fun e' => e e'.symm, h⟩
  have hnr : ∀ b, okOf w objs ι b → row ≠ some b := by
    intro b hok hr
    obtain ⟨o, ob, h1, h2, h3, _⟩ := hrow b hr
    exact hok.2.1 o ob h1 h2 h3
  have hext : Ext ι objs w ι' ((κ, ob') :: (d ++ objs)) w' := by
    refine ⟨fun b hok => ⟨⟨Nat.lt_of_lt_of_le hok.1 hsz, fun o ob ho hl hbk => ?_, by rw [hgd]; exact hok.2.2⟩, hw b hok.1 (hnr b hok)⟩, fun o ob ho => ?_⟩
    · rcases hf o ob ho with ⟨rfl, rfl⟩ | ⟨hne, h⟩
      · rcases (hb b hbk).2 with hr | hr
        · exact hnr b hok hr
        · have := hok.1; omega
      · obtain ⟨_, h2⟩ := find_dead hd h hl
        rw [(hι o ob h2 hne).1] at hbk
        exact hok.2.1 o ob h2 hl hbk
    · by_cases e : o = κ
      · subst e
        exact ⟨ob', by rw [find_cons, if_pos rfl], hk ob ho⟩
      · have e1 : find ((κ, ob') :: (d ++ objs)) o = find (d ++ objs) o := by rw [find_cons, if_neg fun e' => e e'.symm]
        cases hu : find d o with
        | some x => exact ⟨x, by rw [e1, find_append, hu]; rfl, by rw [hd o x hu]; trivial⟩
        | none =>
          refine ⟨ob, by rw [e1, find_append, hu]; simpa using ho, ?_⟩
          have := hι o ob ho e
          cases ob with
          | box cs => exact ⟨⟨cs, rfl⟩, this.1⟩
          | arr fr a => exact ⟨fr, a, rfl, this.2, rfl, rfl⟩
          | dead => trivial
  refine ⟨⟨fun o ob ho => ?_, fun o o' ob ob1 b ho ho' hl hl' h1 h2 => ?_, fun o ob b ho hl h1 => ?_, Nat.le_trans H.size hsz, hos.trans H.os, htp.trans H.tape, hou.trans H.output, fun b hb0 hn => ?_, fun o a b ho h1 => ?_, fun b hb => by rw [hgd]; exact H.gd b hb, hgd.trans H.gdF⟩, hext⟩
  · rcases hf o ob ho with ⟨rfl, rfl⟩ | ⟨hne, h⟩
    · exact hob hext
    · by_cases hl : live ob
      · obtain ⟨h3, h4⟩ := find_dead hd h hl
        refine ObOK.ext hext (hι o ob h4 hne).1 (hι o ob h4 hne).2 (fun b hbk => hw b (H.own o ob b h4 hl hbk).2 fun hr => ?_) (H.obok o ob h4)
        obtain ⟨o2, ob2, g1, g2, g3, g4⟩ := hrow b hr
        have := H.inj o o2 ob ob2 b h4 g1 hl g2 hbk g3
        subst this
        rcases g4 with g4 | g4
        · exact hne g4
        · rw [h3] at g4; cases g4
      · cases ob with
        | dead => trivial
        | box cs => exact (hl trivial).elim
        | arr fr a => exact (hl trivial).elim
  · have cross : ∀ o ob, find (d ++ objs) o = some ob → live ob → o ≠ κ → ι'.blk o = some b → ι'.blk κ = some b → False := by
      intro o ob h hl hne h1 h2
      obtain ⟨h3, h4⟩ := find_dead hd h hl
      rw [(hι o ob h4 hne).1] at h1
      rcases (hb b h2).2 with hr | hr
      · obtain ⟨o2, ob2, g1, g2, g3, g4⟩ := hrow b hr
        have := H.inj o o2 ob ob2 b h4 g1 hl g2 h1 g3
        subst this
        rcases g4 with g4 | g4
        · exact hne g4
        · rw [h3] at g4; cases g4
      · have := (H.own o ob b h4 hl h1).2; omega
    rcases hf o ob ho with ⟨rfl, rfl⟩ | ⟨hne, h⟩ <;> rcases hf o' ob1 ho' with ⟨rfl, rfl⟩ | ⟨hne', h'⟩
    · rfl
    · exact (cross o' ob1 h' hl' hne' h2 h1).elim
    · exact (cross o ob h hl hne h1 h2).elim
    · obtain ⟨_, h4⟩ := find_dead hd h hl
      obtain ⟨_, h4'⟩ := find_dead hd h' hl'
      rw [(hι o ob h4 hne).1] at h1
      rw [(hι o' ob1 h4' hne').1] at h2
      exact H.inj o o' ob ob1 b h4 h4' hl hl' h1 h2
  · rcases hf o ob ho with ⟨rfl, rfl⟩ | ⟨hne, h⟩
    · obtain ⟨g1, g2⟩ := hb b h1
      refine ⟨?_, g1⟩
      rcases g2 with hr | hr
      · obtain ⟨o2, ob2, k1, k2, k3, _⟩ := hrow b hr
        exact (H.own o2 ob2 b k1 k2 k3).1
      · exact (F.new b (Nat.le_trans H.size hr)).1
    · obtain ⟨_, h4⟩ := find_dead hd h hl
      rw [(hι o ob h4 hne).1] at h1
      obtain ⟨g1, g2⟩ := H.own o ob b h4 hl h1
      exact ⟨g1, Nat.lt_of_lt_of_le g2 hsz⟩
  · rw [hw b (Nat.lt_of_lt_of_le hb0 H.size) fun hr => ?_]
    · exact H.keep b hb0 hn
    · obtain ⟨o2, ob2, k1, k2, k3, _⟩ := hrow b hr
      exact hn (H.own o2 ob2 b k1 k2 k3).1
  · rcases hf o _ ho with ⟨rfl, e⟩ | ⟨hne, h⟩
    · exact hfr a b e.symm h1
    · obtain ⟨_, h4⟩ := find_dead hd h trivial
      rw [(hι o _ h4 hne).1] at h1
      exact H.fresh o a b h4 h1
end PM

namespace PM
open Go

section
variable {P : Program} {cx : Cx} {o : Oper} {σ : S} {key : Nat} {Γ : Gam} {k : V → Obs → Obs → R} {r : V} {F : Fr} {ι : Im} {w : World} {objs objs' : Obs}

def frOf (fr b : Bool) : Bool := match fr with | true => b | false => false
theorem aset_ag {a : Arr} {i : Int} {off : Nat} {vs : List V} (h : ∀ q, V.sref q ∈ vs → find objs' q = find objs q) : aset std cx objs' a i off vs = aset std cx objs a i off vs := by
  cases a with
  | ints t k l => rcases off with _ | off <;> rcases vs with _ | ⟨v, _ | ⟨v2, vs⟩⟩ <;> (try cases v) <;> rfl
  | bools t l => rcases off with _ | off <;> rcases vs with _ | ⟨v, _ | ⟨v2, vs⟩⟩ <;> (try cases v) <;> rfl
  | vecs t n l => rcases off with _ | off <;> rcases vs with _ | ⟨v, _ | ⟨v2, vs⟩⟩ <;> (try cases v) <;> rfl
  | rows t l =>
    simp only [aset]
    cases hs : shapeOf cx t with
    | none => rfl
    | some sh =>
      simp only [kindsOk_ag (ks := dropN off sh) h, toCs_ag h]

theorem run_storeAt {t : TypeId} {i : TypeInfo} {b p : Nat} {v : Value} {cur : Array Value} {T : TypeId} {w : World} (hi : P.info? t = some i) (hs : v.cells.size = i.size) (hg : w.heap[b]? = some (.cells cur T (0, 0)))
    (hl : p + v.cells.toList.length ≤ cur.size) (h1 : ∀ u ∈ v.cells.toList, u.oneCell' = true) :
    (Instr.storeAt t (.pointer (some ⟨b, p, none⟩)) v).run P w = .ok () (w.setRow b (seg cur.toList p v.cells.toList).toArray) := by
  have := run_storeCells_at P b p T v.cells.toList 0 cur w hg (by simpa using hl) h1
  simp [Instr.storeAt, Instr.sureAddr, storeVar, Go.sizeOf, typeInfo, hi, hs, this, seg]

theorem exec_store {ρ : Operand → Value} {t : TypeId} {x y : Operand} {w w' : World} (ho : o.op = .store t x y) (hs : (Instr.storeAt t (ρ x) (ρ y)).run P w = .ok () w') :
    (execOp ρ o).run P w = .ok .skip w' := by
  simp [execOp, ho, hs]

theorem setRow_size (w : World) (b : Nat) (c : Array Value) : (w.setRow b c).heap.size = w.heap.size := by
  simp [World.setRow]

theorem pop_store (hc : CxOk P cx) {t : TypeId} {x y : Operand} (ho : o.op = .store t x y) (h : pop std cx Γ key o σ k = some r) : Sound P cx o σ k r := by
  simp only [pop, ho] at h
  obtain ⟨p, h1, h2⟩ := ev0_sound (cx := cx) h
  obtain ⟨v, n, h3, h4⟩ := ev_sound hc h1
  obtain ⟨ty, hty, h5⟩ := onOpt_some h3
  obtain ⟨ti, hti, htis⟩ := (hc t ty hty).info
  split at h5
  case h_2 => cases h5
  rename_i hlen
  have hlen := Nat.eq_of_beq_eq_true hlen
  have mx : x ∈ o.op.operands.toList := by simp [ho, Op.operands]
  have my : y ∈ o.op.operands.toList := by simp [ho, Op.operands]
  have agn : ∀ τ, Ag o.op.operands.toList σ τ → ∀ q, V.sref q ∈ cellsOf v → find (n ++ τ.objs) q = find (n ++ σ.objs) q := by
    intro τ ag q hq
    rw [find_append, find_append]
    cases hn : find n q with
    | some y => rfl
    | none => simpa using (h4 τ (ag y my)).1 q (mem_refs_cells hq) hn
  cases p <;> simp only [storeV] at h5 <;> try (cases h5; done)
  case pbox ob off =>
    split at h5
    case h_2 => cases h5
    rename_i cs hob
    split at h5
    case h_2 => cases h5
    rename_i hlive
    obtain ⟨cs', hcs, h6⟩ := onOpt_some h5
    obtain ⟨s1, rfl⟩ := splice_ok hcs
    refine ⟨_, _, _, h6, fun τ ag F ι act w hs hf => .inr (.inl ?_)⟩
    obtain ⟨ι', A⟩ := (h4 τ (ag y my)).2 F ι act w hs (fresh_of hf)
    obtain ⟨g1, g2⟩ := h2 τ (ag x mx)
    have e0 : find (n ++ τ.objs) ob = some (.box cs) := by
      rw [← hob, find_append, find_append, g1 ob (by simp [refs1])]
    have hp := VR.ext A.ext (g2 F ι act w hs)
    obtain ⟨ob', e1, e2⟩ := hp
    rw [e0] at e1; cases e1
    obtain ⟨b, hb, hv⟩ := e2 cs rfl
    obtain ⟨b', l, T, q1, q2, q3⟩ := A.heap.obok ob _ e0
    rw [hb] at q1; cases q1
    obtain ⟨c1, c2⟩ := cellsOf_ok A.heap (by rw [liveCells_ag (agn τ ag)]; exact hlive) A.val
    have hcl := c1.length
    have hll := q3.length
    have hrun := run_storeAt (P := P) (b := b) (p := off) (v := act.eval y) hti (by rw [htis, ← hlen, hcl]; simp) q2 (by rw [← hcl]; simp; omega) c2
    rw [← hv] at hrun
    have hrow := setRow_heap w b l.toArray (seg l off (act.eval y).cells.toList).toArray T (0, 0) q2
    obtain ⟨H2, E2⟩ := Heap.change (d := []) (κ := ob) (ob' := .box (seg cs off (cellsOf v))) (row := some b) (w' := w.setRow b (seg l off (act.eval y).cells.toList).toArray) (ι' := ι') A.heap rfl (fun _ _ h => by simp [find_nil] at h) rfl
      (fun b' hb' => by cases hb'; exact ⟨ob, _, e0, trivial, hb, .inl rfl⟩) (fun _ _ _ _ => ⟨rfl, rfl⟩) (fun ob1 h1 => by rw [e0] at h1; cases h1; exact ⟨⟨cs, rfl⟩, rfl⟩)
      (fun b' hb' => by rw [hb] at hb'; cases hb'; exact ⟨by rw [setRow_size]; exact (A.heap.own ob _ b e0 trivial hb).2, .inl rfl⟩) (by rw [setRow_size]; exact Nat.le_refl _) rfl rfl rfl
      (fun b' _ hne => setRow_other w b b' _ (fun e => hne (by rw [e]))) (fun a b' h => by cases h)
      (fun e => ⟨b, _, T, hb, hrow, (q3.seg c1 off).mono fun _ _ => VC.ext e⟩)
    exact ⟨_, _, exec_store ho (by simpa using hrun), H2, A.ext.trans E2, rfl⟩
  case pel ob i off =>
    split at h5
    case h_2 => cases h5
    rename_i fr a hob
    obtain ⟨a', ha', h6⟩ := onOpt_some h5
    split at h6
    case h_2 => cases h6
    rename_i hbury
    refine ⟨_, _, _, h6, fun τ ag F ι act w hs hf => .inr (.inl ?_)⟩
    obtain ⟨ι', A⟩ := (h4 τ (ag y my)).2 F ι act w hs (fresh_of hf)
    obtain ⟨g1, g2⟩ := h2 τ (ag x mx)
    have e0 : find (n ++ τ.objs) ob = some (.arr fr a) := by
      rw [← hob, find_append, find_append, g1 ob (by simp [refs1])]
    have hp := VR.ext A.ext (g2 F ι act w hs)
    obtain ⟨ob', e1, e2⟩ := hp
    rw [e0] at e1; cases e1
    obtain ⟨sh, ad, len, cap, p1, p2, p3, p4, hv⟩ := e2 fr a rfl
    obtain ⟨sh', xs, m1, m2, m3, m4, m5, m6⟩ := A.heap.obok ob _ e0
    rw [p1] at m1; cases m1
    obtain ⟨d1, d2, _⟩ := own_cell m4 p2
    have hit : i.toNat < (rowsOf a).length := by omega
    have haset : aset std cx (n ++ τ.objs) a i off (cellsOf v) = some a' := by rw [aset_ag (agn τ ag)]; exact ha'
    have S := aset_ok haset p1 m3 hit
    -- the memory of the array
    obtain ⟨mlen, mrow⟩ := m4
    rcases mrow with ⟨hnil, _⟩ | ⟨g, cap', cur, r1, r2, r3, r4, r5, r6, r7⟩
    · rw [hnil] at p2; cases p2
    rw [r1] at p2; cases p2
    -- the values that are stored
    have hlive : liveCells (n ++ τ.objs) (cellsOf v) = true := by
      refine liveCells_all fun u hu => ?_
      obtain ⟨j, hj⟩ := List.mem_iff_getElem?.1 hu
      exact cellFor_live (S.new j u hj)
    obtain ⟨c1, c2⟩ := cellsOf_ok A.heap hlive A.val
    have hcl := c1.length
    have hbnd : i.toNat * sh.length + sh.length ≤ (rowsOf a).length * sh.length := by
      calc i.toNat * sh.length + sh.length = (i.toNat + 1) * sh.length := by rw [Nat.add_mul, Nat.one_mul]
        _ ≤ _ := Nat.mul_le_mul_right _ hit
    have hbnd2 : (rowsOf a).length * sh.length ≤ cur.size := by rw [r6]; exact Nat.mul_le_mul_right _ r4
    have hfit := S.fit
    have hlst : i.toNat * sh.length + off + (act.eval y).cells.toList.length ≤ cur.toList.length := by rw [← hcl]; simp; omega
    have hrun := run_storeAt (P := P) (b := g) (p := i.toNat * sh.length + off) (v := act.eval y) hti (by rw [htis, ← hlen, hcl]; simp) r3 (by simpa using hlst) c2
    have hv' : act.eval x = .pointer (some ⟨g, i.toNat * sh.length + off, none⟩) := by rw [hv]; simp
    rw [← hv'] at hrun
    generalize hcur' : (seg cur.toList (i.toNat * sh.length + off) (act.eval y).cells.toList).toArray = cur' at hrun
    have hsz' : cur'.size = cur.size := by rw [← hcur']; simp only [List.size_toArray, seg_length hlst, Array.length_toList]
    have hget : ∀ q, cur'[q]? = if q < i.toNat * sh.length + off then cur[q]? else if q < i.toNat * sh.length + off + (cellsOf v).length then (act.eval y).cells.toList[q - (i.toNat * sh.length + off)]? else cur[q]? := by
      intro q
      rw [← hcur', hcl]
      have := seg_get hlst q
      simpa using this
    have hrow := setRow_heap w g cur cur' _ (0, 0) r3
    have hbk : ι'.blk ob = some g := by rw [m5, r1]; rfl
    have hbd : Dead (bury (cellsOf v)) := dead_bury _
    obtain ⟨H2, E2⟩ := Heap.change (d := bury (cellsOf v)) (κ := ob) (ob' := .arr (frOf fr (newCells (n ++ σ.objs) (cellsOf v))) a') (row := some g) (w' := w.setRow g cur') (ι' := ι') A.heap rfl hbd hbury
      (fun b' hb' => by cases hb'; exact ⟨ob, _, e0, trivial, hbk, .inl rfl⟩) (fun _ _ _ _ => ⟨rfl, rfl⟩) (fun ob1 h1 => by rw [e0] at h1; cases h1; exact ⟨fr, a, rfl, rfl, S.ak, S.len⟩)
      (fun b' hb' => by rw [hbk] at hb'; cases hb'; exact ⟨by rw [setRow_size]; exact (A.heap.own ob _ g e0 trivial hbk).2, .inl rfl⟩) (by rw [setRow_size]; exact Nat.le_refl _) rfl rfl rfl
      (fun b' _ hne => setRow_other w g b' _ (fun e => hne (by rw [e])))
      (fun a1 b' h hb' => by
        cases fr with
        | false => simp [frOf] at h
        | true => exact A.heap.fresh ob a b' e0 hb')
      (fun e => by
        have mono : ∀ b, okOf w (bury (cellsOf v) ++ (n ++ τ.objs)) ι' b → okOf (w.setRow g cur') ((ob, Ob.arr (frOf fr (newCells (n ++ σ.objs) (cellsOf v))) a') :: (bury (cellsOf v) ++ (n ++ τ.objs))) ι' b ∧ (w.setRow g cur').heap[b]? = w.heap[b]? := by
          intro b hb
          have hne : b ≠ g := by
            rintro rfl
            exact hb.2.1 ob (.arr fr a) (by rw [find_append, hbury]; simpa using e0) trivial hbk
          refine ⟨⟨by rw [setRow_size]; exact hb.1, fun o' ob1 ho' hl' hb' => ?_, hb.2.2⟩, setRow_other w g b _ hne⟩
          rw [find_cons] at ho'
          split at ho'
          · rename_i e1; subst e1; rw [hbk] at hb'; cases hb'; exact hne rfl
          · exact hb.2.1 o' ob1 ho' hl' hb'
        refine ⟨sh, cur'.toList.take ((rowsOf a').length * sh.length), by rw [S.ak]; exact p1, m2, S.wf, ⟨?_, .inr ⟨g, cap, cur', ?_, r2, ?_, ?_, r5, ?_, rfl⟩⟩, m5, fun i' j hi hj => ?_⟩
        · rw [List.length_take, S.len, show cur'.toList.length = cur.size by simpa using hsz']
          exact Nat.min_eq_left hbnd2
        · rw [S.len]; exact r1
        · rw [S.ak]; exact hrow
        · rw [S.len]; exact r4
        · rw [hsz']; exact r6
        · rw [S.len] at hi
          have hq : i' * sh.length + j < (rowsOf a).length * sh.length := by
            calc i' * sh.length + j < i' * sh.length + sh.length := by omega
              _ = (i' + 1) * sh.length := by rw [Nat.add_mul, Nat.one_mul]
              _ ≤ _ := Nat.mul_le_mul_right _ hi
          have htake : (cur'.toList.take ((rowsOf a').length * sh.length))[i' * sh.length + j]? = cur'[i' * sh.length + j]? := by
            rw [List.getElem?_take, S.len, if_pos hq]; simp
          rw [htake]
          by_cases hin : i' = i.toNat ∧ off ≤ j ∧ j < off + (cellsOf v).length
          · obtain ⟨rfl, hj1, hj2⟩ := hin
            obtain ⟨u, hu⟩ : ∃ u, (cellsOf v)[j - off]? = some u := ⟨_, List.getElem?_eq_getElem (by omega)⟩
            obtain ⟨vv, k1, k2⟩ := c1.get _ _ hu
            have hnew := S.new _ _ hu
            rw [show off + (j - off) = j by omega] at hnew
            refine ⟨vv, ?_, ?_⟩
            · rw [hget, if_neg (by omega), if_pos (by omega), ← k1]
              congr 1; omega
            · have hcell := CellFor.cell hc A.heap hbd hnew k2 (fun q hq => (find_bury.1 (by rw [← hq]; exact List.mem_iff_getElem?.2 ⟨_, hu⟩)))
              refine hcell.mono fun b hb => ⟨⟨(mono b hb.1).1, fun hfr => unfs (mono b hb.1).2 hb.2 ?_⟩, (mono b hb.1).2⟩
              cases fr with
              | false => simp [frOf] at hfr
              | true =>
                have hfr : newCells (n ++ σ.objs) (cellsOf v) = true := hfr
                rw [← newCells_ag (agn τ ag)] at hfr
                exact newCells_one hfr u (List.mem_iff_getElem?.2 ⟨_, hu⟩)
          · obtain ⟨cv, k1, k2⟩ := m6 i' j hi hj
            refine ⟨cv, ?_, ?_⟩
            · have hold : cur'[i' * sh.length + j]? = cur[i' * sh.length + j]? := by
                rw [hget]
                split
                · rfl
                · rename_i hn1
                  split
                  · rename_i hn2
                    exfalso
                    apply hin
                    rcases Nat.lt_trichotomy i' i.toNat with hlt | heq | hgt
                    · have : i' * sh.length + sh.length ≤ i.toNat * sh.length := by
                        calc i' * sh.length + sh.length = (i' + 1) * sh.length := by rw [Nat.add_mul, Nat.one_mul]
                          _ ≤ _ := Nat.mul_le_mul_right _ hlt
                      omega
                    · subst heq; exact ⟨rfl, by omega, by omega⟩
                    · have : i.toNat * sh.length + sh.length ≤ i' * sh.length := by
                        calc i.toNat * sh.length + sh.length = (i.toNat + 1) * sh.length := by rw [Nat.add_mul, Nat.one_mul]
                          _ ≤ _ := Nat.mul_le_mul_right _ hgt
                      omega
                  · rfl
              rw [hold]
              rw [← r7, List.getElem?_take, if_pos hq] at k1
              simpa using k1
            · rw [S.old i' j hin]
              refine k2.mono fun b hb => ⟨⟨(e.okm b hb.1).1, fun hfr => unfs (e.okm b hb.1).2 hb.2 ?_⟩, (e.okm b hb.1).2⟩
              cases fr with
              | false => simp [frOf] at hfr
              | true => rfl)
    exact ⟨_, _, exec_store ho hrun, H2, A.ext.trans E2, rfl⟩
end
end PM

namespace PM
open Go

section
variable {P : Program} {cx : Cx} {o : Oper} {σ : S} {key : Nat} {Γ : Gam} {k : V → Obs → Obs → R} {r : V} {F : Fr} {ι : Im} {w : World} {objs objs' : Obs}

/-! ## Several operands -/
theorem VC.refs {ok : Nat → Prop} {v : V} {vv : Value} (h : VC cx w ok objs ι v vv) : ∀ κ ∈ refs1 [] v, ∃ ob, find objs κ = some ob := by
  intro κ hκ
  cases v <;> simp only [refs1, List.nil_append, List.mem_singleton] at hκ <;> try (cases hκ; done)
  case sref q => subst hκ; obtain ⟨ob, h1, _⟩ := h; exact ⟨ob, h1⟩
  case pbox q off => subst hκ; obtain ⟨ob, h1, _⟩ := h; exact ⟨ob, h1⟩
  case parr q n => subst hκ; obtain ⟨ob, h1, _⟩ := h; exact ⟨ob, h1⟩
  case pel q i off => subst hκ; obtain ⟨ob, h1, _⟩ := h; exact ⟨ob, h1⟩
  case agg => exact h.elim
  case func => exact h.elim
theorem all2_refs {ok : Nat → Prop} : ∀ {cs : List V} {l : List Value}, All2 (VC cx w ok objs ι) cs l → ∀ q, V.sref q ∈ cs → ∃ ob, find objs q = some ob
  | [], [], _, q, hq => by cases hq
  | v :: cs, x :: l, h, q, hq => by
    rcases List.mem_cons.1 hq with rfl | hq
    · exact VC.refs h.1 q (by simp [refs1])
    · exact all2_refs h.2 q hq
  | [], _ :: _, h, _, _ => h.elim
  | _ :: _, [], h, _, _ => h.elim
theorem all2_refsB {ok : Nat → Prop} : ∀ {cs : List V} {l : List Value}, All2 (VC cx w ok objs ι) cs l → ∀ q off, V.pbox q off ∈ cs → ∃ ob, find objs q = some ob
  | [], [], _, q, _, hq => by cases hq
  | v :: cs, x :: l, h, q, off, hq => by
    rcases List.mem_cons.1 hq with rfl | hq
    · exact VC.refs h.1 q (by simp [refs1])
    · exact all2_refsB h.2 q off hq
  | [], _ :: _, h, _, _, _ => h.elim
  | _ :: _, [], h, _, _, _ => h.elim
theorem VR.refs {ok : Nat → Prop} {v : V} {vv : Value} (h : VR cx w ok objs ι v vv) : ∀ κ ∈ refs1 [] v, ∃ ob, find objs κ = some ob := by
  intro κ hκ
  cases v
  case agg cs =>
    obtain ⟨l, _, hl⟩ := h
    simp only [refs1] at hκ
    rcases mem_refsC.1 hκ with h1 | h1 | ⟨off, h1⟩
    · cases h1
    · exact all2_refs hl κ h1
    · exact all2_refsB hl κ off h1
  case func f cs =>
    obtain ⟨l, _, hl⟩ := h
    simp only [refs1] at hκ
    rcases mem_refsC.1 hκ with h1 | h1 | ⟨off, h1⟩
    · cases h1
    · exact all2_refs hl κ h1
    · exact all2_refsB hl κ off h1
  case tup => simp [refs1] at hκ
  all_goals (refine VC.refs (cx := cx) (w := w) (ok := ok) (ι := ι) (vv := vv) ?_ κ hκ; exact h)

theorem evs_sound (hc : CxOk P cx) : ∀ {xs : List Operand} {ts : List TypeId} {key : Nat} {σ : S} {k : List V → Obs → R} {r : V}, evs cx key xs ts σ k = some r →
    ∃ vs n, k vs n = some r ∧ ∀ τ, Ag xs σ τ → (∀ v ∈ vs, ∀ κ ∈ refs1 [] v, find n κ = none → find τ.objs κ = find σ.objs κ) ∧
      ∀ F ι a w, Sim cx F ι τ a w → freshKeys τ.objs n = true → ∃ ι', Heap cx F ι' (n ++ τ.objs) w ∧ Ext ι τ.objs w ι' (n ++ τ.objs) w ∧ All2 (VR cx w (okOf w (n ++ τ.objs) ι') (n ++ τ.objs) ι') vs (xs.map a.eval)
  | [], ts, key, σ, k, r, h => ⟨[], [], h, fun τ _ => ⟨fun v hv => (by cases hv), fun F ι a w hs _ => ⟨ι, hs.heap, Ext.refl, trivial⟩⟩⟩
  | x :: xs, ts, key, σ, k, r, h => by
    simp only [evs] at h
    obtain ⟨v, n, h1, h2⟩ := ev_sound hc h
    obtain ⟨vs, m, h3, h4⟩ := evs_sound hc h1
    refine ⟨v :: vs, n ++ m, h3, fun τ ag => ?_⟩
    have a1 := h2 τ (ag x (by simp))
    have a2 := h4 τ (fun y hy => ag y (by simp [hy]))
    have split : ∀ κ, find (n ++ m) κ = none → find n κ = none ∧ find m κ = none := by
      intro κ hκ
      rw [find_append] at hκ
      cases hn : find n κ with
      | some y => rw [hn] at hκ; simp at hκ
      | none => rw [hn] at hκ; exact ⟨rfl, by simpa using hκ⟩
    refine ⟨fun u hu κ hκ hn => ?_, fun F ι a w hs hf => ?_⟩
    · rcases List.mem_cons.1 hu with rfl | hu
      · exact a1.1 κ hκ (split κ hn).1
      · exact a2.1 u hu κ hκ (split κ hn).2
    · obtain ⟨f1, f2⟩ := fresh_app hf
      obtain ⟨ι1, H1, E1, V1⟩ := a2.2 F ι a w hs f1
      have hs1 : Sim cx F ι1 ⟨τ.tmps, m ++ τ.objs⟩ a w := ⟨hs.defers, hs.size, fun t u hu => VR.ext E1 (hs.tmps t u hu), H1, hs.pin⟩
      have ag1 : AgX x σ ⟨τ.tmps, m ++ τ.objs⟩ := by
        have := ag x (by simp)
        cases x with
        | tmp t =>
          refine ⟨this.1, fun u hu κ hκ => ?_⟩
          rw [← this.2 u hu κ hκ]
          obtain ⟨ob, hob⟩ := VR.refs (hs.tmps t u (this.1.trans hu)) κ hκ
          simp only [find_append]
          cases hm : find m κ with
          | none => simp
          | some y => rw [fresh_of f1 κ y hm] at hob; cases hob
        | _ => trivial
      obtain ⟨ι2, A⟩ := (h2 _ ag1).2 F ι1 a w hs1 (fresh_of f2)
      refine ⟨ι2, by rw [List.append_assoc]; exact A.heap, by rw [List.append_assoc]; exact E1.trans A.ext, ?_, ?_⟩
      · rw [List.append_assoc]; exact A.val
      · rw [List.append_assoc]; exact V1.mono fun _ _ => VR.ext A.ext

/-! ## Builtins -/
theorem sliceTy_ok {t : TypeId} {e : AK} (h : sliceTy cx t = some e) : ∃ ty, find cx t = some ty ∧ ty.alen = none ∧ ty.elem = some e := by
  unfold sliceTy at h
  split at h
  · rename_i ty hty
    split at h
    · rename_i ha; exact ⟨ty, hty, ha, h⟩
    · cases h
  · cases h

theorem arrOf_ag {x : V} (h : ∀ κ ∈ refs1 [] x, find objs' κ = find objs κ) : arrOf x objs' = arrOf x objs := by
  cases x <;> simp only [arrOf]
  rename_i q
  rw [h q (by simp [refs1])]

/-- A slice of an array: its value, cell by cell. -/
theorem arrOf_ok (H : Heap cx F ι objs w) {x : V} {vv : Value} (hv : VR cx w (okOf w objs ι) objs ι x vv) {fr : Bool} {a : Arr} (h : arrOf x objs = some (fr, a)) :
    ∃ sh, shAK cx (akOf a) = some sh ∧ Wf sh (rowsOf a) ∧ ∃ base cap, vv = .slice base (rowsOf a).length cap ∧ ((rowsOf a).length = 0 ∨ ∃ (ad : Addr) (f : Nat → Nat → Value), base = some ad ∧ ad.spot = none ∧ (rowsOf a).length ≤ cap ∧ ad.block < w.heap.size ∧
      (∀ i j, i < (rowsOf a).length → j < sh.length → w.cell? ⟨ad.block, ad.off + (i * sh.length + j), none⟩ = some (f i j)) ∧
      (∀ i j, i < (rowsOf a).length → j < sh.length → CellV cx w (fun b => okOf w objs ι b ∧ (fr = true → FU F.fresh w b)) (sh.getD j .bool) (cOf (rowsOf a) i j) (f i j))) := by
  cases x <;> simp only [arrOf] at h <;> try (cases h; done)
  case arr a0 =>
    cases h
    obtain ⟨sh, h1, h2, h3⟩ := hv
    refine ⟨sh, h1, h2, ?_⟩
    rcases h3 with ⟨h0, base, cap, rfl⟩ | ⟨ad, cap, f, rfl, k1, k2, k3, k4, k5⟩
    · exact ⟨base, cap, by rw [h0]; rfl, .inl (by rw [h0]; rfl)⟩
    · refine ⟨some ad, cap, rfl, .inr ⟨ad, f, rfl, k1, k2, k3.1, k4, fun i j hi hj => (k5 i j hi hj).mono fun b hb => ⟨⟨hb, fun h => (by cases h)⟩, rfl⟩⟩⟩
  case sref q =>
    split at h
    · rename_i fr0 a0 hob
      cases h
      obtain ⟨ob, h1, h2⟩ := hv
      rw [hob] at h1; cases h1
      have hx := h2 _ _ rfl
      obtain ⟨sh, xs, p1, p2, p3, p4, p5, p6⟩ := H.obok q _ hob
      refine ⟨sh, p1, p3, ?_⟩
      rw [hx]
      rcases p4.2 with ⟨e1, e2⟩ | ⟨g, cap, cur, e1, _, e3, e4, _, _, e7⟩
      · exact ⟨none, 0, by rw [e1, e2], .inl e2⟩
      · have hex : ∀ i j : Nat, ∃ cv : Value, ∀ (_ : i < (rowsOf a).length) (_ : j < sh.length), xs[i * sh.length + j]? = some cv ∧ CellV cx w (fun b => okOf w objs ι b ∧ (fr = true → FU F.fresh w b)) (sh.getD j .bool) (cOf (rowsOf a) i j) cv := by
          intro i j
          by_cases hi : i < (rowsOf a).length
          · by_cases hj : j < sh.length
            · obtain ⟨cv, c1, c2⟩ := p6 i j hi hj
              exact ⟨cv, fun _ _ => ⟨c1, c2⟩⟩
            · exact ⟨default, fun _ h => (hj h).elim⟩
          · exact ⟨default, fun h => (hi h).elim⟩
        obtain ⟨f, hf⟩ : ∃ f : Nat → Nat → Value, ∀ (i j : Nat) (_ : i < (rowsOf a).length) (_ : j < sh.length), xs[i * sh.length + j]? = some (f i j) ∧ CellV cx w (fun b => okOf w objs ι b ∧ (fr = true → FU F.fresh w b)) (sh.getD j .bool) (cOf (rowsOf a) i j) (f i j) :=
          ⟨fun i j => Classical.choose (hex i j), fun i j => Classical.choose_spec (hex i j)⟩
        refine ⟨some ⟨g, 0, none⟩, cap, e1, .inr ⟨⟨g, 0, none⟩, f, rfl, rfl, e4, (Array.getElem?_eq_some_iff.1 e3).1, fun i j hi hj => ?_, fun i j hi hj => (hf i j hi hj).2⟩⟩
        have := (hf i j hi hj).1
        rw [cell_of_cells e3]
        rw [← e7, List.getElem?_take] at this
        split at this
        · simpa using this
        · cases this
    · cases h

theorem exec_builtin {ρ : Operand → Value} {w w' : World} {c : Call} {b : Builtin} {s : Sem Value} {u : Value} (ho : o.op = .call c) (hb : c.callee = .builtin b)
    (hs : ∀ consts, builtin b c.argTypes o.type consts (c.args.map ρ) = (do pure (Next.value (← s)))) (h : s.run P w = .ok u w') : (execOp ρ o).run P w = .ok (.value u) w' := by
  simp [execOp, ho, resolve, hb, invoke, hs, h]


theorem agE {n : Obs} {τ : S} {vs : List V} (h : ∀ v ∈ vs, ∀ κ ∈ refs1 [] v, find n κ = none → find τ.objs κ = find σ.objs κ) : ∀ v ∈ vs, ∀ κ ∈ refs1 [] v, find (n ++ τ.objs) κ = find (n ++ σ.objs) κ := by
  intro v hv κ hκ
  rw [find_append, find_append]
  cases hn : find n κ with
  | some y => rfl
  | none => simpa using h v hv κ hκ hn

theorem All2.cons_inv {α β : Type} {R : α → β → Prop} {a : α} {l : List α} {m : List β} (h : All2 R (a :: l) m) : ∃ b m', m = b :: m' ∧ R a b ∧ All2 R l m' := by
  cases m with
  | nil => exact h.elim
  | cons b m => exact ⟨b, m, rfl, h.1, h.2⟩
theorem All2.nil_inv {α β : Type} {R : α → β → Prop} {m : List β} (h : All2 R ([] : List α) m) : m = [] := by
  cases m with
  | nil => rfl
  | cons b m => exact h.elim

theorem args_of {c : Call} {a : Act} {l : List Value} (h : c.args.toList.map a.eval = l) : c.args.map a.eval = l.toArray := by
  subst h; exact Array.ext' (by rw [Array.toList_map])

theorem mem_args {c : Call} (ho : o.op = .call c) {y : Operand} (hy : y ∈ c.args.toList) : y ∈ o.op.operands.toList := by
  rw [ho]; simp only [Op.operands, Call.operands, Array.toList_append]; exact List.mem_append.2 (.inr hy)

theorem pop_len (hc : CxOk P cx) {c : Call} (ho : o.op = .call c) (hb : c.callee = .builtin .len) (h : pop std cx Γ key o σ k = some r) : Sound P cx o σ k r := by
  simp only [pop, ho, hb] at h
  obtain ⟨vs, n, h1, h2⟩ := evs_sound hc h
  rcases vs with _ | ⟨x, _ | ⟨y, vs⟩⟩ <;> (try simp only [callB] at h1) <;> try (cases h1; done)
  split at h1
  case h_2 => cases h1
  rename_i t hts
  obtain ⟨e, he, h3⟩ := onOpt_some h1
  obtain ⟨⟨fr, a⟩, ha, h4⟩ := onOpt_some h3
  obtain ⟨ty, hty, hal, hel⟩ := sliceTy_ok he
  obtain ⟨sh, ie, ze, hu, _⟩ := (hc t ty hty).slice hal e hel
  refine ⟨_, _, _, h4, fun τ ag F ι act w hs hf => .inl ?_⟩
  obtain ⟨g1, g2⟩ := h2 τ (fun y hy => ag y (mem_args ho (by exact hy)))
  obtain ⟨ι', H', E', V'⟩ := g2 F ι act w hs hf
  obtain ⟨xv, m, e1, v1, v2⟩ := V'.cons_inv
  cases v2.nil_inv
  have hx : arrOf x (n ++ τ.objs) = some (fr, a) := by rw [arrOf_ag (agE g1 x (by simp))]; exact ha
  obtain ⟨sh', _, _, base, cap, hxv, _⟩ := arrOf_ok H' v1 hx
  subst hxv
  have hts' : c.argTypes = #[t] := by rw [← Array.toArray_toList (xs := c.argTypes), hts]
  refine ⟨.int .i64 (rowsOf a).length, w, ι', exec_builtin (s := Builtin.len_ #[t] o.type #[.slice base (rowsOf a).length cap]) ho hb (fun consts => ?_) ?_, H', E', ?_⟩
  · rw [args_of e1, hts']; rfl
  · simp [Builtin.len_, run_underlying hu]; rfl
  · rw [alen_std]; rfl

theorem pop_maxmin (hc : CxOk P cx) {c : Call} {b : Builtin} (ho : o.op = .call c) (hb : c.callee = .builtin b) (hbb : b = .max ∨ b = .min) (h : pop std cx Γ key o σ k = some r) : Sound P cx o σ k r := by
  simp only [pop, ho, hb] at h
  obtain ⟨vs, n, h1, h2⟩ := evs_sound hc h
  rcases hbb with rfl | rfl
  all_goals
    rcases vs with _ | ⟨x, _ | ⟨y, _ | ⟨z, vs⟩⟩⟩ <;> (try simp only [callB] at h1) <;> try (cases h1; done)
    cases x <;> cases y <;> (try simp only at h1) <;> try (cases h1; done)
    rename_i i p j q
    split at h1
    case h_2 => cases h1
    rename_i hk
    have hk := sameKind_eq hk
    subst hk
    refine ⟨_, _, _, h1, fun τ ag F ι act w hs hf => .inl ?_⟩
    obtain ⟨g1, g2⟩ := h2 τ (fun y hy => ag y (mem_args ho (by exact hy)))
    obtain ⟨ι', H', E', V'⟩ := g2 F ι act w hs hf
    obtain ⟨xv, m, e1, v1, v2⟩ := V'.cons_inv
    obtain ⟨yv, m', rfl, v3, v4⟩ := v2.cons_inv
    cases v4.nil_inv
    have v1 : xv = .int i p := v1
    have v3 : yv = .int i q := v3
    subst v1; subst v3
    first
    | exact ⟨.int i (std.imax p q), w, ι', exec_builtin (s := Builtin.max_ c.argTypes o.type #[.int i p, .int i q]) ho hb (fun consts => by rw [args_of e1]; rfl) (by simp [Builtin.max_, Builtin.max2, std]), H', E', rfl⟩
    | exact ⟨.int i (std.imin p q), w, ι', exec_builtin (s := Builtin.min_ c.argTypes o.type #[.int i p, .int i q]) ho hb (fun consts => by rw [args_of e1]; rfl) (by simp [Builtin.min_, Builtin.min2, std]), H', E', rfl⟩
end
end PM

namespace PM
open Go

section
variable {P : Program} {cx : Cx} {o : Oper} {σ : S} {key : Nat} {Γ : Gam} {k : V → Obs → Obs → R} {r : V} {F : Fr} {ι : Im} {w : World} {objs objs' : Obs}

theorem CellV.one {ok : Nat → Prop} {kk : K} {c : C} {v : Value} (h : CellV cx w ok kk c v) : v.oneCell' = true := by cases h <;> rfl
/-- Cells without references hold in every memory. -/
theorem CellV.flat {ok ok' : Nat → Prop} {w' : World} {a : Arr} (ha : isRows a = false) {sh : List K} (hs : shAK cx (akOf a) = some sh) {j : Nat} {c : C} {v : Value} (h : CellV cx w ok (sh.getD j .bool) c v) : CellV cx w' ok' (sh.getD j .bool) c v := by
  have hk : (∃ i, sh.getD j .bool = .int i) ∨ sh.getD j .bool = .bool := by
    cases a <;> simp only [isRows] at ha <;> try (cases ha; done)
    · simp only [akOf, shAK, Option.some.injEq] at hs; subst hs
      cases j with
      | zero => exact .inl ⟨_, rfl⟩
      | succ j => exact .inr (by simp)
    · simp only [akOf, shAK, Option.some.injEq] at hs; subst hs
      cases j with
      | zero => exact .inr rfl
      | succ j => exact .inr (by simp)
    · simp only [akOf, shAK, Option.some.injEq] at hs; subst hs
      by_cases hj : j < ‹Nat›
      · exact .inl ⟨.i64, by simp [List.getD_eq_getElem?_getD, List.getElem?_replicate, hj]⟩
      · exact .inr (by simp [List.getD_eq_getElem?_getD, List.getElem?_replicate, hj])
  rcases hk with ⟨i, hi⟩ | hi
  · rw [hi] at h ⊢; rw [h.int_inv]; exact .int _ _
  · rw [hi] at h ⊢; rw [h.bool_inv]; exact .bool _

theorem cOf_append {l m : List (List C)} {i j : Nat} : cOf (l ++ m) i j = if i < l.length then cOf l i j else cOf m (i - l.length) j := by
  unfold cOf
  by_cases h : i < l.length
  · rw [if_pos h]; simp [List.getD_eq_getElem?_getD, List.getElem?_append_left h]
  · rw [if_neg h]; simp [List.getD_eq_getElem?_getD, List.getElem?_append_right (Nat.le_of_not_lt h)]

theorem mul_lt_add {i j s n : Nat} (hi : i < n) (hj : j < s) : i * s + j < n * s := by
  calc i * s + j < i * s + s := by omega
    _ = (i + 1) * s := by rw [Nat.add_mul, Nat.one_mul]
    _ ≤ _ := Nat.mul_le_mul_right _ hi

/-- A table as a row. -/
theorem table_row (f : Nat → Nat → Value) (m s : Nat) : ∃ l : List Value, l.length = m * s ∧ (∀ i j, i < m → j < s → l[i * s + j]? = some (f i j)) ∧ ∀ (q : Nat) u, l[q]? = some u → ∃ i j, i < m ∧ j < s ∧ q = i * s + j ∧ u = f i j := by
  refine ⟨(List.range (m * s)).map fun q => f (q / s) (q % s), by simp, fun i j hi hj => ?_, fun q u hq => ?_⟩
  · have hlt := mul_lt_add hi hj
    have h1 : (i * s + j) / s = i := by
      rw [Nat.mul_comm, Nat.mul_add_div (by omega), Nat.div_eq_of_lt hj]; rfl
    have h2 : (i * s + j) % s = j := by
      rw [Nat.mul_comm, Nat.mul_add_mod, Nat.mod_eq_of_lt hj]
    simp [hlt, h1, h2]
  · rw [List.getElem?_map, Option.map_eq_some_iff] at hq
    obtain ⟨q', h1, h2⟩ := hq
    have hlt : q < m * s := by
      have := (List.getElem?_eq_some_iff.1 h1).1
      simpa using this
    rw [List.getElem?_range hlt] at h1
    cases h1
    have hs : 0 < s := by
      rcases Nat.eq_zero_or_pos s with h0 | h0
      · subst h0; simp at hlt
      · exact h0
    exact ⟨q / s, q % s, (Nat.div_lt_iff_lt_mul hs).2 hlt, Nat.mod_lt _ hs, by rw [Nat.mul_comm]; exact (Nat.div_add_mod q s).symm, h2.symm⟩

theorem run_append_none {t ty e : TypeId} {i : TypeInfo} {size : Nat} (ht : P.underlying t = some (.slice e)) (hi : P.info? e = some i) {v : Value} {n : Nat} {xs : List Value} (hown : w.ownsRow 0 e size v n xs) (cap : Nat) :
    (Builtin.append_ #[t, t] ty #[v, .slice none 0 cap]).run P w = .ok v w := by
  rcases hown.2 with ⟨rfl, rfl⟩ | ⟨g, c, cur, rfl, _, _, hnc, _⟩
  · simp [Builtin.append_, run_underlying ht, Go.sizeOf, typeInfo, hi, Builtin.lenOf, Builtin.firstCells]
  · simp [Builtin.append_, run_underlying ht, Go.sizeOf, typeInfo, hi, Builtin.lenOf, Builtin.firstCells, hnc, storeCells]

theorem pop_append (hc : CxOk P cx) {c : Call} (ho : o.op = .call c) (hb : c.callee = .builtin .append) (h : pop std cx Γ key o σ k = some r) : Sound P cx o σ k r := by
  simp only [pop, ho, hb] at h
  obtain ⟨vs, n, h1, h2⟩ := evs_sound hc h
  rcases vs with _ | ⟨x, _ | ⟨y, _ | ⟨z, vs⟩⟩⟩ <;> (try simp only [callB] at h1) <;> try (cases h1; done)
  split at h1
  case h_2 => cases h1
  rename_i t u hts
  split at h1
  case h_2 => cases h1
  rename_i htu
  have htu := Nat.eq_of_beq_eq_true htu
  subst htu
  obtain ⟨e, he, h3⟩ := onOpt_some h1
  obtain ⟨ty, hty, hal, hel⟩ := sliceTy_ok he
  obtain ⟨sh, ie, ze, hu, hsh, hsh0, hie, hies, hze, hzs, hby, _⟩ := (hc t ty hty).slice hal e hel
  cases x <;> simp only [appendV] at h3 <;> try (cases h3; done)
  rename_i q
  split at h3
  case h_2 => cases h3
  rename_i fr a hq
  obtain ⟨⟨frb, b⟩, hbo, h4⟩ := onOpt_some h3
  split at h4
  case h_2 => cases h4
  rename_i hisr hak
  have hak := akEq_ok hak
  subst hak
  split at h4
  case h_2 => cases h4
  rename_i hroom
  obtain ⟨d, hd, h5⟩ := onOpt_some h4
  obtain ⟨d1, d2, d3⟩ := aapp_ok (cx := cx) hd
  refine ⟨_, _, _, h5, fun τ ag F ι act w hs hf => .inl ?_⟩
  obtain ⟨f1, f2, f3⟩ := fresh_cons hf
  obtain ⟨g1, g2⟩ := h2 τ (fun y hy => ag y (mem_args ho (by exact hy)))
  obtain ⟨ι', H', E', V'⟩ := g2 F ι act w hs f3
  obtain ⟨xv, m0, e1, v1, v2⟩ := V'.cons_inv
  obtain ⟨yv, m1, rfl, v3, v4⟩ := v2.cons_inv
  cases v4.nil_inv
  have agr := agE g1
  have hq' : find (n ++ τ.objs) q = some (.arr fr a) := by rw [agr (.sref q) (by simp) q (by simp [refs1])]; exact hq
  have hb' : arrOf y (n ++ τ.objs) = some (frb, b) := by rw [arrOf_ag (agr y (by simp))]; exact hbo
  have hkn : find (n ++ τ.objs) key = none := by rw [find_append, show find n key = none from f2]; simpa using f1
  have hkq : key ≠ q := by rintro rfl; rw [hkn] at hq'; cases hq'
  obtain ⟨ob, k1, k2⟩ := v1
  rw [hq'] at k1; cases k1
  have hxv := k2 _ _ rfl
  obtain ⟨sh', xs, p1, p2, p3, p4, p5, p6⟩ := H'.obok q _ hq'
  rw [hsh] at p1; cases p1
  rw [← hxv] at p4 p5
  obtain ⟨sh2, s1, s2, base, cap, hyv, hys⟩ := arrOf_ok H' v3 hb'
  have hshb : sh2 = sh := by
    have := d2.symm.trans s1
    rw [hsh] at this
    exact (Option.some.inj this).symm
  subst hshb
  have hroom' : (rowsOf a).length + (rowsOf b).length ≤ 2147483648 := by
    have := of_decide_eq_true hroom
    rw [alen_std, alen_std] at this
    exact Int.ofNat_le.1 (by simpa using this)
  have h63 : (rowsOf a).length + (rowsOf b).length ≤ maxLen := by unfold maxLen; omega
  have hbytes : ((rowsOf a).length + (rowsOf b).length) * ie.bytes ≤ 140737488355328 := by
    calc ((rowsOf a).length + (rowsOf b).length) * ie.bytes ≤ 2147483648 * 65536 := Nat.mul_le_mul hroom' hby
      _ = _ := rfl
  have hzsz : ze.cells.size = sh2.length := by rw [hzs.length]; simp
  have hts' : c.argTypes = #[t, t] := by rw [← Array.toArray_toList (xs := c.argTypes), hts]
  -- what the append does to memory
  have main : ∃ v' w' news, (Builtin.append_ #[t, t] o.type #[xv, yv]).run P w = .ok v' w' ∧ w'.ownsRow 0 (tAK (akOf a)) sh2.length v' ((rowsOf a).length + (rowsOf b).length) (xs ++ news) ∧ w.grownBy w' xv.ownBlock ∧ (v'.ownBlock = xv.ownBlock ∨ v'.ownBlock = some w.heap.size) ∧
      ∀ i j, i < (rowsOf b).length → j < sh2.length → ∃ cv, news[i * sh2.length + j]? = some cv ∧ CellV cx w (fun b => okOf w (n ++ τ.objs) ι' b ∧ (frb = true → FU F.fresh w b)) (sh2.getD j .bool) (cOf (rowsOf b) i j) cv := by
    rw [hyv]
    have zero : ∀ v' w', (rowsOf b).length = 0 → (Builtin.append_ #[t, t] o.type #[xv, .slice base (rowsOf b).length cap]).run P w = .ok v' w' ∧ w'.ownsRow 0 (tAK (akOf a)) sh2.length v' ((rowsOf a).length + (rowsOf b).length) (xs ++ []) ∧ w.grownBy w' xv.ownBlock ∧ (v'.ownBlock = xv.ownBlock ∨ v'.ownBlock = some w.heap.size) →
        ∃ v' w' news, (Builtin.append_ #[t, t] o.type #[xv, .slice base (rowsOf b).length cap]).run P w = .ok v' w' ∧ w'.ownsRow 0 (tAK (akOf a)) sh2.length v' ((rowsOf a).length + (rowsOf b).length) (xs ++ news) ∧ w.grownBy w' xv.ownBlock ∧ (v'.ownBlock = xv.ownBlock ∨ v'.ownBlock = some w.heap.size) ∧
        ∀ i j, i < (rowsOf b).length → j < sh2.length → ∃ cv, news[i * sh2.length + j]? = some cv ∧ CellV cx w (fun b => okOf w (n ++ τ.objs) ι' b ∧ (frb = true → FU F.fresh w b)) (sh2.getD j .bool) (cOf (rowsOf b) i j) cv := by
      rintro v' w' h0 ⟨q1, q2, q3, q4⟩
      exact ⟨v', w', [], q1, q2, q3, q4, fun i j hi => by omega⟩
    rcases hys with h0 | ⟨ad, f, rfl, hsp, _, _, c1, c2⟩
    · cases base with
      | none =>
        refine zero xv w h0 ⟨?_, ?_, ⟨rfl, rfl, rfl, Nat.le_refl _, fun _ _ _ => rfl⟩, .inl rfl⟩
        · rw [h0]; exact run_append_none hu hie p4 cap
        · rw [h0]; simpa using p4
      | some ad =>
        obtain ⟨v', w', q1, q2, q3, _, q4⟩ := run_append_own_at (P := P) w 0 t o.type _ ie ze sh2.length ie.bytes hu hie hze hies rfl hzsz hsh0 xv _ xs p4 ad (rowsOf b).length cap [] (by rw [h0]; simp) (fun j u hj => by simp at hj) (fun u hu => by cases hu) h63 hbytes (Nat.zero_le _)
        exact zero v' w' h0 ⟨q1, q2, q3, q4⟩
    · obtain ⟨news, t1, t2, t3⟩ := table_row f (rowsOf b).length sh2.length
      obtain ⟨v', w', q1, q2, q3, _, q4⟩ := run_append_own_at (P := P) w 0 t o.type _ ie ze sh2.length ie.bytes hu hie hze hies rfl hzsz hsh0 xv _ xs p4 ad (rowsOf b).length cap news t1 (fun j u hj => by
          obtain ⟨i, j', i1, i2, rfl, rfl⟩ := t3 j u hj
          have := c1 i j' i1 i2
          have hadd : ad.add (i * sh2.length + j') = ⟨ad.block, ad.off + (i * sh2.length + j'), none⟩ := by
            obtain ⟨ab, ao, asp⟩ := ad
            simp only at hsp; subst hsp
            exact Addr.add_lit _ _ _
          rw [hadd]; exact this) (fun u hu => by
          obtain ⟨j, hj⟩ := List.mem_iff_getElem?.1 hu
          obtain ⟨i, j', i1, i2, rfl, rfl⟩ := t3 j u hj
          exact (c2 i j' i1 i2).one) h63 hbytes (Nat.zero_le _)
      exact ⟨v', w', news, q1, q2, q3, q4, fun i j hi hj => ⟨f i j, t2 i j hi hj, c2 i j hi hj⟩⟩
  obtain ⟨v', w', news, q1, q2, q3, q4, q5⟩ := main
  have hdead : Dead [(q, Ob.dead)] := fun o' ob' h' => by obtain ⟨_, rfl⟩ := find_one h'; rfl
  have hqb : ∀ b', xv.ownBlock = some b' → ι'.blk q = some b' := fun b' h' => by rw [p5]; exact h'
  obtain ⟨H2, E2⟩ := Heap.change (d := [(q, Ob.dead)]) (κ := key) (ob' := .arr (flag a fr frb) d) (row := xv.ownBlock) (w' := w') (ι' := ι'.put key v'.ownBlock v') H' rfl hdead
    (by rw [find_cons, if_neg (fun e => hkq e.symm)]; rfl)
    (fun b' h' => ⟨q, _, hq', trivial, hqb b' h', .inr (by rw [find_cons, if_pos rfl])⟩) (fun o1 ob1 _ hne => by simp [Im.put, hne]) (fun ob1 h' => by rw [hkn] at h'; cases h')
    (fun b' h' => by
      rw [Im.put_blk] at h'
      refine ⟨(World.ownsRow.lt q2 b' h').2, ?_⟩
      rcases q4 with q4 | q4
      · exact .inl (by rw [← q4]; exact h')
      · rw [q4] at h'; cases h'; exact .inr (Nat.le_refl _))
    q3.size q3.os q3.tape q3.output (fun b' hb0 hne => q3.block b' hb0 (fun e => hne e.symm))
    (fun a1 b' h' hbk => by
      rw [Im.put_blk] at hbk
      have hfr : fr = true := by
        cases fr with
        | true => rfl
        | false => simp [flag] at h'
      subst hfr
      rcases q4 with q4 | q4
      · rw [q4] at hbk; exact H'.fresh q a b' hq' (hqb b' hbk)
      · rw [q4] at hbk; cases hbk; exact (F.new _ H'.size).2)
    (fun e => by
      refine ⟨sh2, xs ++ news, by rw [d1]; exact hsh, hsh0, ?_, ?_, by rw [Im.put_blk, Im.put_sv], fun i j hi hj => ?_⟩
      · rw [d3]; intro r hr
        rcases List.mem_append.1 hr with hr | hr
        · exact p3 r hr
        · exact s2 r hr
      · rw [Im.put_sv, d1, d3, List.length_append]; exact q2
      · rw [d3, List.length_append] at hi
        have hi : i < (rowsOf a).length + (rowsOf b).length := hi
        have flat : ∀ (c : C) (cv : Value) (fr' : Bool), (flag a fr frb = true → isRows a = true → fr' = true) → CellV cx w (fun b => okOf w (n ++ τ.objs) ι' b ∧ (fr' = true → FU F.fresh w b)) (sh2.getD j .bool) c cv →
            CellV cx w' (fun b => okOf w' ((key, Ob.arr (flag a fr frb) d) :: ([(q, Ob.dead)] ++ (n ++ τ.objs))) (ι'.put key v'.ownBlock v') b ∧ (flag a fr frb = true → FU F.fresh w' b)) (sh2.getD j .bool) c cv := by
          intro c cv fr' hfr hcell
          by_cases hr : isRows a = true
          · exact hcell.mono fun b hb => ⟨⟨(e.okm b hb.1).1, fun hh => ⟨(hb.2 (hfr hh hr)).1, (hb.2 (hfr hh hr)).2.eq (e.okm b hb.1).2⟩⟩, (e.okm b hb.1).2⟩
          · exact hcell.flat (by simpa using hr) hsh
        rw [d3, cOf_append]
        by_cases hia : i < (rowsOf a).length
        · obtain ⟨cv, c1, c2⟩ := p6 i j hia hj
          rw [if_pos hia]
          refine ⟨cv, ?_, flat _ _ fr (fun hh _ => by cases fr with | true => rfl | false => simp [flag] at hh) c2⟩
          rw [List.getElem?_append_left (by rw [p4.1]; exact mul_lt_add hia hj)]; exact c1
        · obtain ⟨cv, c1, c2⟩ := q5 (i - (rowsOf a).length) j (by omega) hj
          rw [if_neg hia]
          refine ⟨cv, ?_, flat _ _ frb (fun hh hr => by cases fr with | true => simpa [flag, hr] using hh | false => simp [flag] at hh) c2⟩
          have hge : (rowsOf a).length * sh2.length ≤ i * sh2.length := Nat.mul_le_mul_right _ (by omega)
          have hsm := Nat.sub_mul i (rowsOf a).length sh2.length
          generalize hA : (rowsOf a).length * sh2.length = A at hge hsm
          generalize hB : i * sh2.length = B at hge hsm
          rw [List.getElem?_append_right (by rw [p4.1, hA]; omega), p4.1, ← c1, hA, hsm]
          congr 1
          omega)
  have hsame : ∀ o1, find ([(q, Ob.dead)] ++ (([(key, Ob.arr (flag a fr frb) d)] ++ n) ++ τ.objs)) o1 = find ((key, Ob.arr (flag a fr frb) d) :: ([(q, Ob.dead)] ++ (n ++ τ.objs))) o1 := by
    intro o1
    simp only [List.singleton_append, List.cons_append, List.nil_append, find_cons]
    by_cases e1 : q = o1
    · subst e1; simp [hkq]
    · simp [e1]
  refine ⟨v', w', _, exec_builtin (s := Builtin.append_ #[t, t] o.type #[xv, yv]) ho hb (fun consts => ?_) q1, H2.same hsame, (E'.trans E2).trans (Ext.same hsame), .arr (flag a fr frb) d, ?_, fun fr1 a1 h' => (Im.put_sv _ _ _).symm⟩
  · rw [args_of e1, hts']; rfl
  · rw [hsame, find_cons, if_pos rfl]
end
end PM

namespace PM
open Go RowKit

theorem mem_iff : ∀ {l : List Nat} {x : Nat}, mem l x = true ↔ x ∈ l := by
  intro l x
  induction l with
  | nil => simp [mem]
  | cons y l ih =>
    simp only [mem]
    cases hb : Nat.beq y x with
    | true => have := Nat.eq_of_beq_eq_true hb; simp [this]
    | false =>
      have hne : y ≠ x := fun e => by subst e; simp at hb
      simp [ih, hne.symm]

/-! ## Calls by contract -/
/-- What a call comes to. -/
def Done (cx : Cx) (w : World) (d : V) (e : Ending) (w' : World) : Prop :=
  ∃ vv bs okf, e = .returned vv ∧ Below w.heap.size w w' ∧ OwnR cx w' okf d vv bs ∧ bs.Nodup ∧ (∀ b ∈ bs, w.heap.size ≤ b ∧ b < w'.heap.size) ∧ (∀ b, okf b → w.heap.size ≤ b ∧ b < w'.heap.size ∧ b ∉ bs ∧ Unf w' b)
/-- Arguments as data. -/
abbrev Args (cx : Cx) (w : World) (ds : List V) (vs : List Value) : Prop := All2 (VA cx w (fun b => b < w.heap.size) [] ⟨fun _ => none, fun _ => Go.undef, fun _ => True⟩) ds vs
/-- The slices of arguments that are written into, with what they hold. -/
def slC : List V → List Value → List (Arr × Value)
  | .arr a :: ds, v :: vs => (a, v) :: slC ds vs
  | _ :: ds, _ :: vs => slC ds vs
  | _, _ => []
def slA : V → Value → List (Arr × Value)
  | .arr a, v => [(a, v)]
  | .agg ds, .agg vs => slC ds vs.toList
  | _, _ => []
def slM : List Bool → List V → List Value → List (Arr × Value)
  | true :: ms, d :: ds, v :: vs => slA d v ++ slM ms ds vs
  | false :: ms, _ :: ds, _ :: vs => slM ms ds vs
  | _, _, _ => []
def blocksOf (l : List (Arr × Value)) : List Nat := l.flatMap fun p => p.2.ownBlock.toList
/-- Arguments as data: those that are written into are owned and flat. -/
def ArgL (cx : Cx) (w : World) (ok : Nat → Prop) : List Bool → List V → List Value → Prop
  | true :: ms, d :: ds, v :: vs => OwnA cx w (fun _ => False) d v (blocksOf (slA d v)) ∧ ArgL cx w ok ms ds vs
  | false :: ms, d :: ds, v :: vs => VA cx w ok [] ⟨fun _ => none, fun _ => Go.undef, fun _ => True⟩ d v ∧ ArgL cx w ok ms ds vs
  | [], ds, vs => All2 (VA cx w ok [] ⟨fun _ => none, fun _ => Go.undef, fun _ => True⟩) ds vs
  | _, _, _ => False
def ArgsM (cx : Cx) (w : World) (ms : List Bool) (ds : List V) (vs : List Value) : Prop :=
  (blocksOf (slM ms ds vs)).Nodup ∧ ArgL cx w (fun b => b < w.heap.size ∧ b ∉ blocksOf (slM ms ds vs)) ms ds vs
/-- What a slice that was written into holds behind the call. -/
def OutV (cx : Cx) (w' : World) (p : Arr × Value) (o : V) : Prop := ∃ a', o = .arr a' ∧ OwnArr cx w' (fun _ => False) a' p.2 p.2.ownBlock.toList
def DoneM (cx : Cx) (w : World) (sl : List (Arr × Value)) (d : V) (e : Ending) (w' : World) : Prop :=
  ∃ vv bs okf rs os, e = .returned vv ∧ d = .tup (rs ++ os) ∧ All2 (OutV cx w') sl os ∧ w'.os = w.os ∧ w'.tape = w.tape ∧ w'.output = w.output ∧ w.heap.size ≤ w'.heap.size ∧
    (∀ b, b < w.heap.size → b ∉ blocksOf sl → w'.heap[b]? = w.heap[b]?) ∧
    OwnR cx w' okf (packV rs) vv bs ∧ bs.Nodup ∧ (∀ b ∈ bs, w.heap.size ≤ b ∧ b < w'.heap.size) ∧ (∀ b, okf b → w.heap.size ≤ b ∧ b < w'.heap.size ∧ b ∉ bs ∧ Unf w' b)
/-- A call of its own kind is right. -/
def SpecOk (P : Program) (cx : Cx) (f : FuncId) (h : SpT) : Prop := ∀ key vs objs k r, h key vs objs k = some r → ∃ v n u, k v n u = some r ∧
  ∀ objs' F ι w ws, (∀ v ∈ vs, ∀ κ ∈ refs1 [] v, find objs' κ = find objs κ) → Heap cx F ι objs' w → Fresh n objs' → All2 (VR cx w (okOf w objs' ι) objs' ι) vs ws →
    Calls P f ws.toArray w fun e w' => ∃ vv ι', e = .returned vv ∧ After cx F ι objs' w ι' (u ++ (n ++ objs')) w' v vv
structure GOk (P : Program) (cx : Cx) (f : FuncId) (e : En) : Prop where
  enter : ∀ args w, (callFunc f args).run P w = .ok (.enter f args) w
  run : e.modes = [] → ∀ ds k r, e.g ds k = some r → ∃ d, k d = some r ∧ ∀ w vs, Args cx w ds vs → Calls P f vs.toArray w (Done cx w d)
  runM : e.modes ≠ [] → ∀ ds k r, e.g ds k = some r → ∃ d, k d = some r ∧ ∀ w vs, ArgsM cx w e.modes ds vs → Calls P f vs.toArray w (DoneM cx w (slM e.modes ds vs) d)
  runS : ∀ h, e.sp = some h → SpecOk P cx f h
def GamOk (P : Program) (cx : Cx) (Γ : Gam) : Prop := ∀ f e, find Γ f = some e → GOk P cx f e

section
variable {P : Program} {cx : Cx} {o : Oper} {σ : S} {key : Nat} {Γ : Gam} {k : V → Obs → Obs → R} {r : V} {F : Fr} {ι : Im} {w : World} {objs objs' : Obs}

theorem close1_ag {v : V} (h : ∀ κ ∈ refs1 [] v, find objs' κ = find objs κ) : close1 objs' v = close1 objs v := by
  cases v <;> simp only [close1]
  rename_i q
  rw [h q (by simp [refs1])]
theorem closes_ag : ∀ {cs : List V}, (∀ q, V.sref q ∈ cs → find objs' q = find objs q) → closes objs' cs = closes objs cs
  | [], _ => rfl
  | v :: cs, h => by
    have h1 : close1 objs' v = close1 objs v := by
      cases v <;> simp only [close1]
      rename_i q
      rw [h q (by simp)]
    simp only [closes, h1, closes_ag (cs := cs) fun q hq => h q (List.mem_cons.2 (.inr hq))]
theorem closeA_ag {v : V} (h : ∀ κ ∈ refs1 [] v, find objs' κ = find objs κ) : closeA objs' v = closeA objs v := by
  cases v
  case agg cs => simp only [closeA]; rw [closes_ag fun q hq => h q (by simp only [refs1]; exact mem_refsC.2 (.inr (.inl hq)))]
  case func f cs => simp only [closeA]; rw [closes_ag fun q hq => h q (by simp only [refs1]; exact mem_refsC.2 (.inr (.inl hq)))]
  all_goals (simp only [closeA]; exact close1_ag h)
theorem closeAs_ag : ∀ {vs : List V}, (∀ v ∈ vs, ∀ κ ∈ refs1 [] v, find objs' κ = find objs κ) → closeAs objs' vs = closeAs objs vs
  | [], _ => rfl
  | v :: vs, h => by
    simp only [closeAs, closeA_ag (h v (by simp)), closeAs_ag (vs := vs) fun u hu => h u (List.mem_cons.2 (.inr hu))]

theorem close1_okG (H : Heap cx F ι objs w) {ok' : Nat → Prop} (hok : ∀ b, okOf w objs ι b → ok' b) {ι0 : Im} {v d : V} {vv : Value}
    (hr : ∀ q ∈ refs1 [] v, ∀ ob b, find objs q = some ob → live ob → ι.blk q = some b → ok' b) (h : close1 objs v = some d) (hv : VC cx w (okOf w objs ι) objs ι v vv) : VC cx w ok' [] ι0 d vv := by
  cases v <;> simp only [close1] at h <;> try (cases h; done)
  case int k n => cases h; exact hv
  case bool b => cases h; exact hv
  case arr a => cases h; exact ArrV.mono (fun b hb => ⟨hok b hb, rfl⟩) hv
  case sref q =>
    split at h
    · rename_i fr a hq
      cases h
      obtain ⟨sh, h1, h2, base, cap, e, h3⟩ := arrOf_ok (x := .sref q) H hv (fr := fr) (a := a) (by simp only [arrOf, hq])
      obtain ⟨ob, e1, e2⟩ := hv
      rw [hq] at e1; cases e1
      have e2 := e2 _ _ rfl
      obtain ⟨sh', xs, _, _, _, _, p5, _⟩ := H.obok q _ hq
      refine ⟨sh, h1, h2, ?_⟩
      rcases h3 with h0 | ⟨ad, f, rfl, k1, k2, k3, k4, k5⟩
      · exact .inl ⟨List.eq_nil_of_length_eq_zero h0, base, cap, by rw [e, h0]⟩
      · refine .inr ⟨ad, cap, f, e, k1, k2, hr q (by simp [refs1]) _ _ hq trivial ?_, k4, fun i j hi hj => (k5 i j hi hj).mono fun b hb => ⟨hok b hb.1, rfl⟩⟩
        rw [p5, ← e2, e]; rfl
    · cases h
theorem closes_okG (H : Heap cx F ι objs w) {ok' : Nat → Prop} (hok : ∀ b, okOf w objs ι b → ok' b) {ι0 : Im} : ∀ {cs ds : List V} {l : List Value}, (∀ q, V.sref q ∈ cs → ∀ ob b, find objs q = some ob → live ob → ι.blk q = some b → ok' b) → closes objs cs = some ds → All2 (VC cx w (okOf w objs ι) objs ι) cs l → All2 (VC cx w ok' [] ι0) ds l
  | [], ds, [], _, h, _ => by simp only [closes, Option.some.injEq] at h; subst h; trivial
  | v :: cs, ds, x :: l, hr, h, ha => by
    simp only [closes] at h
    split at h
    · cases h
    · rename_i c hc
      split at h
      · cases h
      · rename_i r hrr
        cases h
        refine ⟨close1_okG H hok (fun q hq => ?_) hc ha.1, closes_okG H hok (fun q hq => hr q (List.mem_cons.2 (.inr hq))) hrr ha.2⟩
        cases v <;> simp only [close1] at hc <;> try (cases hc; done)
        case sref q' =>
          have : q = q' := by simpa [refs1] using hq
          subst this
          exact hr q (by simp)
        all_goals (simp [refs1] at hq)
  | [], _, _ :: _, _, _, h => h.elim
  | _ :: _, _, [], _, _, h => h.elim
theorem VA_of_close1 {ι0 : Im} {ok : Nat → Prop} {v d : V} {vv : Value} (h : close1 objs v = some d) (hv : VC cx w ok [] ι0 d vv) : VA cx w ok [] ι0 d vv := by
  cases v <;> simp only [close1] at h <;> try (cases h; done)
  case sref q =>
    split at h
    · cases h; exact hv
    · cases h
  all_goals (cases h; exact hv)
theorem closeA_okG (H : Heap cx F ι objs w) {ok' : Nat → Prop} (hok : ∀ b, okOf w objs ι b → ok' b) {ι0 : Im} {v d : V} {vv : Value} (hr : ∀ q ∈ refs1 [] v, ∀ ob b, find objs q = some ob → live ob → ι.blk q = some b → ok' b) (h : closeA objs v = some d) (hv : VR cx w (okOf w objs ι) objs ι v vv) : VA cx w ok' [] ι0 d vv := by
  cases v
  case agg cs =>
    simp only [closeA] at h
    split at h
    · rename_i ds hds
      cases h
      obtain ⟨l, rfl, hl⟩ := hv
      exact ⟨l, rfl, closes_okG H hok (fun q hq => hr q (by simp only [refs1]; exact mem_refsC.2 (.inr (.inl hq)))) hds hl⟩
    · cases h
  case func f cs =>
    simp only [closeA] at h
    split at h
    · rename_i ds hds
      cases h
      obtain ⟨l, rfl, hl⟩ := hv
      exact ⟨l, rfl, closes_okG H hok (fun q hq => hr q (by simp only [refs1]; exact mem_refsC.2 (.inr (.inl hq)))) hds hl⟩
    · cases h
  case tup => simp [closeA, close1] at h
  all_goals
    simp only [closeA] at h
    exact VA_of_close1 h (close1_okG H hok hr h hv)
theorem closeAs_okG (H : Heap cx F ι objs w) {ok' : Nat → Prop} (hok : ∀ b, okOf w objs ι b → ok' b) {ι0 : Im} : ∀ {cs ds : List V} {l : List Value}, (∀ v ∈ cs, ∀ q ∈ refs1 [] v, ∀ ob b, find objs q = some ob → live ob → ι.blk q = some b → ok' b) → closeAs objs cs = some ds → All2 (VR cx w (okOf w objs ι) objs ι) cs l → All2 (VA cx w ok' [] ι0) ds l
  | [], ds, [], _, h, _ => by simp only [closeAs, Option.some.injEq] at h; subst h; trivial
  | v :: cs, ds, x :: l, hr, h, ha => by
    simp only [closeAs] at h
    split at h
    · cases h
    · rename_i c hc
      split at h
      · cases h
      · rename_i r hrr
        cases h
        exact ⟨closeA_okG H hok (hr v (by simp)) hc ha.1, closeAs_okG H hok (fun u hu => hr u (List.mem_cons.2 (.inr hu))) hrr ha.2⟩
  | [], _, _ :: _, _, _, h => h.elim
  | _ :: _, _, [], _, _, h => h.elim
theorem closeAs_ok (H : Heap cx F ι objs w) {ι0 : Im} {cs ds : List V} {l : List Value} (h : closeAs objs cs = some ds) (hv : All2 (VR cx w (okOf w objs ι) objs ι) cs l) : All2 (VA cx w (fun b => b < w.heap.size) [] ι0) ds l :=
  closeAs_okG H (fun _ hb => hb.1) (fun _ _ q _ ob b h1 h2 h3 => (H.own q ob b h1 h2 h3).2) h hv

theorem closeAs_mem : ∀ {cs ds : List V}, closeAs objs cs = some ds → ∀ v ∈ cs, ∃ d, closeA objs v = some d
  | [], _, _, v, hv => by cases hv
  | u :: cs, ds, h, v, hv => by
    simp only [closeAs] at h
    split at h
    · cases h
    · rename_i c hc
      split at h
      · cases h
      · rename_i r hr
        rcases List.mem_cons.1 hv with rfl | hv
        · exact ⟨c, hc⟩
        · exact closeAs_mem hr v hv

end
end PM

namespace PM
open Go RowKit

section
variable {P : Program} {cx : Cx} {F : Fr} {ι : Im} {w : World} {objs objs' : Obs}

theorem isRows_ak {a b : Arr} (h : akOf a = akOf b) : isRows a = isRows b := by
  cases a <;> cases b <;> simp_all [akOf, isRows]
/-- An object that is written into and its slice. -/
def SlR (objs : Obs) (ι : Im) (o : Nat) (p : Arr × Value) : Prop := (∃ fr, find objs o = some (.arr fr p.1)) ∧ p.2 = ι.sv o
def FlatO (objs : Obs) (o : Nat) : Prop := ∃ fr b, find objs o = some (.arr fr b) ∧ isRows b = false

theorem own_of_ob (H : Heap cx F ι objs w) {o : Nat} {fr : Bool} {b : Arr} (h : find objs o = some (.arr fr b)) (hb : isRows b = false) : OwnArr cx w (fun _ => False) b (ι.sv o) (ι.sv o).ownBlock.toList := by
  obtain ⟨sh, xs, k1, k2, k3, k4, k5, k6⟩ := H.obok o _ h
  refine ⟨sh, xs, k1, k2, k3, k4, rfl, fun i j hi hj => ?_⟩
  obtain ⟨cv, c1, c2⟩ := k6 i j hi hj
  exact ⟨cv, c1, c2.flat hb k1⟩

theorem refsC_acc : ∀ (cs : List V) (seen : List Nat), refsC seen cs = seen ++ refsC [] cs
  | [], seen => by simp [refsC]
  | v :: cs, seen => by
    cases v <;> simp only [refsC]
    case sref o => rw [refsC_acc cs (seen ++ [o]), refsC_acc cs ([] ++ [o])]; simp
    case pbox o off => rw [refsC_acc cs (seen ++ [o]), refsC_acc cs ([] ++ [o])]; simp
    all_goals exact refsC_acc cs seen
theorem refs1_acc (v : V) (seen : List Nat) : refs1 seen v = seen ++ refs1 [] v := by
  cases v <;> simp only [refs1, List.nil_append, List.append_nil]
  case agg cs => exact refsC_acc cs seen
  case func f cs => exact refsC_acc cs seen
theorem outRefs_acc : ∀ (ms : List Bool) (vs : List V) (seen : List Nat), outRefs ms vs seen = seen ++ outRefs ms vs []
  | [], vs, seen => by cases vs <;> simp [outRefs]
  | true :: ms, [], seen => by simp [outRefs]
  | false :: ms, [], seen => by simp [outRefs]
  | true :: ms, v :: vs, seen => by
    simp only [outRefs]
    rw [outRefs_acc ms vs (refs1 seen v), outRefs_acc ms vs (refs1 [] v), refs1_acc v seen, List.append_assoc]
  | false :: ms, v :: vs, seen => by
    simp only [outRefs]
    exact outRefs_acc ms vs seen
theorem inRefs_acc : ∀ (ms : List Bool) (vs : List V) (seen : List Nat), inRefs ms vs seen = seen ++ inRefs ms vs []
  | ms, [], seen => by cases ms with | nil => simp [inRefs] | cons m ms => cases m <;> simp [inRefs]
  | [], v :: vs, seen => by
    simp only [inRefs]
    rw [inRefs_acc [] vs (refs1 seen v), inRefs_acc [] vs (refs1 [] v), refs1_acc v seen, List.append_assoc]
  | true :: ms, v :: vs, seen => by
    simp only [inRefs]
    exact inRefs_acc ms vs seen
  | false :: ms, v :: vs, seen => by
    simp only [inRefs]
    rw [inRefs_acc ms vs (refs1 seen v), inRefs_acc ms vs (refs1 [] v), refs1_acc v seen, List.append_assoc]

theorem argC_ok (H : Heap cx F ι objs w) : ∀ {cs ds : List V} {l : List Value}, ownsC cs = true → closes objs cs = some ds → All2 (VC cx w (okOf w objs ι) objs ι) cs l → (∀ o ∈ refsC [] cs, FlatO objs o) →
    OwnL1 cx w (fun _ => False) ds l (blocksOf (slC ds l)) ∧ All2 (SlR objs ι) (refsC [] cs) (slC ds l)
  | [], ds, [], _, h, _, _ => by simp only [closes, Option.some.injEq] at h; subst h; exact ⟨rfl, trivial⟩
  | v :: cs, ds, x :: l, ho, h, ha, hf => by
    simp only [closes] at h
    split at h
    · cases h
    · rename_i c hc
      split at h
      · cases h
      · rename_i r hrr
        cases h
        cases v <;> simp only [ownsC] at ho <;> (try (cases ho; done)) <;> simp only [close1] at hc
        case int k n =>
          cases hc
          obtain ⟨i1, i2⟩ := argC_ok H ho hrr ha.2 (by simpa [refsC] using hf)
          exact ⟨⟨[], _, rfl, ⟨ha.1, rfl⟩, i1⟩, by simpa [refsC, slC] using i2⟩
        case bool b =>
          cases hc
          obtain ⟨i1, i2⟩ := argC_ok H ho hrr ha.2 (by simpa [refsC] using hf)
          exact ⟨⟨[], _, rfl, ⟨ha.1, rfl⟩, i1⟩, by simpa [refsC, slC] using i2⟩
        case sref o =>
          simp only [refsC] at hf ⊢
          rw [refsC_acc] at hf ⊢
          obtain ⟨fr, b, h1, h2⟩ := hf o (by simp)
          rw [h1] at hc
          cases hc
          obtain ⟨i1, i2⟩ := argC_ok H ho hrr ha.2 (fun o' ho' => hf o' (List.mem_append.2 (.inr ho')))
          obtain ⟨ob, e1, e2⟩ := ha.1
          rw [h1] at e1; cases e1
          have e2 := e2 _ _ rfl
          refine ⟨⟨x.ownBlock.toList, blocksOf (slC r l), by simp [blocksOf, slC], ?_, i1⟩, ⟨⟨fr, h1⟩, e2⟩, i2⟩
          show OwnArr cx w _ b x _
          rw [e2]
          exact own_of_ob H h1 h2
  | [], _, _ :: _, _, _, h, _ => h.elim
  | _ :: _, _, [], _, _, h, _ => h.elim

theorem argT_ok (H : Heap cx F ι objs w) {v d : V} {x : Value} (ho : modeV v = true) (h : closeA objs v = some d) (hv : VR cx w (okOf w objs ι) objs ι v x) (hf : ∀ o ∈ refs1 [] v, FlatO objs o) :
    OwnA cx w (fun _ => False) d x (blocksOf (slA d x)) ∧ All2 (SlR objs ι) (refs1 [] v) (slA d x) := by
  cases v <;> simp only [modeV] at ho <;> (try (cases ho; done)) <;> simp only [closeA] at h
  case sref o =>
    obtain ⟨fr, b, h1, h2⟩ := hf o (by simp [refs1])
    simp only [close1, h1] at h
    cases h
    obtain ⟨ob, e1, e2⟩ := hv
    rw [h1] at e1; cases e1
    have e2 := e2 _ _ rfl
    refine ⟨?_, ⟨⟨fr, h1⟩, e2⟩, trivial⟩
    show OwnArr cx w _ b x _
    simp only [blocksOf, slA, List.flatMap_cons, List.flatMap_nil, List.append_nil]
    rw [e2]
    exact own_of_ob H h1 h2
  case agg cs =>
    split at h
    · rename_i ds hds
      cases h
      obtain ⟨l, rfl, hl⟩ := hv
      obtain ⟨i1, i2⟩ := argC_ok H ho hds hl (by simpa [refs1] using hf)
      exact ⟨⟨l, rfl, by simpa [slA] using i1⟩, by simpa [slA, refs1] using i2⟩
    · cases h

theorem argL_ok (H : Heap cx F ι objs w) {ok' : Nat → Prop} (hok : ∀ b, okOf w objs ι b → ok' b) : ∀ {ms : List Bool} {cs ds : List V} {l : List Value}, modesOk ms cs = true → closeAs objs cs = some ds →
    All2 (VR cx w (okOf w objs ι) objs ι) cs l → (∀ o ∈ outRefs ms cs [], FlatO objs o) → (∀ q ∈ inRefs ms cs [], ∀ ob b, find objs q = some ob → live ob → ι.blk q = some b → ok' b) →
    ArgL cx w ok' ms ds l ∧ All2 (SlR objs ι) (outRefs ms cs []) (slM ms ds l)
  | [], cs, ds, l, _, h, ha, _, hi => by
    refine ⟨?_, by cases cs <;> simp [outRefs, slM] <;> trivial⟩
    have hi' : ∀ v ∈ cs, ∀ q ∈ refs1 [] v, ∀ ob b, find objs q = some ob → live ob → ι.blk q = some b → ok' b := by
      have gen : ∀ (cs : List V), ∀ v ∈ cs, ∀ q ∈ refs1 [] v, q ∈ inRefs [] cs [] := by
        intro cs
        induction cs with
        | nil => intro v hv; cases hv
        | cons u cs ih =>
          intro v hv q hq
          simp only [inRefs]
          rw [inRefs_acc]
          rcases List.mem_cons.1 hv with rfl | hv
          · exact List.mem_append.2 (.inl hq)
          · exact List.mem_append.2 (.inr (ih v hv q hq))
      exact fun v hv q hq => hi q (gen cs v hv q hq)
    have := closeAs_okG H hok (ι0 := ⟨fun _ => none, fun _ => Go.undef, fun _ => True⟩) hi' h ha
    simpa only [ArgL] using this
  | true :: ms, v :: cs, ds, x :: l, hm, h, ha, hf, hi => by
    simp only [modesOk] at hm
    split at hm
    case h_2 => cases hm
    rename_i hmv
    simp only [closeAs] at h
    split at h
    · cases h
    · rename_i c hc
      split at h
      · cases h
      · rename_i r hrr
        cases h
        simp only [outRefs] at hf ⊢
        rw [outRefs_acc] at hf ⊢
        simp only [inRefs] at hi
        obtain ⟨a1, a2⟩ := argT_ok H hmv hc ha.1 (fun o ho => hf o (List.mem_append.2 (.inl ho)))
        obtain ⟨b1, b2⟩ := argL_ok H hok hm hrr ha.2 (fun o ho => hf o (List.mem_append.2 (.inr ho))) hi
        exact ⟨⟨a1, b1⟩, by simp only [slM]; exact a2.append b2⟩
  | false :: ms, v :: cs, ds, x :: l, hm, h, ha, hf, hi => by
    simp only [modesOk] at hm
    simp only [closeAs] at h
    split at h
    · cases h
    · rename_i c hc
      split at h
      · cases h
      · rename_i r hrr
        cases h
        simp only [outRefs] at hf ⊢
        simp only [inRefs] at hi
        rw [inRefs_acc] at hi
        have a1 := closeA_okG H hok (ι0 := ⟨fun _ => none, fun _ => Go.undef, fun _ => True⟩) (fun q hq => hi q (List.mem_append.2 (.inl hq))) hc ha.1
        obtain ⟨b1, b2⟩ := argL_ok H hok hm hrr ha.2 hf (fun q hq => hi q (List.mem_append.2 (.inr hq)))
        exact ⟨⟨a1, b1⟩, by simpa only [slM] using b2⟩
  | true :: _, [], _, _, hm, _, _, _, _ => by simp [modesOk] at hm
  | false :: _, [], _, _, hm, _, _, _, _ => by simp [modesOk] at hm
  | true :: _, _ :: _, _, [], _, _, h, _, _ => h.elim
  | false :: _, _ :: _, _, [], _, _, h, _, _ => h.elim

theorem nodup_ok : ∀ {l : List Nat}, nodup l = true → l.Nodup
  | [], _ => List.nodup_nil
  | n :: l, h => by
    simp only [nodup] at h
    split at h
    · cases h
    · rename_i hm
      refine List.nodup_cons.2 ⟨fun hx => ?_, nodup_ok h⟩
      rw [mem_iff.2 hx] at hm; cases hm
theorem apart_ok : ∀ {l m : List Nat}, apart l m = true → ∀ x ∈ l, x ∉ m
  | [], _, _, x, hx => by cases hx
  | n :: l, m, h, x, hx => by
    simp only [apart] at h
    split at h
    · cases h
    · rename_i hm
      rcases List.mem_cons.1 hx with rfl | hx
      · intro hy; rw [mem_iff.2 hy] at hm; cases hm
      · exact apart_ok h x hx

theorem mem_toList {o : Option Nat} {b : Nat} : b ∈ o.toList ↔ o = some b := by cases o <;> simp [eq_comm]
/-- Which blocks are written. -/
theorem blocks_mem (H : Heap cx F ι objs w) : ∀ {refs : List Nat} {sl : List (Arr × Value)}, All2 (SlR objs ι) refs sl → ∀ b, b ∈ blocksOf sl ↔ ∃ o ∈ refs, ι.blk o = some b
  | [], [], _, b => by simp [blocksOf]
  | o :: refs, p :: sl, h, b => by
    obtain ⟨⟨fr, h1⟩, h2⟩ := h.1
    obtain ⟨sh, xs, _, _, _, _, k5, _⟩ := H.obok o _ h1
    have ih := blocks_mem H h.2 b
    simp only [blocksOf, List.flatMap_cons, List.mem_append, mem_toList, List.mem_cons, exists_eq_or_imp] at ih ⊢
    rw [ih, k5, h2]
  | [], _ :: _, h, _ => h.elim
  | _ :: _, [], h, _ => h.elim
theorem blocks_nodup (H : Heap cx F ι objs w) : ∀ {refs : List Nat} {sl : List (Arr × Value)}, All2 (SlR objs ι) refs sl → refs.Nodup → (blocksOf sl).Nodup
  | [], [], _, _ => List.nodup_nil
  | o :: refs, p :: sl, h, hn => by
    obtain ⟨⟨fr, h1⟩, h2⟩ := h.1
    obtain ⟨sh, xs, _, _, _, _, k5, _⟩ := H.obok o _ h1
    obtain ⟨n1, n2⟩ := List.nodup_cons.1 hn
    have ih := blocks_nodup H h.2 n2
    simp only [blocksOf, List.flatMap_cons] at ih ⊢
    refine List.nodup_append.2 ⟨by cases p.2.ownBlock <;> simp, ih, fun x hx y hy e => ?_⟩
    subst e
    obtain ⟨o', ho', hb⟩ := (blocks_mem H h.2 x).1 hy
    obtain ⟨i, hi⟩ := List.mem_iff_getElem?.1 ho'
    obtain ⟨p', _, ⟨fr', g1⟩, _⟩ := h.2.get i o' hi
    have := H.inj o o' _ _ x h1 g1 trivial trivial (by rw [k5, ← h2]; exact mem_toList.1 hx) hb
    subst this
    exact n1 ho'
  | [], _ :: _, h, _ => h.elim
  | _ :: _, [], h, _ => h.elim

/-- The world whose memory ends there. -/
def _root_.Go.World.cut (w : World) (n : Nat) : World := { w with heap := w.heap.extract 0 n }
theorem cut_heap (w : World) {n b : Nat} (h : b < n) : (w.cut n).heap[b]? = w.heap[b]? := by
  simp only [World.cut, Array.getElem?_extract]
  by_cases hb : b < w.heap.size
  · rw [if_pos (by omega)]; simp
  · rw [if_neg (by omega), Array.getElem?_eq_none (by omega)]
theorem cut_size (w : World) {n : Nat} (h : n ≤ w.heap.size) : (w.cut n).heap.size = n := by
  simp [World.cut]; omega

theorem slice_len {b e size n m : Nat} {v : Value} {xs ys : List Value} {w w' : World} (h : w.ownsRow b e size v n xs) (g : w'.ownsRow b e size v m ys) : n = m := by
  rcases h.2 with ⟨h1, h2⟩ | ⟨g1, c, cur, h1, _⟩ <;> rcases g.2 with ⟨k1, k2⟩ | ⟨g2, c2, cur2, k1, _⟩
  · omega
  · rw [h1] at k1; cases k1
  · rw [h1] at k1; cases k1
  · rw [h1] at k1; cases k1; rfl

/-- Objects that a call has written into. -/
theorem Heap.call (H : Heap cx F ι objs w) {u : Obs} {w' : World} (hsz : w.heap.size ≤ w'.heap.size) (hos : w'.os = w.os) (htp : w'.tape = w.tape) (hou : w'.output = w.output)
    (hu : ∀ o ob, find u o = some ob → ∃ fr b a, find objs o = some (.arr fr b) ∧ ob = .arr fr a ∧ akOf a = akOf b ∧ isRows a = false ∧ OwnArr cx w' (fun _ => False) a (ι.sv o) (ι.sv o).ownBlock.toList)
    (hw : ∀ b, b < w.heap.size → (∀ o ob, find u o = some ob → ι.blk o ≠ some b) → w'.heap[b]? = w.heap[b]?) :
    Heap cx F ι (u ++ objs) (w'.cut w.heap.size) ∧ Ext ι objs w ι (u ++ objs) (w'.cut w.heap.size) := by
  have hf : ∀ o ob, find (u ++ objs) o = some ob → find u o = some ob ∨ (find u o = none ∧ find objs o = some ob) := by
    intro o ob h
    rw [find_append] at h
    cases hn : find u o with
    | some x => rw [hn] at h; left; simpa using h
    | none => rw [hn] at h; right; simpa using h
  have old : ∀ o ob, find (u ++ objs) o = some ob → live ob → ∃ ob0, find objs o = some ob0 ∧ live ob0 := by
    intro o ob h hl
    rcases hf o ob h with h | ⟨_, h⟩
    · obtain ⟨fr, b, a, h1, _⟩ := hu o ob h
      exact ⟨_, h1, trivial⟩
    · exact ⟨ob, h, hl⟩
  have hlen : ∀ o fr b a, find objs o = some (.arr fr b) → akOf a = akOf b → OwnArr cx w' (fun _ => False) a (ι.sv o) (ι.sv o).ownBlock.toList → (rowsOf a).length = (rowsOf b).length := by
    rintro o fr b a h1 h2 ⟨sh, xs, k1, _, _, k4, _⟩
    obtain ⟨sh', xs', g1, _, _, g4, _⟩ := H.obok o _ h1
    rw [h2] at k1 k4
    rw [g1] at k1; cases k1
    exact slice_len k4 g4
  have hwc : ∀ b, b < w.heap.size → (∀ o ob, find u o = some ob → ι.blk o ≠ some b) → (w'.cut w.heap.size).heap[b]? = w.heap[b]? := fun b hb h => by rw [cut_heap _ hb]; exact hw b hb h
  have hnu : ∀ b, okOf w objs ι b → ∀ o ob, find u o = some ob → ι.blk o ≠ some b := by
    intro b hb o ob ho
    obtain ⟨fr, b', a, h1, _⟩ := hu o ob ho
    exact hb.2.1 o _ h1 trivial
  have hext : Ext ι objs w ι (u ++ objs) (w'.cut w.heap.size) := by
    refine ⟨fun b hb => ⟨⟨by rw [cut_size _ hsz]; exact hb.1, fun o ob ho hl => ?_, hb.2.2⟩, hwc b hb.1 (hnu b hb)⟩, fun o ob ho => ?_⟩
    · obtain ⟨ob0, g1, g2⟩ := old o ob ho hl
      exact hb.2.1 o ob0 g1 g2
    · cases hn : find u o with
      | some x =>
        obtain ⟨fr, b, a, h1, rfl, h2, h3, h4⟩ := hu o x hn
        rw [h1] at ho; cases ho
        refine ⟨.arr fr a, by rw [find_append, hn]; rfl, ?_⟩
        exact ⟨fr, b, rfl, rfl, h2, hlen o fr b a h1 h2 h4⟩
      | none =>
        refine ⟨ob, by rw [find_append, hn]; simpa using ho, ?_⟩
        cases ob with
        | box cs => exact ⟨⟨cs, rfl⟩, rfl⟩
        | arr fr a => exact ⟨fr, a, rfl, rfl, rfl, rfl⟩
        | dead => trivial
  refine ⟨⟨fun o ob ho => ?_, fun o o' ob ob' b ho ho' hl hl' h1 h2 => ?_, fun o ob b ho hl h1 => ?_, by rw [cut_size _ hsz]; exact H.size, hos.trans H.os, htp.trans H.tape, hou.trans H.output, fun b hb0 hn => ?_, fun o a b ho h1 => ?_, H.gd, H.gdF⟩, hext⟩
  · rcases hf o ob ho with h | ⟨hn, h⟩
    · obtain ⟨fr, b, a, h1, rfl, h2, h3, sh, xs, k1, k2, k3, k4, k5, k6⟩ := hu o ob h
      obtain ⟨sh', xs', _, _, _, _, g5, _⟩ := H.obok o _ h1
      refine ⟨sh, xs, k1, k2, k3, ?_, g5, fun i j hi hj => ?_⟩
      · refine ⟨k4.1, ?_⟩
        rcases k4.2 with hn | ⟨g, cap, cur, hv, hg, hh, r⟩
        · exact .inl hn
        · refine .inr ⟨g, cap, cur, hv, hg, ?_, r⟩
          rw [cut_heap]
          · exact hh
          · exact (H.own o _ g h1 trivial (by rw [g5, hv]; rfl)).2
      · obtain ⟨cv, c1, c2⟩ := k6 i j hi hj
        exact ⟨cv, c1, c2.flat h3 k1⟩
    · by_cases hl : live ob
      · refine ObOK.ext hext rfl rfl (fun b hbk => hwc b (H.own o ob b h hl hbk).2 fun o' ob' ho' hb' => ?_) (H.obok o ob h)
        obtain ⟨fr, b', a, h1, _⟩ := hu o' ob' ho'
        have := H.inj o o' ob _ b h h1 hl trivial hbk hb'
        subst this
        rw [hn] at ho'; cases ho'
      · cases ob with
        | dead => trivial
        | box cs => exact (hl trivial).elim
        | arr fr a => exact (hl trivial).elim
  · obtain ⟨ob0, g1, g2⟩ := old o ob ho hl
    obtain ⟨ob0', g1', g2'⟩ := old o' ob' ho' hl'
    exact H.inj o o' ob0 ob0' b g1 g1' g2 g2' h1 h2
  · obtain ⟨ob0, g1, g2⟩ := old o ob ho hl
    obtain ⟨q1, q2⟩ := H.own o ob0 b g1 g2 h1
    exact ⟨q1, by rw [cut_size _ hsz]; exact q2⟩
  · rw [hwc b (Nat.lt_of_lt_of_le hb0 H.size) fun o ob ho hb => ?_]
    · exact H.keep b hb0 hn
    · obtain ⟨fr, b', a, h1, _⟩ := hu o ob ho
      exact hn (H.own o _ b h1 trivial hb).1
  · rcases hf o _ ho with h | ⟨_, h⟩
    · obtain ⟨fr, b', a', g1, e, _⟩ := hu o _ h
      cases e
      exact H.fresh o b' b g1 h1
    · exact H.fresh o a b h h1
end
end PM

namespace PM
open Go RowKit

section
variable {P : Program} {cx : Cx} {o : Oper} {σ : S} {key : Nat} {Γ : Gam} {k : V → Obs → Obs → R} {r : V} {F : Fr} {ι : Im} {w : World} {objs objs' : Obs}

theorem splitAt'_eq {α : Type} : ∀ (n : Nat) (l : List α), splitAt' n l = (l.take n, l.drop n)
  | 0, l => by simp [splitAt']
  | n + 1, [] => by simp [splitAt']
  | n + 1, x :: l => by simp [splitAt', splitAt'_eq n l]
theorem outs_mem : ∀ {refs : List Nat} {ws : List V} {u : Obs}, outs objs refs ws = some u → ∀ o ob, find u o = some ob → ∃ (i : Nat) (fr : Bool) (b a : Arr), refs[i]? = some o ∧ ws[i]? = some (.arr a) ∧ find objs o = some (.arr fr b) ∧ ob = .arr fr a ∧ akOf b = akOf a ∧ isRows a = false
  | [], ws, u, h, o, ob, ho => by
    cases ws with
    | nil => simp only [outs, Option.some.injEq] at h; subst h; simp [find_nil] at ho
    | cons x ws => simp [outs] at h
  | q :: refs, [], u, h, o, ob, ho => by simp [outs] at h
  | q :: refs, x :: ws, u, h, o, ob, ho => by
    cases x <;> simp only [outs] at h <;> try (cases h; done)
    rename_i a
    split at h
    case h_2 => cases h
    rename_i fr b hq
    split at h
    case h_2 => cases h
    rename_i hak hr
    split at h
    case h_2 => cases h
    rename_i r hrr
    cases h
    rw [find_cons] at ho
    split at ho
    · rename_i e; subst e
      cases ho
      exact ⟨0, fr, b, a, rfl, rfl, hq, rfl, akEq_ok hak, hr⟩
    · obtain ⟨i, fr', b', a', h1, h2, h3⟩ := outs_mem hrr o ob ho
      exact ⟨i + 1, fr', b', a', by simpa using h1, by simpa using h2, h3⟩
theorem outs_all : ∀ {refs : List Nat} {ws : List V} {u : Obs}, outs objs refs ws = some u → ∀ o ∈ refs, ∃ ob, find u o = some ob
  | [], _, _, _, o, ho => by cases ho
  | q :: refs, [], u, h, o, ho => by simp [outs] at h
  | q :: refs, x :: ws, u, h, o, ho => by
    cases x <;> simp only [outs] at h <;> try (cases h; done)
    rename_i a
    split at h
    case h_2 => cases h
    rename_i fr b hq
    split at h
    case h_2 => cases h
    rename_i hak hr
    split at h
    case h_2 => cases h
    rename_i r hrr
    cases h
    by_cases e : q = o
    · subst e; exact ⟨_, by rw [find_cons, if_pos rfl]⟩
    · rcases List.mem_cons.1 ho with rfl | ho
      · exact (e rfl).elim
      · obtain ⟨ob, h1⟩ := outs_all hrr o ho
        exact ⟨ob, by rw [find_cons, if_neg e]; exact h1⟩

theorem pop_call (hc : CxOk P cx) (hΓ : GamOk P cx Γ) {c : Call} {fo : Operand} (ho : o.op = .call c) (hb : c.callee = .value fo) (h : pop std cx Γ key o σ k = some r) : Sound P cx o σ k r := by
  simp only [pop, ho, hb] at h
  obtain ⟨vs, n, h1, h2⟩ := evs_sound hc h
  obtain ⟨fv, h3, h4⟩ := ev0_sound (cx := cx) h1
  cases fv <;> simp only at h3 <;> try (cases h3; done)
  rename_i f cap
  simp only [callG] at h3
  obtain ⟨e, he, h5⟩ := onOpt_some h3
  obtain ⟨g1, g2, g3, g4⟩ := hΓ f e he
  cases hsp : e.sp with
  | some sp =>
    rw [hsp] at h5
    simp only at h5
    cases cap with
    | cons x cap => cases h5
    | nil =>
      simp only at h5
      obtain ⟨v, m, u, h6, h7⟩ := g4 sp hsp key vs _ _ _ h5
      refine ⟨v, m ++ n, u, h6, fun τ ag F ι act w hs hf => .inr (.inr ?_)⟩
      obtain ⟨f1, f2⟩ := fresh_app hf
      obtain ⟨a1, a2⟩ := h2 τ (fun y hy => ag y (mem_args ho (by exact hy)))
      obtain ⟨ι', H', E', V'⟩ := a2 F ι act w hs f1
      obtain ⟨b1, b2⟩ := h4 τ (ag fo (by simp [ho, Op.operands, Call.operands, hb]))
      obtain ⟨cv, hfo, hcap⟩ := VR.ext E' (b2 F ι act w hs)
      have hcv : cv = [] := by
        cases cv with
        | nil => rfl
        | cons x y => exact hcap.elim
      subst hcv
      have := g1 (c.args.map act.eval) w
      refine ⟨f, (c.args.toList.map act.eval).toArray, ?_, ((h7 (n ++ τ.objs) F ι' w _ (fun v hv κ hκ => agE a1 v hv κ hκ) H' (fresh_of f2) V').mono fun e' w' hq => ?_)⟩
      · have e1 : (c.args.toList.map act.eval).toArray = c.args.map act.eval := by apply Array.ext'; simp
        rw [e1]
        simp [execOp, ho, resolve, hb, hfo, Deferred.ofValue, invoke, this]
      · obtain ⟨vv, ι2, k1, k2⟩ := hq
        refine ⟨vv, ι2, k1, by simpa using k2.heap, by simpa using E'.trans k2.ext, by simpa using k2.val⟩
  | none =>
  rw [hsp] at h5
  simp only [callM] at h5
  obtain ⟨ds, hds, h6⟩ := onOpt_some h5
  have args : ∀ τ, Ag o.op.operands.toList σ τ → ∀ F ι act w, Sim cx F ι τ act w → freshKeys τ.objs n = true → ∃ ι' ws, Heap cx F ι' (n ++ τ.objs) w ∧ Ext ι τ.objs w ι' (n ++ τ.objs) w ∧
      All2 (VR cx w (okOf w (n ++ τ.objs) ι') (n ++ τ.objs) ι') (vs ++ cap) ws ∧ closeAs (n ++ τ.objs) (vs ++ cap) = some ds ∧ (∀ v ∈ vs ++ cap, ∀ κ ∈ refs1 [] v, find (n ++ τ.objs) κ = find (n ++ σ.objs) κ) ∧
      (execOp act.eval o).run P w = .ok (.enter f ws.toArray) w := by
    intro τ ag F ι act w hs f1
    obtain ⟨a1, a2⟩ := h2 τ (fun y hy => ag y (mem_args ho (by exact hy)))
    obtain ⟨ι', H', E', V'⟩ := a2 F ι act w hs f1
    obtain ⟨b1, b2⟩ := h4 τ (ag fo (by simp [ho, Op.operands, Call.operands, hb]))
    obtain ⟨cv, hfo, hcap⟩ := VR.ext E' (b2 F ι act w hs)
    have hcap' : All2 (VR cx w (okOf w (n ++ τ.objs) ι') (n ++ τ.objs) ι') cap cv := hcap.mono fun a b hab => by
      cases a <;> first | exact hab | exact hab.elim
    have hall : All2 (VR cx w (okOf w (n ++ τ.objs) ι') (n ++ τ.objs) ι') (vs ++ cap) (c.args.toList.map act.eval ++ cv) := V'.append hcap'
    have hagr : ∀ v ∈ vs ++ cap, ∀ κ ∈ refs1 [] v, find (n ++ τ.objs) κ = find (n ++ σ.objs) κ := by
      intro v hv κ hκ
      rcases List.mem_append.1 hv with hv | hv
      · exact agE a1 v hv κ hκ
      · rw [find_append, find_append, b1 κ]
        simp only [refs1]
        refine mem_refsC.2 (.inr (.inl ?_))
        obtain ⟨i, hi⟩ := List.mem_iff_getElem?.1 hv
        obtain ⟨vv, _, hvv⟩ := hcap.get i v hi
        cases v <;> simp only [refs1, List.nil_append, List.mem_singleton] at hκ <;> try (cases hκ; done)
        case sref q => subst hκ; exact hv
        case agg => exact hvv.elim
        case func => exact hvv.elim
        all_goals
          obtain ⟨d', hd'⟩ := closeAs_mem hds _ (List.mem_append.2 (.inr hv))
          simp [closeA, close1] at hd'
    have hds' : closeAs (n ++ τ.objs) (vs ++ cap) = some ds := by rw [closeAs_ag hagr]; exact hds
    refine ⟨ι', _, H', E', hall, hds', hagr, ?_⟩
    have := g1 (c.args.map act.eval ++ cv.toArray) w
    have e1 : (c.args.toList.map act.eval ++ cv).toArray = c.args.map act.eval ++ cv.toArray := by
      apply Array.ext'; simp
    rw [e1]
    simp [execOp, ho, resolve, hb, hfo, Deferred.ofValue, invoke, this]
  cases hm : e.modes with
  | nil =>
    rw [hm] at h6
    simp only at h6
    obtain ⟨d, h7, h8⟩ := g2 hm _ _ _ h6
    refine ⟨_, _, _, h7, fun τ ag F ι act w hs hf => .inr (.inr ?_)⟩
    obtain ⟨f1, f2⟩ := fresh_app hf
    obtain ⟨ι', ws, H', E', hall, hds', hagr, hex⟩ := args τ ag F ι act w hs f1
    refine ⟨f, ws.toArray, hex, (h8 w _ (closeAs_ok H' hds' hall)).mono fun e w' hd => ?_⟩
    obtain ⟨vv, bs, okf, rfl, k1, k2, k3, k4, k5⟩ := hd
    obtain ⟨k', sv, M, hv⟩ := matR_ok (key := key) k2 k3
    obtain ⟨H2, E2⟩ := Heap.mat H' M (fresh_of f2) k4 k5 k1.size k1.os k1.tape k1.output k1.block
    refine ⟨vv, ι'.ext sv, rfl, ?_, ?_, ?_⟩
    · simpa using H2
    · simpa using E'.trans E2
    · have := hv ((matR key d).2 ++ (n ++ τ.objs)) (ι'.ext sv) (okOf w' ((matR key d).2 ++ (n ++ τ.objs)) (ι'.ext sv)) w' find_app_left ext_sv
      simpa using this
  | cons m ms =>
    have hne : e.modes ≠ [] := by rw [hm]; simp
    have h6' : (match modesOk e.modes (vs ++ cap), nodup (outRefs e.modes (vs ++ cap) []), apart (outRefs e.modes (vs ++ cap) []) (inRefs e.modes (vs ++ cap) []) with
      | true, true, true => e.g ds fun r => match r with
        | .tup rs => match splitAt' (rs.length - (outRefs e.modes (vs ++ cap) []).length) rs with
          | (ds', ws) => onOpt (outs (n ++ σ.objs) (outRefs e.modes (vs ++ cap) []) ws) fun u => match matR key (packV ds') with
            | (v, m) => k v (m ++ n) u
        | _ => none
      | _, _, _ => none) = some r := by
      rw [hm] at h6 ⊢
      exact h6
    split at h6'
    case h_2 => cases h6'
    rename_i hmo hnd hap
    have hnd := nodup_ok hnd
    have hap := apart_ok hap
    obtain ⟨d, h7, h8⟩ := g3 hne _ _ _ h6'
    cases d <;> simp only at h7 <;> try (cases h7; done)
    rename_i rs
    rw [splitAt'_eq] at h7
    simp only at h7
    obtain ⟨u, hu, h9⟩ := onOpt_some h7
    refine ⟨_, _, _, h9, fun τ ag F ι act w hs hf => .inr (.inr ?_)⟩
    obtain ⟨f1, f2⟩ := fresh_app hf
    obtain ⟨ι', ws, H', E', hall, hds', hagr, hex⟩ := args τ ag F ι act w hs f1
    have hrefs : ∀ q ∈ outRefs e.modes (vs ++ cap) [], find (n ++ τ.objs) q = find (n ++ σ.objs) q := by
      have gen : ∀ (ms : List Bool) (cs : List V), ∀ q ∈ outRefs ms cs [], ∃ v ∈ cs, q ∈ refs1 [] v := by
        intro ms
        induction ms with
        | nil => intro cs q hq; cases cs <;> simp [outRefs] at hq
        | cons b ms ih =>
          intro cs q hq
          cases cs with
          | nil => cases b <;> simp [outRefs] at hq
          | cons v cs =>
            cases b with
            | false =>
              simp only [outRefs] at hq
              obtain ⟨u, h1, h2⟩ := ih cs q hq
              exact ⟨u, List.mem_cons.2 (.inr h1), h2⟩
            | true =>
              simp only [outRefs] at hq
              rw [outRefs_acc] at hq
              rcases List.mem_append.1 hq with hq | hq
              · exact ⟨v, by simp, hq⟩
              · obtain ⟨u, h1, h2⟩ := ih cs q hq
                exact ⟨u, List.mem_cons.2 (.inr h1), h2⟩
      intro q hq
      obtain ⟨v, h1, h2⟩ := gen _ _ q hq
      exact hagr v h1 q h2
    have hflat : ∀ q ∈ outRefs e.modes (vs ++ cap) [], FlatO (n ++ τ.objs) q := by
      intro q hq
      obtain ⟨ob, h1⟩ := outs_all hu q hq
      obtain ⟨i, fr, b, a, _, _, h2, _, h3, h4⟩ := outs_mem hu q ob h1
      exact ⟨fr, b, by rw [hrefs q hq]; exact h2, by rw [isRows_ak h3]; exact h4⟩
    have hS := (argL_ok H' (ok' := fun _ => True) (fun _ _ => trivial) hmo hds' hall hflat (fun _ _ _ _ _ _ _ => trivial)).2
    have hbl := blocks_mem H' hS
    have hok : ∀ b, okOf w (n ++ τ.objs) ι' b → b < w.heap.size ∧ b ∉ blocksOf (slM e.modes ds ws) := by
      intro b hb
      refine ⟨hb.1, fun hx => ?_⟩
      obtain ⟨q, h1, h2⟩ := (hbl b).1 hx
      obtain ⟨fr, a, h3, _⟩ := hflat q h1
      exact hb.2.1 q _ h3 trivial h2
    have hargs : ArgsM cx w e.modes ds ws := by
      refine ⟨blocks_nodup H' hS hnd, (argL_ok H' hok hmo hds' hall hflat (fun q hq ob b h1 h2 h3 => ⟨(H'.own q ob b h1 h2 h3).2, fun hx => ?_⟩)).1⟩
      obtain ⟨q', g1, g2⟩ := (hbl b).1 hx
      obtain ⟨fr, a, g3, _⟩ := hflat q' g1
      have := H'.inj q q' ob _ b h1 g3 h2 trivial h3 g2
      subst this
      exact hap q g1 hq
    refine ⟨f, ws.toArray, hex, (h8 w _ hargs).mono fun e' w' hd => ?_⟩
    obtain ⟨vv, bs, okf, rs0, os, rfl, hrs, hout, k1, k2, k3, k4, k5, k6, k7, k8, k9⟩ := hd
    simp only [V.tup.injEq] at hrs
    have hlen : os.length = (outRefs e.modes (vs ++ cap) []).length := by rw [← hout.length, ← hS.length]
    have e1 : rs.length - (outRefs e.modes (vs ++ cap) []).length = rs0.length := by rw [hrs, ← hlen]; simp
    have e2 : rs.take (rs.length - (outRefs e.modes (vs ++ cap) []).length) = rs0 := by rw [e1, hrs]; simp
    have e3 : rs.drop (rs.length - (outRefs e.modes (vs ++ cap) []).length) = os := by rw [e1, hrs]; simp
    rw [e3] at hu
    rw [e2] at hf ⊢ f2
    have hu' : ∀ o1 ob, find u o1 = some ob → ∃ fr b a, find (n ++ τ.objs) o1 = some (.arr fr b) ∧ ob = .arr fr a ∧ akOf a = akOf b ∧ isRows a = false ∧ OwnArr cx w' (fun _ => False) a (ι'.sv o1) (ι'.sv o1).ownBlock.toList := by
      intro o1 ob h1
      obtain ⟨i, fr, b, a, g1, g2, g3, g4, g5, g6⟩ := outs_mem hu o1 ob h1
      have hmem : o1 ∈ outRefs e.modes (vs ++ cap) [] := List.mem_iff_getElem?.2 ⟨i, g1⟩
      obtain ⟨p, p1, _, p2⟩ := hS.get i o1 g1
      obtain ⟨oo, p3, a', p4, p5⟩ := hout.get i p p1
      rw [g2] at p3
      cases p3
      cases p4
      exact ⟨fr, b, a, by rw [hrefs o1 hmem]; exact g3, g4, g5.symm, g6, by rw [← p2]; exact p5⟩
    obtain ⟨H1, E1⟩ := Heap.call H' (u := u) (w' := w') k4 k1 k2 k3 hu' (fun b hb hnb => k5 b hb fun hx => by
      obtain ⟨q, h1, h2⟩ := (hbl b).1 hx
      obtain ⟨ob, h3⟩ := outs_all hu q h1
      exact hnb q ob h3 h2)
    have hsz : (w'.cut w.heap.size).heap.size = w.heap.size := cut_size _ k4
    obtain ⟨k', sv, M, hv⟩ := matR_ok (key := key) k6 k7
    have hfr := fresh_of f2
    have hfu : ∀ o1 ob, find (matR key (packV rs0)).2 o1 = some ob → find u o1 = none := by
      intro o1 ob h1
      cases hn : find u o1 with
      | none => rfl
      | some x =>
        obtain ⟨fr, b, a, g1, _⟩ := hu' o1 x hn
        rw [hfr o1 ob h1] at g1; cases g1
    obtain ⟨H2, E2⟩ := Heap.mat H1 M (fun o1 ob h1 => by rw [find_append, hfu o1 ob h1]; simpa using hfr o1 ob h1) (fun b hb => by rw [hsz]; exact k8 b hb) (fun b hb => by rw [hsz]; exact k9 b hb) (by rw [hsz]; exact k4) rfl rfl rfl
      (fun b hb => by rw [hsz] at hb; exact (cut_heap _ hb).symm)
    have hsame : ∀ o1, find (u ++ (((matR key (packV rs0)).2 ++ n) ++ τ.objs)) o1 = find ((matR key (packV rs0)).2 ++ (u ++ (n ++ τ.objs))) o1 := by
      intro o1
      simp only [find_append]
      cases h1 : find (matR key (packV rs0)).2 o1 with
      | none => simp
      | some x => rw [hfu o1 x h1]; simp
    have hv' := hv ((matR key (packV rs0)).2 ++ (u ++ (n ++ τ.objs))) (ι'.ext sv) (okOf w' ((matR key (packV rs0)).2 ++ (u ++ (n ++ τ.objs))) (ι'.ext sv)) w' find_app_left ext_sv
    exact ⟨vv, ι'.ext sv, rfl, H2.same hsame, ((E'.trans E1).trans E2).trans (Ext.same hsame), VR.ext (Ext.same hsame) hv'⟩
end
end PM

namespace PM
open Go

section
variable {P : Program} {cx : Cx} {o : Oper} {σ : S} {key : Nat} {k : V → Obs → Obs → R} {r : V}

theorem asub_shape {a b : Arr} {h : Int} (hb : asub std a 0 h = some b) : rowsOf b = (rowsOf a).take h.toNat := by
  obtain ⟨_, q2⟩ := asub_ok hb
  rw [q2]; simp
theorem sliceOwn_sound (hc : CxOk P cx) {t : TypeId} {x : Operand} {hi : Option Operand} {q : Nat} (ho : o.op = .slice t x none hi none)
    (hv : ∀ τ, AgX x σ τ → (∀ κ ∈ refs1 [] (V.sref q), find τ.objs κ = find σ.objs κ) ∧ ∀ F ι a w, Sim cx F ι τ a w → VR cx w (okOf w τ.objs ι) τ.objs ι (.sref q) (a.eval x))
    (h : sliceOwn std cx key t q hi σ k = some r) : Sound P cx o σ k r := by
  simp only [sliceOwn] at h
  split at h
  case h_2 => cases h
  rename_i fr a hq
  obtain ⟨ty, hty, h3⟩ := onOpt_some h
  obtain ⟨e, he, h4⟩ := onOpt_some h3
  split at h4
  case h_2 => cases h4
  rename_i hal hak
  have hak := akEq_ok hak
  obtain ⟨hh, h7, h8⟩ := evHi_sound (cx := cx) h4
  split at h7
  case h_2 => cases h7
  rename_i hsb
  rw [alen_std] at hsb
  have hsb : 0 ≤ hh ∧ hh ≤ ((rowsOf a).length : Int) := by
    have := of_decide_eq_true hsb
    exact ⟨this.2.1, this.2.2⟩
  obtain ⟨b, hb, h9⟩ := onOpt_some h7
  obtain ⟨q1, _⟩ := asub_ok hb
  have q2 := asub_shape hb
  obtain ⟨sh, ie, ze, s1, s2, s3, s4, s5, _⟩ := (hc t ty hty).slice hal e he
  refine ⟨_, _, _, h9, fun τ ag F ι act w hs hf => .inl ?_⟩
  obtain ⟨f1, _⟩ := fresh_cons hf
  obtain ⟨a1, a2⟩ := hv τ (ag x (by simp [ho, Op.operands]))
  have hq' : find τ.objs q = some (.arr fr a) := by rw [a1 q (by simp [refs1])]; exact hq
  have hkq : key ≠ q := by rintro rfl; rw [f1] at hq'; cases hq'
  obtain ⟨ob, e1, e2⟩ := a2 F ι act w hs
  rw [hq'] at e1; cases e1
  have hxv := e2 _ _ rfl
  have H := hs.heap
  obtain ⟨sh', xs, p1, p2, p3, p4, p5, p6⟩ := H.obok q _ hq'
  rw [← hak, s2] at p1; cases p1
  rw [← hxv] at p4 p5
  have hhi := h8 τ (fun y hy => ag y (by subst hy; simp [ho, Op.operands])) F ι act w hs
  rw [alen_std] at hhi
  have hhi' : (hi.map act.eval = none ∧ hh = ((rowsOf a).length : Nat)) ∨ ∃ kd, hi.map act.eval = some (.int kd hh) := by rcases hhi with ⟨rfl, hl⟩ | hl; exact .inl ⟨rfl, hl⟩; exact .inr hl
  have hlen : (rowsOf b).length = hh.toNat := by rw [q2, List.length_take]; omega
  have hle : (rowsOf b).length ≤ (rowsOf a).length := by omega
  have hcO : ∀ i, i < (rowsOf b).length → ∀ j, cOf (rowsOf b) i j = cOf (rowsOf a) i j := by
    intro i hi j
    rw [q2]
    simp only [cOf, List.getD_eq_getElem?_getD]
    rw [List.getElem?_take, if_pos (by omega)]
  -- the value
  have main : ∃ vv, (Instr.sliceAt t (act.eval x) none (hi.map act.eval) none).run P w = .ok vv w ∧ vv.ownBlock = (act.eval x).ownBlock ∧ w.ownsRow 0 (tAK (akOf a)) sh.length vv (rowsOf b).length (xs.take ((rowsOf b).length * sh.length)) := by
    have hxl : (xs.take ((rowsOf b).length * sh.length)).length = (rowsOf b).length * sh.length := by
      rw [List.length_take, p4.1]
      exact Nat.min_eq_left (Nat.mul_le_mul_right _ hle)
    rcases p4.2 with ⟨hv0, hn0⟩ | ⟨g, cap, cur, hv0, hg, hcell, hcap, hmax, hsz, htk⟩
    · rw [hv0]
      refine ⟨_, run_sliceAt s1 s4 (base := none) (len := 0) (cap := 0) (lo := none) (l := 0) (h := hh) (.inl ⟨rfl, rfl⟩) (by rw [hn0] at hhi'; exact hhi') (Int.le_refl _) hsb.1 (by rw [hn0] at hsb; exact hsb.2) (Nat.le_refl _) w, by simp [Value.ownBlock], hxl, .inl ⟨?_, by omega⟩⟩
      have : hh = 0 := by omega
      subst this
      simp
    · rw [hv0]
      refine ⟨_, run_sliceAt s1 s4 (base := some ⟨g, 0, none⟩) (len := (rowsOf a).length) (cap := cap) (lo := none) (l := 0) (h := hh) (.inl ⟨rfl, rfl⟩) hhi' (Int.le_refl _) hsb.1 hsb.2 hcap w, ?_, hxl, .inr ⟨g, cap, cur, ?_, hg, hcell, by omega, hmax, hsz, ?_⟩⟩
      · by_cases h0 : (cap : Int) = 0
        · simp [h0, Value.ownBlock]
        · simp [h0, Value.ownBlock, Addr.add]
      · rw [hlen]
        by_cases h0 : (cap : Int) = 0
        · simp [h0]
        · simp [h0, Addr.add]
      · rw [← htk, List.take_take, Nat.min_eq_left (Nat.mul_le_mul_right _ hle)]
  obtain ⟨vv, g1, g2, g3⟩ := main
  have hdead : Dead [(q, Ob.dead)] := fun o' ob' h' => by obtain ⟨_, rfl⟩ := find_one h'; rfl
  have hqb : ∀ b', (act.eval x).ownBlock = some b' → ι.blk q = some b' := fun b' h' => by rw [p5]; exact h'
  obtain ⟨H2, E2⟩ := Heap.change (d := [(q, Ob.dead)]) (κ := key) (ob' := .arr fr b) (row := (act.eval x).ownBlock) (w' := w) (ι' := ι.put key vv.ownBlock vv) H rfl hdead
    (by rw [find_cons, if_neg (fun e => hkq e.symm)]; rfl)
    (fun b' h' => ⟨q, _, hq', trivial, hqb b' h', .inr (by rw [find_cons, if_pos rfl])⟩) (fun o1 ob1 _ hne => by simp [Im.put, hne]) (fun ob1 h' => by rw [f1] at h'; cases h')
    (fun b' h' => by
      rw [Im.put_blk] at h'
      exact ⟨(World.ownsRow.lt g3 b' h').2, .inl (by rw [← g2]; exact h')⟩)
    (Nat.le_refl _) rfl rfl rfl (fun _ _ _ => rfl)
    (fun a1 b' h' hbk => by
      rw [Im.put_blk, g2] at hbk
      cases h'
      exact H.fresh q a b' hq' (hqb b' hbk))
    (fun e => by
      refine ⟨sh, xs.take ((rowsOf b).length * sh.length), by rw [q1, ← hak]; exact s2, p2, ?_, ?_, by rw [Im.put_blk, Im.put_sv], fun i j hi hj => ?_⟩
      · rw [q2]; intro r hr; exact p3 r (List.mem_of_mem_take hr)
      · rw [Im.put_sv, q1]; exact g3
      · obtain ⟨cv, c1, c2⟩ := p6 i j (by omega) hj
        refine ⟨cv, ?_, ?_⟩
        · rw [List.getElem?_take, if_pos (mul_lt_add hi hj)]; exact c1
        · rw [hcO i hi j]
          exact c2.mono fun b hb => ⟨⟨(e.okm b hb.1).1, unfs (e.okm b hb.1).2 hb.2⟩, (e.okm b hb.1).2⟩)
  have hsame : ∀ o1, find ([(q, Ob.dead)] ++ ([(key, Ob.arr fr b)] ++ τ.objs)) o1 = find ((key, Ob.arr fr b) :: ([(q, Ob.dead)] ++ τ.objs)) o1 := by
    intro o1
    simp only [List.singleton_append, List.cons_append, List.nil_append, find_cons]
    by_cases e1 : q = o1
    · subst e1; simp [hkq]
    · simp [e1]
  refine ⟨vv, w, _, exec_of (s := Instr.sliceAt t (act.eval x) none (hi.map act.eval) none) (by simp only [execOp, ho]; rfl) g1, H2.same hsame, E2.trans (Ext.same hsame), .arr fr b, ?_, fun fr1 a1 h' => (Im.put_sv _ _ _).symm⟩
  rw [hsame, find_cons, if_pos rfl]
end
end PM

namespace PM
open Go

section
variable {P : Program} {cx : Cx} {o : Oper} {σ : S} {key : Nat} {Γ : Gam} {k : V → Obs → Obs → R} {r : V}

theorem pop_sound (hc : CxOk P cx) (hΓ : GamOk P cx Γ) (h : pop std cx Γ key o σ k = some r) : Sound P cx o σ k r := by
  cases ho : o.op
  case move => exact pop_move hc ho h
  case assign => exact pop_assign hc ho h
  case pick => exact pop_pick hc ho h
  case alloc => exact pop_alloc hc ho h
  case box => exact pop_box hc ho h
  case build => exact pop_build hc ho h
  case buildSlice => exact pop_buildSlice hc ho h
  case load => exact pop_load hc ho h
  case store => exact pop_store hc ho h
  case nilCheck => exact pop_nilCheck ho h
  case binOp => exact pop_bin hc ho h
  case unOp op t x =>
    cases op
    case not => exact pop_not ho h
    case neg => exact pop_neg ho h
    all_goals (simp only [pop, ho] at h; cases h)
  case convert => exact pop_convert hc ho h
  case makeFunc => exact pop_makeFunc ho h
  case makeSlice => exact pop_makeSlice hc ho h
  case slice => exact pop_slice hc ho (fun q ho' hv hs => sliceOwn_sound hc ho' hv hs) h
  case fieldAddr => exact pop_fieldAddr hc ho h
  case field => exact pop_field hc ho h
  case indexAddr => exact pop_indexAddr hc ho h
  case extract => exact pop_extract ho h
  case call c =>
    cases hb : c.callee
    case value => exact pop_call hc hΓ ho hb h
    case invoke =>
      exfalso
      simp only [pop, ho, hb] at h
      obtain ⟨vs, n, h1, _⟩ := evs_sound hc h
      cases h1
    case builtin b =>
      cases b
      case len => exact pop_len hc ho hb h
      case append => exact pop_append hc ho hb h
      case max => exact pop_maxmin hc ho hb (.inl rfl) h
      case min => exact pop_maxmin hc ho hb (.inr rfl) h
      all_goals
        exfalso
        simp only [pop, ho, hb] at h
        obtain ⟨vs, n, h1, _⟩ := evs_sound hc h
        simp only [callB] at h1
        cases h1
  all_goals (simp only [pop, ho] at h; cases h)
end
end PM
