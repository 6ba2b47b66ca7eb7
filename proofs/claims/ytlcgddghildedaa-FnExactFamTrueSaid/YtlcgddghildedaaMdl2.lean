/- Models of the functions, or plain laws about them; each theorem states its own conditions. -/
import Derived.Test.YtlcgddghildedaaMdlA
import Derived.Test.YtlcgddghildedaaL3
import Derived.Test.YtlcgddghildedaaFNil
import Derived.Test.YtlcgddghildedaaQN1
import Derived.Test.YtlcgddghildedaaPlH
import Derived.Test.YtlcgddghildedaaPlB
import Derived.Test.YtlcgddghildedaaProg
import Derived.KernelRfl
set_option linter.unusedVariables false
set_option linter.unusedSimpArgs false
open Go.Proofs
namespace X
open PM
set_option maxRecDepth 100000
set_option maxHeartbeats 4000000
abbrev spec_RowsOk_T := (List (List Int)) → ((Bool) → PM.R) → PM.R
noncomputable def spec_RowsOk_w (c : spec_RowsOk_T) (ds : List PM.V) (k : PM.V → PM.R) : PM.R :=
  match ds with
  | [.arr (.vecs 161 2 l)] => c l (fun r0 => k (.bool r0))
  | _ => none
noncomputable def spec_RowsOk_l0 (A : PM.Prims) (c_197 : spec_l3Val_T) (c_140 : spec_l3Cell_T) : Nat → (List (List Int)) → (Int) → ((Bool) → PM.R) → (Unit → PM.R) → PM.R
  | 0, _, _, _, _ => none
  | n + 1, l1, i2, kret_0, kx0_0 =>
    bif (A.lt i2 (A.vlen l1)) then
      bif (A.inb i2 (A.vlen l1)) then
        c_140 (A.vget l1 i2 0) (fun r3 =>
          bif (A.not r3) then
            kret_0 false
          else
            bif (A.inb i2 (A.vlen l1)) then
              c_197 (A.vget l1 i2 1) (fun r5 =>
                bif (A.not r5) then
                  kret_0 false
                else
                  spec_RowsOk_l0 A c_197 c_140 n l1 (A.add .i64 i2 1) kret_0 kx0_0)
            else
              none)
      else
        none
    else
      kx0_0 ()
noncomputable def spec_RowsOk_f (A : PM.Prims) (c_197 : spec_l3Val_T) (c_140 : spec_l3Cell_T) (l : List (List Int)) (k : (Bool) → PM.R) : PM.R :=
  bif (A.lt 300 (A.vlen l)) then
    k false
  else
    spec_RowsOk_l0 A c_197 c_140 A.fuel l 0 (fun t246 =>
      k t246) (fun _ =>
      k true)
noncomputable def spec_RowsOk (A : PM.Prims) : spec_RowsOk_T := spec_RowsOk_f A (spec_l3Val A) (spec_l3Cell A)
noncomputable def spec_RowsOk_L (A : PM.Prims) (c_197 : spec_l3Val_T) (c_140 : spec_l3Cell_T) (n : Nat) : PM.Lam := fun cur σ K =>
  match cur, σ, K with
  | 0, ⟨[(0, .arr (.vecs 161 2 l1)), (3, .int .i64 i2)], []⟩, K => spec_RowsOk_l0 A c_197 c_140 n l1 i2 (fun t24 => K .ret ⟨[(2, .bool t24)], []⟩) (fun _ => K (.exit 0) ⟨[], []⟩)
  | _, _, _ => none
noncomputable def spec_RowsOk_E (A : PM.Prims) (c_197 : spec_l3Val_T) (c_140 : spec_l3Cell_T) : PM.Env := ⟨[(197, ⟨[], spec_l3Val_w c_197, none⟩), (140, ⟨[], spec_l3Cell_w c_140, none⟩)], [], [(0, [0, 3], [2])], [(0, [0]), (1, [0, 6]), (2, [2]), (3, [0, 3]), (4, [0, 3, 10]), (5, [0, 3]), (6, [0, 3, 28]), (7, [2]), (8, [2])], spec_RowsOk_L A c_197 c_140 A.fuel⟩
theorem spec_RowsOk_l0_ok (A : PM.Prims) (c_197 : spec_l3Val_T) (c_140 : spec_l3Cell_T) (n : Nat) (l1 : List (List Int)) (i2 : Int) (K : Go.Exit → PM.S → PM.R) : spec_RowsOk_L A c_197 c_140 (n + 1) 0 ⟨[(0, .arr (.vecs 161 2 l1)), (3, .int .i64 i2)], []⟩ K = PM.roundF A cx (PM.runD A cx (spec_RowsOk_E A c_197 c_140).inl (spec_RowsOk_E A c_197 c_140).Γ 3) (spec_RowsOk_E A c_197 c_140) (spec_RowsOk_L A c_197 c_140 n) 0 Go.Proofs.Try.f104 ⟨[(0, .arr (.vecs 161 2 l1)), (3, .int .i64 i2)], []⟩ K := by kernel_rfl
theorem spec_RowsOk_ok (A : PM.Prims) (c_197 : spec_l3Val_T) (c_140 : spec_l3Cell_T) (l : List (List Int)) (k : PM.V → PM.R) : PM.pfun A cx [] (spec_RowsOk_E A c_197 c_140) Go.Proofs.Try.f104 [.arr (.vecs 161 2 l)] k = spec_RowsOk_f A c_197 c_140 l (fun r0 => k (.bool r0)) := by kernel_rfl

theorem spec_RowsOk_fn : PM.FnIs Try.prog 104 Try.f104 := .of Try.func104 (by kernel_rfl) (by kernel_rfl)
theorem spec_RowsOk_g : PM.GOk Try.prog cx 104 ⟨[], spec_RowsOk_w (spec_RowsOk PM.std), none⟩ := by
  refine ⟨spec_RowsOk_fn.enter, fun _ ds k r h => ?_, fun hm => absurd rfl hm, fun _ e => (by cases e)⟩
  change spec_RowsOk_w (spec_RowsOk PM.std) ds k = some r at h
  unfold spec_RowsOk_w at h
  split at h
  · exact PM.pfun_ok (E := spec_RowsOk_E PM.std (spec_l3Val PM.std) (spec_l3Cell PM.std)) (L := fun n => spec_RowsOk_L PM.std (spec_l3Val PM.std) (spec_l3Cell PM.std) n) (N := PM.std.fuel) cx_ok (.cons spec_l3Val_g (.cons spec_l3Cell_g .nil)) mixed .nil spec_RowsOk_fn (by kernel_rfl) ⟨rfl, fun cur σ K => by
      dsimp only [spec_RowsOk_L]
      split <;> rfl, fun n cur σ K r h => by
      dsimp only [spec_RowsOk_L] at h
      split at h
      · exact (spec_RowsOk_l0_ok PM.std (spec_l3Val PM.std) (spec_l3Cell PM.std) n _ _ K).symm.trans h
      · cases h⟩
      ((spec_RowsOk_ok PM.std (spec_l3Val PM.std) (spec_l3Cell PM.std) _ k).trans h)
  · cases h

abbrev spec_Overlay_T := (List Int) → (List (List Int)) → ((List Int) → PM.R) → PM.R
noncomputable def spec_Overlay_w (c : spec_Overlay_T) (ds : List PM.V) (k : PM.V → PM.R) : PM.R :=
  match ds with
  | [.arr (.ints 3 .i64 cells), .arr (.vecs 161 2 l)] => c cells l (fun r0 => k (.arr (.ints 3 .i64 r0)))
  | _ => none
noncomputable def spec_Overlay_l0 (A : PM.Prims) (c_107 : spec_l3Vals_T) (c_104 : spec_RowsOk_T) : Nat → (List (List Int)) → (Int) → (List Int) → ((List Int) → PM.R) → PM.R
  | 0, _, _, _, _ => none
  | n + 1, l3, i4, o05, kx0_0 =>
    bif (A.lt i4 (A.vlen l3)) then
      bif (A.inb i4 (A.vlen l3)) then
        bif (A.inb i4 (A.vlen l3)) then
          bif (A.inb (A.vget l3 i4 0) (A.ilen o05)) then
            spec_Overlay_l0 A c_107 c_104 n l3 (A.add .i64 i4 1) (A.iset o05 (A.vget l3 i4 0) (A.vget l3 i4 1)) kx0_0
          else
            none
        else
          none
      else
        none
    else
      kx0_0 o05
noncomputable def spec_Overlay_f (A : PM.Prims) (c_107 : spec_l3Vals_T) (c_104 : spec_RowsOk_T) (cells : List Int) (l : List (List Int)) (k : (List Int) → PM.R) : PM.R :=
  c_107 cells (fun r1 =>
    bif (A.not r1) then
      k []
    else
      c_104 l (fun r2 =>
        bif (A.not r2) then
          k []
        else
          bif (A.room (A.ilen []) (A.ilen cells)) then
            spec_Overlay_l0 A c_107 c_104 A.fuel l 0 (A.iapp [] cells) (fun o067 =>
              k o067)
          else
            none))
noncomputable def spec_Overlay (A : PM.Prims) : spec_Overlay_T := spec_Overlay_f A (spec_l3Vals A) (spec_RowsOk A)
noncomputable def spec_Overlay_L (A : PM.Prims) (c_107 : spec_l3Vals_T) (c_104 : spec_RowsOk_T) (n : Nat) : PM.Lam := fun cur σ K =>
  match cur, σ, K with
  | 0, ⟨[(1, .arr (.vecs 161 2 l3)), (5, .sref 0), (6, .int .i64 i4)], [(0, .arr true (.ints 3 .i64 o05))]⟩, K => spec_Overlay_l0 A c_107 c_104 n l3 i4 o05 (fun o06 => K (.exit 0) ⟨[(5, .sref 0)], [(0, .arr true (.ints 3 .i64 o06))]⟩)
  | _, _, _ => none
noncomputable def spec_Overlay_E (A : PM.Prims) (c_107 : spec_l3Vals_T) (c_104 : spec_RowsOk_T) : PM.Env := ⟨[(107, ⟨[], spec_l3Vals_w c_107, none⟩), (104, ⟨[], spec_RowsOk_w c_104, none⟩)], [], [(0, [1, 5, 6], [4, 5])], [(0, [0, 1]), (1, [0, 1, 14]), (2, [4]), (3, [1, 5]), (4, [1, 5, 6]), (5, [1, 5, 6, 22]), (6, [1, 5, 6]), (7, [1, 5, 6]), (8, [4])], spec_Overlay_L A c_107 c_104 A.fuel⟩
theorem spec_Overlay_l0_ok (A : PM.Prims) (c_107 : spec_l3Vals_T) (c_104 : spec_RowsOk_T) (n : Nat) (l3 : List (List Int)) (i4 : Int) (o05 : List Int) (K : Go.Exit → PM.S → PM.R) : spec_Overlay_L A c_107 c_104 (n + 1) 0 ⟨[(1, .arr (.vecs 161 2 l3)), (5, .sref 0), (6, .int .i64 i4)], [(0, .arr true (.ints 3 .i64 o05))]⟩ K = PM.roundF A cx (PM.runD A cx (spec_Overlay_E A c_107 c_104).inl (spec_Overlay_E A c_107 c_104).Γ 3) (spec_Overlay_E A c_107 c_104) (spec_Overlay_L A c_107 c_104 n) 0 Go.Proofs.Try.f29 ⟨[(1, .arr (.vecs 161 2 l3)), (5, .sref 0), (6, .int .i64 i4)], [(0, .arr true (.ints 3 .i64 o05))]⟩ K := by kernel_rfl
theorem spec_Overlay_ok (A : PM.Prims) (c_107 : spec_l3Vals_T) (c_104 : spec_RowsOk_T) (cells : List Int) (l : List (List Int)) (k : PM.V → PM.R) : PM.pfun A cx [] (spec_Overlay_E A c_107 c_104) Go.Proofs.Try.f29 [.arr (.ints 3 .i64 cells), .arr (.vecs 161 2 l)] k = spec_Overlay_f A c_107 c_104 cells l (fun r0 => k (.arr (.ints 3 .i64 r0))) := by kernel_rfl

theorem spec_Overlay_fn : PM.FnIs Try.prog 29 Try.f29 := .of Try.func29 (by kernel_rfl) (by kernel_rfl)
theorem spec_Overlay_g : PM.GOk Try.prog cx 29 ⟨[], spec_Overlay_w (spec_Overlay PM.std), none⟩ := by
  refine ⟨spec_Overlay_fn.enter, fun _ ds k r h => ?_, fun hm => absurd rfl hm, fun _ e => (by cases e)⟩
  change spec_Overlay_w (spec_Overlay PM.std) ds k = some r at h
  unfold spec_Overlay_w at h
  split at h
  · exact PM.pfun_ok (E := spec_Overlay_E PM.std (spec_l3Vals PM.std) (spec_RowsOk PM.std)) (L := fun n => spec_Overlay_L PM.std (spec_l3Vals PM.std) (spec_RowsOk PM.std) n) (N := PM.std.fuel) cx_ok (.cons spec_l3Vals_g (.cons spec_RowsOk_g .nil)) mixed .nil spec_Overlay_fn (by kernel_rfl) ⟨rfl, fun cur σ K => by
      dsimp only [spec_Overlay_L]
      split <;> rfl, fun n cur σ K r h => by
      dsimp only [spec_Overlay_L] at h
      split at h
      · exact (spec_Overlay_l0_ok PM.std (spec_l3Vals PM.std) (spec_RowsOk PM.std) n _ _ _ K).symm.trans h
      · cases h⟩
      ((spec_Overlay_ok PM.std (spec_l3Vals PM.std) (spec_RowsOk PM.std) _ _ k).trans h)
  · cases h

abbrev spec_FamAt_T := (List Int) → (Int) → (Int) → (Int) → (Bool) → (List Int) → (List (List Int)) → (List (List Int)) → (List Int) → (List (List Int)) → (List (List PM.C)) → (Int) → ((List Int) → PM.R) → PM.R
noncomputable def spec_FamAt_w (c : spec_FamAt_T) (ds : List PM.V) (k : PM.V → PM.R) : PM.R :=
  match ds with
  | [.arr (.ints 3 .i64 __), .agg [.int .i64 a_Rv, .int .i64 a_Clock, .int .i64 a_Owner, .bool a_Lost, .arr (.ints 3 .i64 a_Regs), .arr (.vecs 161 2 a_Start), .arr (.vecs 225 3 a_Buf), .arr (.ints 3 .i64 a_Order), .arr (.vecs 161 2 a_Reads), .arr (.rows 214 a_Kids)], .int .i64 r] => c __ a_Rv a_Clock a_Owner a_Lost a_Regs a_Start a_Buf a_Order a_Reads a_Kids r (fun r0 => k (.arr (.ints 3 .i64 r0)))
  | _ => none
noncomputable def spec_FamAt_l0 (A : PM.Prims) (c_107 : spec_l3Vals_T) (c_104 : spec_RowsOk_T) (c_29 : spec_Overlay_T) : Nat → (Int) → (Int) → (Int) → (Int) → (Int) → (Bool) → (List Int) → (List (List Int)) → (List (List Int)) → (List Int) → (List (List Int)) → (List (List C)) → (List Int) → ((List Int) → PM.R) → PM.R
  | 0, _, _, _, _, _, _, _, _, _, _, _, _, _, _ => none
  | n + 1, n4, i5, o06, o07, o08, o09, o010, o011, o012, o013, o014, o015, o116, kx0_0 =>
    bif (A.lt i5 (A.ilen o013)) then
      bif (A.lt i5 n4) then
        bif (A.inb i5 (A.ilen o013)) then
          bif (A.le 0 (A.iget o013 i5)) then
            bif (A.lt (A.iget o013 i5) (A.rlen o015)) then
              bif (A.inb (A.iget o013 i5) (A.rlen o015)) then
                c_104 (A.rsv 2 o015 (A.iget o013 i5) 8) (fun r17 =>
                  bif r17 then
                    bif (A.inb (A.iget o013 i5) (A.rlen o015)) then
                      c_29 o116 (A.rsv 2 o015 (A.iget o013 i5) 8) (fun r18 =>
                        spec_FamAt_l0 A c_107 c_104 c_29 n n4 (A.add .i64 i5 1) o06 o07 o08 o09 o010 o011 o012 o013 o014 o015 r18 kx0_0)
                    else
                      none
                  else
                    spec_FamAt_l0 A c_107 c_104 c_29 n n4 (A.add .i64 i5 1) o06 o07 o08 o09 o010 o011 o012 o013 o014 o015 o116 kx0_0)
              else
                none
            else
              spec_FamAt_l0 A c_107 c_104 c_29 n n4 (A.add .i64 i5 1) o06 o07 o08 o09 o010 o011 o012 o013 o014 o015 o116 kx0_0
          else
            spec_FamAt_l0 A c_107 c_104 c_29 n n4 (A.add .i64 i5 1) o06 o07 o08 o09 o010 o011 o012 o013 o014 o015 o116 kx0_0
        else
          none
      else
        kx0_0 o116
    else
      kx0_0 o116
noncomputable def spec_FamAt_f (A : PM.Prims) (c_107 : spec_l3Vals_T) (c_104 : spec_RowsOk_T) (c_29 : spec_Overlay_T) (__ : List Int) (a_Rv : Int) (a_Clock : Int) (a_Owner : Int) (a_Lost : Bool) (a_Regs : List Int) (a_Start : List (List Int)) (a_Buf : List (List Int)) (a_Order : List Int) (a_Reads : List (List Int)) (a_Kids : List (List PM.C)) (r : Int) (k : (List Int) → PM.R) : PM.R :=
  c_107 __ (fun r1 =>
    bif (A.not r1) then
      k []
    else
      c_104 a_Start (fun r2 =>
        bif (A.not r2) then
          k []
        else
          c_29 __ a_Start (fun r3 =>
            spec_FamAt_l0 A c_107 c_104 c_29 A.fuel r 0 a_Rv a_Clock a_Owner a_Lost a_Regs a_Start a_Buf a_Order a_Reads a_Kids r3 (fun o01920 =>
              k o01920))))
noncomputable def spec_FamAt (A : PM.Prims) : spec_FamAt_T := spec_FamAt_f A (spec_l3Vals A) (spec_RowsOk A) (spec_Overlay A)
noncomputable def spec_FamAt_L (A : PM.Prims) (c_107 : spec_l3Vals_T) (c_104 : spec_RowsOk_T) (c_29 : spec_Overlay_T) (n : Nat) : PM.Lam := fun cur σ K =>
  match cur, σ, K with
  | 0, ⟨[(2, .int .i64 n4), (4, .pbox 0 0), (7, .sref 1), (8, .int .i64 i5)], [(0, .box [.int .i64 o06, .int .i64 o07, .int .i64 o08, .bool o09, .arr (.ints 3 .i64 o010), .arr (.vecs 161 2 o011), .arr (.vecs 225 3 o012), .arr (.ints 3 .i64 o013), .arr (.vecs 161 2 o014), .arr (.rows 214 o015)]), (1, .arr true (.ints 3 .i64 o116))]⟩, K => spec_FamAt_l0 A c_107 c_104 c_29 n n4 i5 o06 o07 o08 o09 o010 o011 o012 o013 o014 o015 o116 (fun o019 => K (.exit 0) ⟨[(7, .sref 0)], [(0, .arr true (.ints 3 .i64 o019))]⟩)
  | _, _, _ => none
noncomputable def spec_FamAt_E (A : PM.Prims) (c_107 : spec_l3Vals_T) (c_104 : spec_RowsOk_T) (c_29 : spec_Overlay_T) : PM.Env := ⟨[(107, ⟨[], spec_l3Vals_w c_107, none⟩), (104, ⟨[], spec_RowsOk_w c_104, none⟩), (29, ⟨[], spec_Overlay_w c_29, none⟩)], [], [(0, [2, 4, 7, 8], [6, 7])], [(0, [0, 2, 4]), (1, [0, 2, 4, 18]), (2, [6]), (3, [2, 4, 7]), (4, [2, 4, 7, 8]), (5, [2, 4, 7, 8, 33]), (6, [2, 4, 7, 8]), (7, [2, 4, 7, 8, 9]), (8, [2, 4, 7, 8, 9, 58]), (9, [2, 4, 7, 8]), (10, [6])], spec_FamAt_L A c_107 c_104 c_29 A.fuel⟩
theorem spec_FamAt_l0_ok (A : PM.Prims) (c_107 : spec_l3Vals_T) (c_104 : spec_RowsOk_T) (c_29 : spec_Overlay_T) (n : Nat) (n4 : Int) (i5 : Int) (o06 : Int) (o07 : Int) (o08 : Int) (o09 : Bool) (o010 : List Int) (o011 : List (List Int)) (o012 : List (List Int)) (o013 : List Int) (o014 : List (List Int)) (o015 : List (List C)) (o116 : List Int) (K : Go.Exit → PM.S → PM.R) : spec_FamAt_L A c_107 c_104 c_29 (n + 1) 0 ⟨[(2, .int .i64 n4), (4, .pbox 0 0), (7, .sref 1), (8, .int .i64 i5)], [(0, .box [.int .i64 o06, .int .i64 o07, .int .i64 o08, .bool o09, .arr (.ints 3 .i64 o010), .arr (.vecs 161 2 o011), .arr (.vecs 225 3 o012), .arr (.ints 3 .i64 o013), .arr (.vecs 161 2 o014), .arr (.rows 214 o015)]), (1, .arr true (.ints 3 .i64 o116))]⟩ K = PM.roundF A cx (PM.runD A cx (spec_FamAt_E A c_107 c_104 c_29).inl (spec_FamAt_E A c_107 c_104 c_29).Γ 3) (spec_FamAt_E A c_107 c_104 c_29) (spec_FamAt_L A c_107 c_104 c_29 n) 0 Go.Proofs.Try.f79 ⟨[(2, .int .i64 n4), (4, .pbox 0 0), (7, .sref 1), (8, .int .i64 i5)], [(0, .box [.int .i64 o06, .int .i64 o07, .int .i64 o08, .bool o09, .arr (.ints 3 .i64 o010), .arr (.vecs 161 2 o011), .arr (.vecs 225 3 o012), .arr (.ints 3 .i64 o013), .arr (.vecs 161 2 o014), .arr (.rows 214 o015)]), (1, .arr true (.ints 3 .i64 o116))]⟩ K := by kernel_rfl
theorem spec_FamAt_ok (A : PM.Prims) (c_107 : spec_l3Vals_T) (c_104 : spec_RowsOk_T) (c_29 : spec_Overlay_T) (__ : List Int) (a_Rv : Int) (a_Clock : Int) (a_Owner : Int) (a_Lost : Bool) (a_Regs : List Int) (a_Start : List (List Int)) (a_Buf : List (List Int)) (a_Order : List Int) (a_Reads : List (List Int)) (a_Kids : List (List PM.C)) (r : Int) (k : PM.V → PM.R) : PM.pfun A cx [] (spec_FamAt_E A c_107 c_104 c_29) Go.Proofs.Try.f79 [.arr (.ints 3 .i64 __), .agg [.int .i64 a_Rv, .int .i64 a_Clock, .int .i64 a_Owner, .bool a_Lost, .arr (.ints 3 .i64 a_Regs), .arr (.vecs 161 2 a_Start), .arr (.vecs 225 3 a_Buf), .arr (.ints 3 .i64 a_Order), .arr (.vecs 161 2 a_Reads), .arr (.rows 214 a_Kids)], .int .i64 r] k = spec_FamAt_f A c_107 c_104 c_29 __ a_Rv a_Clock a_Owner a_Lost a_Regs a_Start a_Buf a_Order a_Reads a_Kids r (fun r0 => k (.arr (.ints 3 .i64 r0))) := by kernel_rfl

theorem spec_FamAt_fn : PM.FnIs Try.prog 79 Try.f79 := .of Try.func79 (by kernel_rfl) (by kernel_rfl)
theorem spec_FamAt_g : PM.GOk Try.prog cx 79 ⟨[], spec_FamAt_w (spec_FamAt PM.std), none⟩ := by
  refine ⟨spec_FamAt_fn.enter, fun _ ds k r h => ?_, fun hm => absurd rfl hm, fun _ e => (by cases e)⟩
  change spec_FamAt_w (spec_FamAt PM.std) ds k = some r at h
  unfold spec_FamAt_w at h
  split at h
  · exact PM.pfun_ok (E := spec_FamAt_E PM.std (spec_l3Vals PM.std) (spec_RowsOk PM.std) (spec_Overlay PM.std)) (L := fun n => spec_FamAt_L PM.std (spec_l3Vals PM.std) (spec_RowsOk PM.std) (spec_Overlay PM.std) n) (N := PM.std.fuel) cx_ok (.cons spec_l3Vals_g (.cons spec_RowsOk_g (.cons spec_Overlay_g .nil))) mixed .nil spec_FamAt_fn (by kernel_rfl) ⟨rfl, fun cur σ K => by
      dsimp only [spec_FamAt_L]
      split <;> rfl, fun n cur σ K r h => by
      dsimp only [spec_FamAt_L] at h
      split at h
      · exact (spec_FamAt_l0_ok PM.std (spec_l3Vals PM.std) (spec_RowsOk PM.std) (spec_Overlay PM.std) n _ _ _ _ _ _ _ _ _ _ _ _ _ K).symm.trans h
      · cases h⟩
      ((spec_FamAt_ok PM.std (spec_l3Vals PM.std) (spec_RowsOk PM.std) (spec_Overlay PM.std) _ _ _ _ _ _ _ _ _ _ _ _ k).trans h)
  · cases h

abbrev spec_FamTrue_T := (List Int) → (Int) → (Int) → (Int) → (Bool) → (List Int) → (List (List Int)) → (List (List Int)) → (List Int) → (List (List Int)) → (List (List PM.C)) → ((Bool) → PM.R) → PM.R
noncomputable def spec_FamTrue_w (c : spec_FamTrue_T) (ds : List PM.V) (k : PM.V → PM.R) : PM.R :=
  match ds with
  | [.arr (.ints 3 .i64 __), .agg [.int .i64 a_Rv, .int .i64 a_Clock, .int .i64 a_Owner, .bool a_Lost, .arr (.ints 3 .i64 a_Regs), .arr (.vecs 161 2 a_Start), .arr (.vecs 225 3 a_Buf), .arr (.ints 3 .i64 a_Order), .arr (.vecs 161 2 a_Reads), .arr (.rows 214 a_Kids)]] => c __ a_Rv a_Clock a_Owner a_Lost a_Regs a_Start a_Buf a_Order a_Reads a_Kids (fun r0 => k (.bool r0))
  | _ => none
noncomputable def spec_FamTrue_l2 (A : PM.Prims) (c_107 : spec_l3Vals_T) (c_140 : spec_l3Cell_T) (c_104 : spec_RowsOk_T) (c_79 : spec_FamAt_T) : Nat → (List Int) → (Int) → (Int) → (Int) → (Int) → (Int) → (Bool) → (List Int) → (List (List Int)) → (List (List Int)) → (List Int) → (List (List Int)) → (List (List C)) → (List Int) → ((Bool) → PM.R) → ((List Int) → (Int) → (Int) → (Int) → (Int) → (Bool) → (List Int) → (List (List Int)) → (List (List Int)) → (List Int) → (List (List Int)) → (List (List C)) → PM.R) → PM.R
  | 0, _, _, _, _, _, _, _, _, _, _, _, _, _, _, _, _ => none
  | n + 1, base16, i17, k18, o019, o020, o021, o022, o023, o024, o025, o026, o027, o028, o129, kret_2, kx2_2 =>
    bif (A.inb i17 (A.rlen o028)) then
      bif (A.lt k18 (A.vlen (A.rsv 3 o028 i17 7))) then
        bif (A.inb i17 (A.rlen o028)) then
          bif (A.inb k18 (A.vlen (A.rsv 3 o028 i17 7))) then
            c_140 (A.vget (A.rsv 3 o028 i17 7) k18 0) (fun r30 =>
              bif (A.not r30) then
                kret_2 false
              else
                bif (A.inb (A.vget (A.rsv 3 o028 i17 7) k18 0) (A.ilen o129)) then
                  bif (A.not (A.eq (A.iget o129 (A.vget (A.rsv 3 o028 i17 7) k18 0)) (A.vget (A.rsv 3 o028 i17 7) k18 1))) then
                    kret_2 false
                  else
                    spec_FamTrue_l2 A c_107 c_140 c_104 c_79 n base16 i17 (A.add .i64 k18 1) o019 o020 o021 o022 o023 o024 o025 o026 o027 o028 o129 kret_2 kx2_2
                else
                  none)
          else
            none
        else
          none
      else
        kx2_2 base16 i17 o019 o020 o021 o022 o023 o024 o025 o026 o027 o028
    else
      none
noncomputable def spec_FamTrue_l0 (A : PM.Prims) (c_107 : spec_l3Vals_T) (c_140 : spec_l3Cell_T) (c_104 : spec_RowsOk_T) (c_79 : spec_FamAt_T) : Nat → (List Int) → (Int) → (Int) → (Int) → (Int) → (Bool) → (List Int) → (List (List Int)) → (List (List Int)) → (List Int) → (List (List Int)) → (List (List C)) → ((Bool) → PM.R) → (Unit → PM.R) → PM.R
  | 0, _, _, _, _, _, _, _, _, _, _, _, _, _, _ => none
  | n + 1, base3, i4, o05, o06, o07, o08, o09, o010, o011, o012, o013, o014, kret_0, kx0_0 =>
    bif (A.lt i4 (A.rlen o014)) then
      bif (A.inb i4 (A.rlen o014)) then
        c_79 base3 o05 o06 o07 o08 o09 o010 o011 o012 o013 o014 (A.rint o014 i4 2) (fun r15 =>
          spec_FamTrue_l2 A c_107 c_140 c_104 c_79 A.fuel base3 i4 0 o05 o06 o07 o08 o09 o010 o011 o012 o013 o014 r15 (fun t43144 =>
            kret_0 t43144) (fun base3246 i3347 o03448 o03549 o03650 o03751 o03852 o03953 o04054 o04155 o04256 o04357 =>
            spec_FamTrue_l0 A c_107 c_140 c_104 c_79 n base3246 (A.add .i64 i3347 1) o03448 o03549 o03650 o03751 o03852 o03953 o04054 o04155 o04256 o04357 kret_0 kx0_0))
      else
        none
    else
      kx0_0 ()
noncomputable def spec_FamTrue_f (A : PM.Prims) (c_107 : spec_l3Vals_T) (c_140 : spec_l3Cell_T) (c_104 : spec_RowsOk_T) (c_79 : spec_FamAt_T) (__ : List Int) (a_Rv : Int) (a_Clock : Int) (a_Owner : Int) (a_Lost : Bool) (a_Regs : List Int) (a_Start : List (List Int)) (a_Buf : List (List Int)) (a_Order : List Int) (a_Reads : List (List Int)) (a_Kids : List (List PM.C)) (k : (Bool) → PM.R) : PM.R :=
  c_107 __ (fun r1 =>
    bif (A.not r1) then
      k false
    else
      c_104 a_Start (fun r2 =>
        bif (A.not r2) then
          k false
        else
          spec_FamTrue_l0 A c_107 c_140 c_104 c_79 A.fuel __ 0 a_Rv a_Clock a_Owner a_Lost a_Regs a_Start a_Buf a_Order a_Reads a_Kids (fun t44558 =>
            k t44558) (fun _ =>
            k true)))
noncomputable def spec_FamTrue (A : PM.Prims) : spec_FamTrue_T := spec_FamTrue_f A (spec_l3Vals A) (spec_l3Cell A) (spec_RowsOk A) (spec_FamAt A)
noncomputable def spec_FamTrue_L (A : PM.Prims) (c_107 : spec_l3Vals_T) (c_140 : spec_l3Cell_T) (c_104 : spec_RowsOk_T) (c_79 : spec_FamAt_T) (n : Nat) : PM.Lam := fun cur σ K =>
  match cur, σ, K with
  | 0, ⟨[(0, .arr (.ints 3 .i64 base3)), (3, .pbox 0 0), (5, .int .i64 i4)], [(0, .box [.int .i64 o05, .int .i64 o06, .int .i64 o07, .bool o08, .arr (.ints 3 .i64 o09), .arr (.vecs 161 2 o010), .arr (.vecs 225 3 o011), .arr (.ints 3 .i64 o012), .arr (.vecs 161 2 o013), .arr (.rows 214 o014)])]⟩, K => spec_FamTrue_l0 A c_107 c_140 c_104 c_79 n base3 i4 o05 o06 o07 o08 o09 o010 o011 o012 o013 o014 (fun t445 => K .ret ⟨[(4, .bool t445)], []⟩) (fun _ => K (.exit 0) ⟨[], []⟩)
  | 2, ⟨[(0, .arr (.ints 3 .i64 base16)), (3, .pbox 0 0), (5, .int .i64 i17), (6, .sref 1), (7, .int .i64 k18)], [(0, .box [.int .i64 o019, .int .i64 o020, .int .i64 o021, .bool o022, .arr (.ints 3 .i64 o023), .arr (.vecs 161 2 o024), .arr (.vecs 225 3 o025), .arr (.ints 3 .i64 o026), .arr (.vecs 161 2 o027), .arr (.rows 214 o028)]), (1, .arr true (.ints 3 .i64 o129))]⟩, K => spec_FamTrue_l2 A c_107 c_140 c_104 c_79 n base16 i17 k18 o019 o020 o021 o022 o023 o024 o025 o026 o027 o028 o129 (fun t431 => K .ret ⟨[(4, .bool t431)], []⟩) (fun base32 i33 o034 o035 o036 o037 o038 o039 o040 o041 o042 o043 => K (.exit 2) ⟨[(0, .arr (.ints 3 .i64 base32)), (3, .pbox 0 0), (5, .int .i64 i33)], [(0, .box [.int .i64 o034, .int .i64 o035, .int .i64 o036, .bool o037, .arr (.ints 3 .i64 o038), .arr (.vecs 161 2 o039), .arr (.vecs 225 3 o040), .arr (.ints 3 .i64 o041), .arr (.vecs 161 2 o042), .arr (.rows 214 o043)])]⟩)
  | _, _, _ => none
noncomputable def spec_FamTrue_E (A : PM.Prims) (c_107 : spec_l3Vals_T) (c_140 : spec_l3Cell_T) (c_104 : spec_RowsOk_T) (c_79 : spec_FamAt_T) : PM.Env := ⟨[(107, ⟨[], spec_l3Vals_w c_107, none⟩), (140, ⟨[], spec_l3Cell_w c_140, none⟩), (104, ⟨[], spec_RowsOk_w c_104, none⟩), (79, ⟨[], spec_FamAt_w c_79, none⟩)], [], [(0, [0, 3, 5], [4]), (2, [0, 3, 5, 6, 7], [0, 3, 4, 5])], [(0, [0, 3]), (1, [0, 3, 17]), (2, [4]), (3, [0, 3, 5]), (4, [0, 3, 5, 22]), (5, [0, 3, 5]), (6, [0, 3, 5, 6]), (7, [0, 3, 5, 6, 7]), (8, [0, 3, 5, 6, 7, 42]), (9, [0, 3, 5, 6, 7]), (10, [0, 3, 5, 6, 7, 8]), (11, [0, 3, 5, 6, 7, 67]), (12, [4]), (13, [4])], spec_FamTrue_L A c_107 c_140 c_104 c_79 A.fuel⟩
theorem spec_FamTrue_l0_ok (A : PM.Prims) (c_107 : spec_l3Vals_T) (c_140 : spec_l3Cell_T) (c_104 : spec_RowsOk_T) (c_79 : spec_FamAt_T) (n : Nat) (base3 : List Int) (i4 : Int) (o05 : Int) (o06 : Int) (o07 : Int) (o08 : Bool) (o09 : List Int) (o010 : List (List Int)) (o011 : List (List Int)) (o012 : List Int) (o013 : List (List Int)) (o014 : List (List C)) (K : Go.Exit → PM.S → PM.R) : spec_FamTrue_L A c_107 c_140 c_104 c_79 (n + 1) 0 ⟨[(0, .arr (.ints 3 .i64 base3)), (3, .pbox 0 0), (5, .int .i64 i4)], [(0, .box [.int .i64 o05, .int .i64 o06, .int .i64 o07, .bool o08, .arr (.ints 3 .i64 o09), .arr (.vecs 161 2 o010), .arr (.vecs 225 3 o011), .arr (.ints 3 .i64 o012), .arr (.vecs 161 2 o013), .arr (.rows 214 o014)])]⟩ K = PM.roundF A cx (PM.runD A cx (spec_FamTrue_E A c_107 c_140 c_104 c_79).inl (spec_FamTrue_E A c_107 c_140 c_104 c_79).Γ 3) (spec_FamTrue_E A c_107 c_140 c_104 c_79) (spec_FamTrue_L A c_107 c_140 c_104 c_79 n) 0 Go.Proofs.Try.f70 ⟨[(0, .arr (.ints 3 .i64 base3)), (3, .pbox 0 0), (5, .int .i64 i4)], [(0, .box [.int .i64 o05, .int .i64 o06, .int .i64 o07, .bool o08, .arr (.ints 3 .i64 o09), .arr (.vecs 161 2 o010), .arr (.vecs 225 3 o011), .arr (.ints 3 .i64 o012), .arr (.vecs 161 2 o013), .arr (.rows 214 o014)])]⟩ K := by kernel_rfl
theorem spec_FamTrue_l2_ok (A : PM.Prims) (c_107 : spec_l3Vals_T) (c_140 : spec_l3Cell_T) (c_104 : spec_RowsOk_T) (c_79 : spec_FamAt_T) (n : Nat) (base16 : List Int) (i17 : Int) (k18 : Int) (o019 : Int) (o020 : Int) (o021 : Int) (o022 : Bool) (o023 : List Int) (o024 : List (List Int)) (o025 : List (List Int)) (o026 : List Int) (o027 : List (List Int)) (o028 : List (List C)) (o129 : List Int) (K : Go.Exit → PM.S → PM.R) : spec_FamTrue_L A c_107 c_140 c_104 c_79 (n + 1) 2 ⟨[(0, .arr (.ints 3 .i64 base16)), (3, .pbox 0 0), (5, .int .i64 i17), (6, .sref 1), (7, .int .i64 k18)], [(0, .box [.int .i64 o019, .int .i64 o020, .int .i64 o021, .bool o022, .arr (.ints 3 .i64 o023), .arr (.vecs 161 2 o024), .arr (.vecs 225 3 o025), .arr (.ints 3 .i64 o026), .arr (.vecs 161 2 o027), .arr (.rows 214 o028)]), (1, .arr true (.ints 3 .i64 o129))]⟩ K = PM.roundF A cx (PM.runD A cx (spec_FamTrue_E A c_107 c_140 c_104 c_79).inl (spec_FamTrue_E A c_107 c_140 c_104 c_79).Γ 3) (spec_FamTrue_E A c_107 c_140 c_104 c_79) (spec_FamTrue_L A c_107 c_140 c_104 c_79 n) 2 Go.Proofs.Try.f70 ⟨[(0, .arr (.ints 3 .i64 base16)), (3, .pbox 0 0), (5, .int .i64 i17), (6, .sref 1), (7, .int .i64 k18)], [(0, .box [.int .i64 o019, .int .i64 o020, .int .i64 o021, .bool o022, .arr (.ints 3 .i64 o023), .arr (.vecs 161 2 o024), .arr (.vecs 225 3 o025), .arr (.ints 3 .i64 o026), .arr (.vecs 161 2 o027), .arr (.rows 214 o028)]), (1, .arr true (.ints 3 .i64 o129))]⟩ K := by kernel_rfl
theorem spec_FamTrue_ok (A : PM.Prims) (c_107 : spec_l3Vals_T) (c_140 : spec_l3Cell_T) (c_104 : spec_RowsOk_T) (c_79 : spec_FamAt_T) (__ : List Int) (a_Rv : Int) (a_Clock : Int) (a_Owner : Int) (a_Lost : Bool) (a_Regs : List Int) (a_Start : List (List Int)) (a_Buf : List (List Int)) (a_Order : List Int) (a_Reads : List (List Int)) (a_Kids : List (List PM.C)) (k : PM.V → PM.R) : PM.pfun A cx [] (spec_FamTrue_E A c_107 c_140 c_104 c_79) Go.Proofs.Try.f70 [.arr (.ints 3 .i64 __), .agg [.int .i64 a_Rv, .int .i64 a_Clock, .int .i64 a_Owner, .bool a_Lost, .arr (.ints 3 .i64 a_Regs), .arr (.vecs 161 2 a_Start), .arr (.vecs 225 3 a_Buf), .arr (.ints 3 .i64 a_Order), .arr (.vecs 161 2 a_Reads), .arr (.rows 214 a_Kids)]] k = spec_FamTrue_f A c_107 c_140 c_104 c_79 __ a_Rv a_Clock a_Owner a_Lost a_Regs a_Start a_Buf a_Order a_Reads a_Kids (fun r0 => k (.bool r0)) := by kernel_rfl

theorem spec_FamTrue_fn : PM.FnIs Try.prog 70 Try.f70 := .of Try.func70 (by kernel_rfl) (by kernel_rfl)
theorem spec_FamTrue_g : PM.GOk Try.prog cx 70 ⟨[], spec_FamTrue_w (spec_FamTrue PM.std), none⟩ := by
  refine ⟨spec_FamTrue_fn.enter, fun _ ds k r h => ?_, fun hm => absurd rfl hm, fun _ e => (by cases e)⟩
  change spec_FamTrue_w (spec_FamTrue PM.std) ds k = some r at h
  unfold spec_FamTrue_w at h
  split at h
  · exact PM.pfun_ok (E := spec_FamTrue_E PM.std (spec_l3Vals PM.std) (spec_l3Cell PM.std) (spec_RowsOk PM.std) (spec_FamAt PM.std)) (L := fun n => spec_FamTrue_L PM.std (spec_l3Vals PM.std) (spec_l3Cell PM.std) (spec_RowsOk PM.std) (spec_FamAt PM.std) n) (N := PM.std.fuel) cx_ok (.cons spec_l3Vals_g (.cons spec_l3Cell_g (.cons spec_RowsOk_g (.cons spec_FamAt_g .nil)))) mixed .nil spec_FamTrue_fn (by kernel_rfl) ⟨rfl, fun cur σ K => by
      dsimp only [spec_FamTrue_L]
      split <;> rfl, fun n cur σ K r h => by
      dsimp only [spec_FamTrue_L] at h
      split at h
      · exact (spec_FamTrue_l0_ok PM.std (spec_l3Vals PM.std) (spec_l3Cell PM.std) (spec_RowsOk PM.std) (spec_FamAt PM.std) n _ _ _ _ _ _ _ _ _ _ _ _ K).symm.trans h
      · exact (spec_FamTrue_l2_ok PM.std (spec_l3Vals PM.std) (spec_l3Cell PM.std) (spec_RowsOk PM.std) (spec_FamAt PM.std) n _ _ _ _ _ _ _ _ _ _ _ _ _ _ K).symm.trans h
      · cases h⟩
      ((spec_FamTrue_ok PM.std (spec_l3Vals PM.std) (spec_l3Cell PM.std) (spec_RowsOk PM.std) (spec_FamAt PM.std) _ _ _ _ _ _ _ _ _ _ _ k).trans h)
  · cases h

abbrev impl_within_T := (Int) → (Int) → (Int) → ((Bool) → PM.R) → PM.R
noncomputable def impl_within_w (c : impl_within_T) (ds : List PM.V) (k : PM.V → PM.R) : PM.R :=
  match ds with
  | [.int .i64 x, .int .i64 lo, .int .i64 hi] => c x lo hi (fun r0 => k (.bool r0))
  | _ => none
noncomputable def impl_within_f (A : PM.Prims) (x : Int) (lo : Int) (hi : Int) (k : (Bool) → PM.R) : PM.R :=
  bif (A.le lo x) then
    k (A.le x hi)
  else
    k false
noncomputable def impl_within (A : PM.Prims) : impl_within_T := impl_within_f A
noncomputable def impl_within_L (A : PM.Prims) (n : Nat) : PM.Lam := fun cur σ K =>
  match cur, σ, K with
  | _, _, _ => none
noncomputable def impl_within_E (A : PM.Prims) : PM.Env := ⟨[], [], [], [(0, [0, 1, 2]), (1, [6])], impl_within_L A A.fuel⟩
theorem impl_within_ok (A : PM.Prims) (x : Int) (lo : Int) (hi : Int) (k : PM.V → PM.R) : PM.pfun A cx [] (impl_within_E A) Go.Proofs.Try.f134 [.int .i64 x, .int .i64 lo, .int .i64 hi] k = impl_within_f A x lo hi (fun r0 => k (.bool r0)) := by kernel_rfl

theorem impl_within_fn : PM.FnIs Try.prog 134 Try.f134 := .of Try.func134 (by kernel_rfl) (by kernel_rfl)
theorem impl_within_g : PM.GOk Try.prog cx 134 ⟨[], impl_within_w (impl_within PM.std), none⟩ := by
  refine ⟨impl_within_fn.enter, fun _ ds k r h => ?_, fun hm => absurd rfl hm, fun _ e => (by cases e)⟩
  change impl_within_w (impl_within PM.std) ds k = some r at h
  unfold impl_within_w at h
  split at h
  · exact PM.pfun_ok (E := impl_within_E PM.std) (L := fun n => impl_within_L PM.std n) (N := PM.std.fuel) cx_ok .nil mixed .nil impl_within_fn (by kernel_rfl) ⟨rfl, fun _ _ _ => rfl, fun n cur σ K r h => by cases h⟩
      ((impl_within_ok PM.std _ _ _ k).trans h)
  · cases h

abbrev impl_isValue_T := (Int) → ((Bool) → PM.R) → PM.R
noncomputable def impl_isValue_w (c : impl_isValue_T) (ds : List PM.V) (k : PM.V → PM.R) : PM.R :=
  match ds with
  | [.int .i64 v] => c v (fun r0 => k (.bool r0))
  | _ => none
noncomputable def impl_isValue_f (A : PM.Prims) (c_134 : impl_within_T) (v : Int) (k : (Bool) → PM.R) : PM.R :=
  c_134 v 0 65535 (fun r1 =>
    k r1)
noncomputable def impl_isValue (A : PM.Prims) : impl_isValue_T := impl_isValue_f A (impl_within A)
noncomputable def impl_isValue_L (A : PM.Prims) (c_134 : impl_within_T) (n : Nat) : PM.Lam := fun cur σ K =>
  match cur, σ, K with
  | _, _, _ => none
noncomputable def impl_isValue_E (A : PM.Prims) (c_134 : impl_within_T) : PM.Env := ⟨[(134, ⟨[], impl_within_w c_134, none⟩)], [], [], [(0, [0]), (1, [2])], impl_isValue_L A c_134 A.fuel⟩
theorem impl_isValue_ok (A : PM.Prims) (c_134 : impl_within_T) (v : Int) (k : PM.V → PM.R) : PM.pfun A cx [] (impl_isValue_E A c_134) Go.Proofs.Try.f193 [.int .i64 v] k = impl_isValue_f A c_134 v (fun r0 => k (.bool r0)) := by kernel_rfl

theorem impl_isValue_fn : PM.FnIs Try.prog 193 Try.f193 := .of Try.func193 (by kernel_rfl) (by kernel_rfl)
theorem impl_isValue_g : PM.GOk Try.prog cx 193 ⟨[], impl_isValue_w (impl_isValue PM.std), none⟩ := by
  refine ⟨impl_isValue_fn.enter, fun _ ds k r h => ?_, fun hm => absurd rfl hm, fun _ e => (by cases e)⟩
  change impl_isValue_w (impl_isValue PM.std) ds k = some r at h
  unfold impl_isValue_w at h
  split at h
  · exact PM.pfun_ok (E := impl_isValue_E PM.std (impl_within PM.std)) (L := fun n => impl_isValue_L PM.std (impl_within PM.std) n) (N := PM.std.fuel) cx_ok (.cons impl_within_g .nil) mixed .nil impl_isValue_fn (by kernel_rfl) ⟨rfl, fun _ _ _ => rfl, fun n cur σ K r h => by cases h⟩
      ((impl_isValue_ok PM.std (impl_within PM.std) _ k).trans h)
  · cases h

abbrev impl_areValues_T := (List Int) → (Int) → ((Bool) → PM.R) → PM.R
noncomputable def impl_areValues_w (c : impl_areValues_T) (ds : List PM.V) (k : PM.V → PM.R) : PM.R :=
  match ds with
  | [.arr (.ints 3 .i64 l), .int .i64 n_] => c l n_ (fun r0 => k (.bool r0))
  | _ => none
noncomputable def impl_areValues_l0 (A : PM.Prims) (c_193 : impl_isValue_T) : Nat → (List Int) → (Int) → (List Int) → (Int) → (Int) → ((Bool) → PM.R) → ((List Int) → (Int) → PM.R) → PM.R
  | 0, _, _, _, _, _, _, _ => none
  | n + 1, l1, n2, t73, t84, t95, kret_0, kx0_0 =>
    bif (A.lt t95 t84) then
      bif (A.inb t95 (A.ilen t73)) then
        c_193 (A.iget t73 t95) (fun r6 =>
          bif (A.not r6) then
            kret_0 false
          else
            impl_areValues_l0 A c_193 n l1 n2 t73 t84 (A.add .i64 t95 1) kret_0 kx0_0)
      else
        none
    else
      kx0_0 l1 n2
noncomputable def impl_areValues_f (A : PM.Prims) (c_193 : impl_isValue_T) (l : List Int) (n_ : Int) (k : (Bool) → PM.R) : PM.R :=
  impl_areValues_l0 A c_193 A.fuel l n_ l (A.ilen l) 0 (fun t4710 =>
    k t4710) (fun l811 n912 =>
    k (A.eq (A.ilen l811) n912))
noncomputable def impl_areValues (A : PM.Prims) : impl_areValues_T := impl_areValues_f A (impl_isValue A)
noncomputable def impl_areValues_L (A : PM.Prims) (c_193 : impl_isValue_T) (n : Nat) : PM.Lam := fun cur σ K =>
  match cur, σ, K with
  | 0, ⟨[(0, .arr (.ints 3 .i64 l1)), (1, .int .i64 n2), (7, .arr (.ints 3 .i64 t73)), (8, .int .i64 t84), (9, .int .i64 t95)], []⟩, K => impl_areValues_l0 A c_193 n l1 n2 t73 t84 t95 (fun t47 => K .ret ⟨[(4, .bool t47)], []⟩) (fun l8 n9 => K (.exit 0) ⟨[(0, .arr (.ints 3 .i64 l8)), (1, .int .i64 n9)], []⟩)
  | _, _, _ => none
noncomputable def impl_areValues_E (A : PM.Prims) (c_193 : impl_isValue_T) : PM.Env := ⟨[(193, ⟨[], impl_isValue_w c_193, none⟩)], [], [(0, [0, 1, 7, 8, 9], [0, 1, 4])], [(0, [0, 1]), (1, [0, 1, 7, 8, 9]), (2, [0, 1, 7, 8, 9, 10]), (3, [0, 1, 6, 7, 8, 9]), (4, [0, 1, 7, 8, 9, 15]), (5, [4]), (6, [0, 1, 7, 8, 9]), (7, [4])], impl_areValues_L A c_193 A.fuel⟩
theorem impl_areValues_l0_ok (A : PM.Prims) (c_193 : impl_isValue_T) (n : Nat) (l1 : List Int) (n2 : Int) (t73 : List Int) (t84 : Int) (t95 : Int) (K : Go.Exit → PM.S → PM.R) : impl_areValues_L A c_193 (n + 1) 0 ⟨[(0, .arr (.ints 3 .i64 l1)), (1, .int .i64 n2), (7, .arr (.ints 3 .i64 t73)), (8, .int .i64 t84), (9, .int .i64 t95)], []⟩ K = PM.roundF A cx (PM.runD A cx (impl_areValues_E A c_193).inl (impl_areValues_E A c_193).Γ 3) (impl_areValues_E A c_193) (impl_areValues_L A c_193 n) 0 Go.Proofs.Try.f97 ⟨[(0, .arr (.ints 3 .i64 l1)), (1, .int .i64 n2), (7, .arr (.ints 3 .i64 t73)), (8, .int .i64 t84), (9, .int .i64 t95)], []⟩ K := by kernel_rfl
theorem impl_areValues_ok (A : PM.Prims) (c_193 : impl_isValue_T) (l : List Int) (n_ : Int) (k : PM.V → PM.R) : PM.pfun A cx [] (impl_areValues_E A c_193) Go.Proofs.Try.f97 [.arr (.ints 3 .i64 l), .int .i64 n_] k = impl_areValues_f A c_193 l n_ (fun r0 => k (.bool r0)) := by kernel_rfl

theorem impl_areValues_fn : PM.FnIs Try.prog 97 Try.f97 := .of Try.func97 (by kernel_rfl) (by kernel_rfl)
theorem impl_areValues_g : PM.GOk Try.prog cx 97 ⟨[], impl_areValues_w (impl_areValues PM.std), none⟩ := by
  refine ⟨impl_areValues_fn.enter, fun _ ds k r h => ?_, fun hm => absurd rfl hm, fun _ e => (by cases e)⟩
  change impl_areValues_w (impl_areValues PM.std) ds k = some r at h
  unfold impl_areValues_w at h
  split at h
  · exact PM.pfun_ok (E := impl_areValues_E PM.std (impl_isValue PM.std)) (L := fun n => impl_areValues_L PM.std (impl_isValue PM.std) n) (N := PM.std.fuel) cx_ok (.cons impl_isValue_g .nil) mixed .nil impl_areValues_fn (by kernel_rfl) ⟨rfl, fun cur σ K => by
      dsimp only [impl_areValues_L]
      split <;> rfl, fun n cur σ K r h => by
      dsimp only [impl_areValues_L] at h
      split at h
      · exact (impl_areValues_l0_ok PM.std (impl_isValue PM.std) n _ _ _ _ _ K).symm.trans h
      · cases h⟩
      ((impl_areValues_ok PM.std (impl_isValue PM.std) _ _ k).trans h)
  · cases h

abbrev impl_isCell_T := (Int) → ((Bool) → PM.R) → PM.R
noncomputable def impl_isCell_w (c : impl_isCell_T) (ds : List PM.V) (k : PM.V → PM.R) : PM.R :=
  match ds with
  | [.int .i64 i] => c i (fun r0 => k (.bool r0))
  | _ => none
noncomputable def impl_isCell_f (A : PM.Prims) (c_134 : impl_within_T) (i : Int) (k : (Bool) → PM.R) : PM.R :=
  c_134 i 0 7 (fun r1 =>
    k r1)
noncomputable def impl_isCell (A : PM.Prims) : impl_isCell_T := impl_isCell_f A (impl_within A)
noncomputable def impl_isCell_L (A : PM.Prims) (c_134 : impl_within_T) (n : Nat) : PM.Lam := fun cur σ K =>
  match cur, σ, K with
  | _, _, _ => none
noncomputable def impl_isCell_E (A : PM.Prims) (c_134 : impl_within_T) : PM.Env := ⟨[(134, ⟨[], impl_within_w c_134, none⟩)], [], [], [(0, [0]), (1, [2])], impl_isCell_L A c_134 A.fuel⟩
theorem impl_isCell_ok (A : PM.Prims) (c_134 : impl_within_T) (i : Int) (k : PM.V → PM.R) : PM.pfun A cx [] (impl_isCell_E A c_134) Go.Proofs.Try.f144 [.int .i64 i] k = impl_isCell_f A c_134 i (fun r0 => k (.bool r0)) := by kernel_rfl

theorem impl_isCell_fn : PM.FnIs Try.prog 144 Try.f144 := .of Try.func144 (by kernel_rfl) (by kernel_rfl)
theorem impl_isCell_g : PM.GOk Try.prog cx 144 ⟨[], impl_isCell_w (impl_isCell PM.std), none⟩ := by
  refine ⟨impl_isCell_fn.enter, fun _ ds k r h => ?_, fun hm => absurd rfl hm, fun _ e => (by cases e)⟩
  change impl_isCell_w (impl_isCell PM.std) ds k = some r at h
  unfold impl_isCell_w at h
  split at h
  · exact PM.pfun_ok (E := impl_isCell_E PM.std (impl_within PM.std)) (L := fun n => impl_isCell_L PM.std (impl_within PM.std) n) (N := PM.std.fuel) cx_ok (.cons impl_within_g .nil) mixed .nil impl_isCell_fn (by kernel_rfl) ⟨rfl, fun _ _ _ => rfl, fun n cur σ K r h => by cases h⟩
      ((impl_isCell_ok PM.std (impl_within PM.std) _ k).trans h)
  · cases h

abbrev impl_RowsOk_T := (List (List Int)) → ((Bool) → PM.R) → PM.R
noncomputable def impl_RowsOk_w (c : impl_RowsOk_T) (ds : List PM.V) (k : PM.V → PM.R) : PM.R :=
  match ds with
  | [.arr (.vecs 161 2 l)] => c l (fun r0 => k (.bool r0))
  | _ => none
noncomputable def impl_RowsOk_l0 (A : PM.Prims) (c_144 : impl_isCell_T) (c_193 : impl_isValue_T) : Nat → (List (List Int)) → (List (List Int)) → (Int) → (Int) → ((Bool) → PM.R) → ((List (List Int)) → PM.R) → PM.R
  | 0, _, _, _, _, _, _ => none
  | n + 1, l1, t52, t63, t74, kret_0, kx0_0 =>
    bif (A.lt t74 t63) then
      bif (A.inb t74 (A.vlen t52)) then
        c_144 (A.vget t52 t74 0) (fun r5 =>
          bif (A.not r5) then
            kret_0 false
          else
            c_193 (A.vget t52 t74 1) (fun r7 =>
              bif (A.not r7) then
                kret_0 false
              else
                impl_RowsOk_l0 A c_144 c_193 n l1 t52 t63 (A.add .i64 t74 1) kret_0 kx0_0))
      else
        none
    else
      kx0_0 l1
noncomputable def impl_RowsOk_f (A : PM.Prims) (c_144 : impl_isCell_T) (c_193 : impl_isValue_T) (l : List (List Int)) (k : (Bool) → PM.R) : PM.R :=
  impl_RowsOk_l0 A c_144 c_193 A.fuel l l (A.vlen l) 0 (fun t269 =>
    k t269) (fun l810 =>
    k (A.le (A.vlen l810) 300))
noncomputable def impl_RowsOk (A : PM.Prims) : impl_RowsOk_T := impl_RowsOk_f A (impl_isCell A) (impl_isValue A)
noncomputable def impl_RowsOk_L (A : PM.Prims) (c_144 : impl_isCell_T) (c_193 : impl_isValue_T) (n : Nat) : PM.Lam := fun cur σ K =>
  match cur, σ, K with
  | 0, ⟨[(0, .arr (.vecs 161 2 l1)), (5, .arr (.vecs 161 2 t52)), (6, .int .i64 t63), (7, .int .i64 t74)], []⟩, K => impl_RowsOk_l0 A c_144 c_193 n l1 t52 t63 t74 (fun t26 => K .ret ⟨[(2, .bool t26)], []⟩) (fun l8 => K (.exit 0) ⟨[(0, .arr (.vecs 161 2 l8))], []⟩)
  | _, _, _ => none
noncomputable def impl_RowsOk_E (A : PM.Prims) (c_144 : impl_isCell_T) (c_193 : impl_isValue_T) : PM.Env := ⟨[(144, ⟨[], impl_isCell_w c_144, none⟩), (193, ⟨[], impl_isValue_w c_193, none⟩)], [], [(0, [0, 5, 6, 7], [0, 2])], [(0, [0]), (1, [0, 5, 6, 7]), (2, [0, 5, 6, 7, 8]), (3, [0, 4, 5, 6, 7]), (4, [0, 5, 6, 7, 20]), (5, [2]), (6, [0, 5, 6, 7]), (7, [2])], impl_RowsOk_L A c_144 c_193 A.fuel⟩
theorem impl_RowsOk_l0_ok (A : PM.Prims) (c_144 : impl_isCell_T) (c_193 : impl_isValue_T) (n : Nat) (l1 : List (List Int)) (t52 : List (List Int)) (t63 : Int) (t74 : Int) (K : Go.Exit → PM.S → PM.R) : impl_RowsOk_L A c_144 c_193 (n + 1) 0 ⟨[(0, .arr (.vecs 161 2 l1)), (5, .arr (.vecs 161 2 t52)), (6, .int .i64 t63), (7, .int .i64 t74)], []⟩ K = PM.roundF A cx (PM.runD A cx (impl_RowsOk_E A c_144 c_193).inl (impl_RowsOk_E A c_144 c_193).Γ 3) (impl_RowsOk_E A c_144 c_193) (impl_RowsOk_L A c_144 c_193 n) 0 Go.Proofs.Try.f128 ⟨[(0, .arr (.vecs 161 2 l1)), (5, .arr (.vecs 161 2 t52)), (6, .int .i64 t63), (7, .int .i64 t74)], []⟩ K := by kernel_rfl
theorem impl_RowsOk_ok (A : PM.Prims) (c_144 : impl_isCell_T) (c_193 : impl_isValue_T) (l : List (List Int)) (k : PM.V → PM.R) : PM.pfun A cx [] (impl_RowsOk_E A c_144 c_193) Go.Proofs.Try.f128 [.arr (.vecs 161 2 l)] k = impl_RowsOk_f A c_144 c_193 l (fun r0 => k (.bool r0)) := by kernel_rfl

theorem impl_RowsOk_fn : PM.FnIs Try.prog 128 Try.f128 := .of Try.func128 (by kernel_rfl) (by kernel_rfl)
theorem impl_RowsOk_g : PM.GOk Try.prog cx 128 ⟨[], impl_RowsOk_w (impl_RowsOk PM.std), none⟩ := by
  refine ⟨impl_RowsOk_fn.enter, fun _ ds k r h => ?_, fun hm => absurd rfl hm, fun _ e => (by cases e)⟩
  change impl_RowsOk_w (impl_RowsOk PM.std) ds k = some r at h
  unfold impl_RowsOk_w at h
  split at h
  · exact PM.pfun_ok (E := impl_RowsOk_E PM.std (impl_isCell PM.std) (impl_isValue PM.std)) (L := fun n => impl_RowsOk_L PM.std (impl_isCell PM.std) (impl_isValue PM.std) n) (N := PM.std.fuel) cx_ok (.cons impl_isCell_g (.cons impl_isValue_g .nil)) mixed .nil impl_RowsOk_fn (by kernel_rfl) ⟨rfl, fun cur σ K => by
      dsimp only [impl_RowsOk_L]
      split <;> rfl, fun n cur σ K r h => by
      dsimp only [impl_RowsOk_L] at h
      split at h
      · exact (impl_RowsOk_l0_ok PM.std (impl_isCell PM.std) (impl_isValue PM.std) n _ _ _ _ K).symm.trans h
      · cases h⟩
      ((impl_RowsOk_ok PM.std (impl_isCell PM.std) (impl_isValue PM.std) _ k).trans h)
  · cases h

abbrev impl_copyInts_T := (List Int) → ((List Int) → PM.R) → PM.R
noncomputable def impl_copyInts_w (c : impl_copyInts_T) (ds : List PM.V) (k : PM.V → PM.R) : PM.R :=
  match ds with
  | [.arr (.ints 3 .i64 l)] => c l (fun r0 => k (.arr (.ints 3 .i64 r0)))
  | _ => none
noncomputable def impl_copyInts_f (A : PM.Prims) (l : List Int) (k : (List Int) → PM.R) : PM.R :=
  bif (A.room (A.ilen []) (A.ilen l)) then
    k (A.iapp [] l)
  else
    none
noncomputable def impl_copyInts (A : PM.Prims) : impl_copyInts_T := impl_copyInts_f A
noncomputable def impl_copyInts_L (A : PM.Prims) (n : Nat) : PM.Lam := fun cur σ K =>
  match cur, σ, K with
  | _, _, _ => none
noncomputable def impl_copyInts_E (A : PM.Prims) : PM.Env := ⟨[], [], [], [(0, [0]), (1, [2])], impl_copyInts_L A A.fuel⟩
theorem impl_copyInts_ok (A : PM.Prims) (l : List Int) (k : PM.V → PM.R) : PM.pfun A cx [] (impl_copyInts_E A) Go.Proofs.Try.f101 [.arr (.ints 3 .i64 l)] k = impl_copyInts_f A l (fun r0 => k (.arr (.ints 3 .i64 r0))) := by kernel_rfl

theorem impl_copyInts_fn : PM.FnIs Try.prog 101 Try.f101 := .of Try.func101 (by kernel_rfl) (by kernel_rfl)
theorem impl_copyInts_g : PM.GOk Try.prog cx 101 ⟨[], impl_copyInts_w (impl_copyInts PM.std), none⟩ := by
  refine ⟨impl_copyInts_fn.enter, fun _ ds k r h => ?_, fun hm => absurd rfl hm, fun _ e => (by cases e)⟩
  change impl_copyInts_w (impl_copyInts PM.std) ds k = some r at h
  unfold impl_copyInts_w at h
  split at h
  · exact PM.pfun_ok (E := impl_copyInts_E PM.std) (L := fun n => impl_copyInts_L PM.std n) (N := PM.std.fuel) cx_ok .nil mixed .nil impl_copyInts_fn (by kernel_rfl) ⟨rfl, fun _ _ _ => rfl, fun n cur σ K r h => by cases h⟩
      ((impl_copyInts_ok PM.std _ k).trans h)
  · cases h

abbrev impl_Overlay_T := (List Int) → (List (List Int)) → ((List Int) → PM.R) → PM.R
noncomputable def impl_Overlay_w (c : impl_Overlay_T) (ds : List PM.V) (k : PM.V → PM.R) : PM.R :=
  match ds with
  | [.arr (.ints 3 .i64 cells), .arr (.vecs 161 2 l)] => c cells l (fun r0 => k (.arr (.ints 3 .i64 r0)))
  | _ => none
noncomputable def impl_Overlay_l0 (A : PM.Prims) (c_128 : impl_RowsOk_T) (c_97 : impl_areValues_T) (c_101 : impl_copyInts_T) : Nat → (List (List Int)) → (Int) → (Int) → (List Int) → ((List Int) → PM.R) → PM.R
  | 0, _, _, _, _, _ => none
  | n + 1, t184, t195, t206, o07, kx0_0 =>
    bif (A.lt t206 t195) then
      bif (A.inb t206 (A.vlen t184)) then
        bif (A.inb (A.vget t184 t206 0) (A.ilen o07)) then
          impl_Overlay_l0 A c_128 c_97 c_101 n t184 t195 (A.add .i64 t206 1) (A.iset o07 (A.vget t184 t206 0) (A.vget t184 t206 1)) kx0_0
        else
          none
      else
        none
    else
      kx0_0 o07
noncomputable def impl_Overlay_f (A : PM.Prims) (c_128 : impl_RowsOk_T) (c_97 : impl_areValues_T) (c_101 : impl_copyInts_T) (cells : List Int) (l : List (List Int)) (k : (List Int) → PM.R) : PM.R :=
  c_97 cells 8 (fun r1 =>
    bif (A.not r1) then
      k []
    else
      c_128 l (fun r2 =>
        bif (A.not r2) then
          k []
        else
          c_101 cells (fun r3 =>
            impl_Overlay_l0 A c_128 c_97 c_101 A.fuel l (A.vlen l) 0 r3 (fun o089 =>
              k o089))))
noncomputable def impl_Overlay (A : PM.Prims) : impl_Overlay_T := impl_Overlay_f A (impl_RowsOk A) (impl_areValues A) (impl_copyInts A)
noncomputable def impl_Overlay_L (A : PM.Prims) (c_128 : impl_RowsOk_T) (c_97 : impl_areValues_T) (c_101 : impl_copyInts_T) (n : Nat) : PM.Lam := fun cur σ K =>
  match cur, σ, K with
  | 0, ⟨[(5, .sref 0), (18, .arr (.vecs 161 2 t184)), (19, .int .i64 t195), (20, .int .i64 t206)], [(0, .arr true (.ints 3 .i64 o07))]⟩, K => impl_Overlay_l0 A c_128 c_97 c_101 n t184 t195 t206 o07 (fun o08 => K (.exit 0) ⟨[(5, .sref 0)], [(0, .arr true (.ints 3 .i64 o08))]⟩)
  | _, _, _ => none
noncomputable def impl_Overlay_E (A : PM.Prims) (c_128 : impl_RowsOk_T) (c_97 : impl_areValues_T) (c_101 : impl_copyInts_T) : PM.Env := ⟨[(128, ⟨[], impl_RowsOk_w c_128, none⟩), (97, ⟨[], impl_areValues_w c_97, none⟩), (101, ⟨[], impl_copyInts_w c_101, none⟩)], [], [(0, [5, 18, 19, 20], [4, 5])], [(0, [0, 1]), (1, [0, 1, 15]), (2, [4]), (3, [1, 5]), (4, [5, 18, 19, 20]), (5, [5, 18, 19, 20, 21]), (6, [5, 7, 18, 19, 20]), (7, [5, 18, 19, 20]), (8, [5, 18, 19, 20]), (9, [4])], impl_Overlay_L A c_128 c_97 c_101 A.fuel⟩
theorem impl_Overlay_l0_ok (A : PM.Prims) (c_128 : impl_RowsOk_T) (c_97 : impl_areValues_T) (c_101 : impl_copyInts_T) (n : Nat) (t184 : List (List Int)) (t195 : Int) (t206 : Int) (o07 : List Int) (K : Go.Exit → PM.S → PM.R) : impl_Overlay_L A c_128 c_97 c_101 (n + 1) 0 ⟨[(5, .sref 0), (18, .arr (.vecs 161 2 t184)), (19, .int .i64 t195), (20, .int .i64 t206)], [(0, .arr true (.ints 3 .i64 o07))]⟩ K = PM.roundF A cx (PM.runD A cx (impl_Overlay_E A c_128 c_97 c_101).inl (impl_Overlay_E A c_128 c_97 c_101).Γ 3) (impl_Overlay_E A c_128 c_97 c_101) (impl_Overlay_L A c_128 c_97 c_101 n) 0 Go.Proofs.Try.f102 ⟨[(5, .sref 0), (18, .arr (.vecs 161 2 t184)), (19, .int .i64 t195), (20, .int .i64 t206)], [(0, .arr true (.ints 3 .i64 o07))]⟩ K := by kernel_rfl
theorem impl_Overlay_ok (A : PM.Prims) (c_128 : impl_RowsOk_T) (c_97 : impl_areValues_T) (c_101 : impl_copyInts_T) (cells : List Int) (l : List (List Int)) (k : PM.V → PM.R) : PM.pfun A cx [] (impl_Overlay_E A c_128 c_97 c_101) Go.Proofs.Try.f102 [.arr (.ints 3 .i64 cells), .arr (.vecs 161 2 l)] k = impl_Overlay_f A c_128 c_97 c_101 cells l (fun r0 => k (.arr (.ints 3 .i64 r0))) := by kernel_rfl

theorem impl_Overlay_fn : PM.FnIs Try.prog 102 Try.f102 := .of Try.func102 (by kernel_rfl) (by kernel_rfl)
theorem impl_Overlay_g : PM.GOk Try.prog cx 102 ⟨[], impl_Overlay_w (impl_Overlay PM.std), none⟩ := by
  refine ⟨impl_Overlay_fn.enter, fun _ ds k r h => ?_, fun hm => absurd rfl hm, fun _ e => (by cases e)⟩
  change impl_Overlay_w (impl_Overlay PM.std) ds k = some r at h
  unfold impl_Overlay_w at h
  split at h
  · exact PM.pfun_ok (E := impl_Overlay_E PM.std (impl_RowsOk PM.std) (impl_areValues PM.std) (impl_copyInts PM.std)) (L := fun n => impl_Overlay_L PM.std (impl_RowsOk PM.std) (impl_areValues PM.std) (impl_copyInts PM.std) n) (N := PM.std.fuel) cx_ok (.cons impl_RowsOk_g (.cons impl_areValues_g (.cons impl_copyInts_g .nil))) mixed .nil impl_Overlay_fn (by kernel_rfl) ⟨rfl, fun cur σ K => by
      dsimp only [impl_Overlay_L]
      split <;> rfl, fun n cur σ K r h => by
      dsimp only [impl_Overlay_L] at h
      split at h
      · exact (impl_Overlay_l0_ok PM.std (impl_RowsOk PM.std) (impl_areValues PM.std) (impl_copyInts PM.std) n _ _ _ _ K).symm.trans h
      · cases h⟩
      ((impl_Overlay_ok PM.std (impl_RowsOk PM.std) (impl_areValues PM.std) (impl_copyInts PM.std) _ _ k).trans h)
  · cases h

abbrev impl_FamAt_T := (List Int) → (Int) → (Int) → (Int) → (Bool) → (List Int) → (List (List Int)) → (List (List Int)) → (List Int) → (List (List Int)) → (List (List PM.C)) → (Int) → ((List Int) → PM.R) → PM.R
noncomputable def impl_FamAt_w (c : impl_FamAt_T) (ds : List PM.V) (k : PM.V → PM.R) : PM.R :=
  match ds with
  | [.arr (.ints 3 .i64 base), .agg [.int .i64 f_Rv, .int .i64 f_Clock, .int .i64 f_Owner, .bool f_Lost, .arr (.ints 3 .i64 f_Regs), .arr (.vecs 161 2 f_Start), .arr (.vecs 225 3 f_Buf), .arr (.ints 3 .i64 f_Order), .arr (.vecs 161 2 f_Reads), .arr (.rows 214 f_Kids)], .int .i64 n_] => c base f_Rv f_Clock f_Owner f_Lost f_Regs f_Start f_Buf f_Order f_Reads f_Kids n_ (fun r0 => k (.arr (.ints 3 .i64 r0)))
  | _ => none
noncomputable def impl_FamAt_l0 (A : PM.Prims) (c_134 : impl_within_T) (c_97 : impl_areValues_T) (c_128 : impl_RowsOk_T) (c_102 : impl_Overlay_T) : Nat → (Int) → (List Int) → (Int) → (Int) → (Int) → (Int) → (Int) → (Bool) → (List Int) → (List (List Int)) → (List (List Int)) → (List Int) → (List (List Int)) → (List (List C)) → (List Int) → ((List Int) → PM.R) → PM.R
  | 0, _, _, _, _, _, _, _, _, _, _, _, _, _, _, _, _ => none
  | n + 1, n4, t245, t256, t267, o08, o09, o010, o011, o012, o013, o014, o015, o016, o017, o118, kx0_0 =>
    bif (A.lt t267 t256) then
      bif (A.inb t267 (A.ilen t245)) then
        bif (A.lt t267 n4) then
          c_134 (A.iget t245 t267) 0 (A.sub .i64 (A.rlen o017) 1) (fun r19 =>
            bif r19 then
              bif (A.inb (A.iget t245 t267) (A.rlen o017)) then
                c_128 (A.rsv 2 o017 (A.iget t245 t267) 8) (fun r20 =>
                  bif r20 then
                    bif (A.inb (A.iget t245 t267) (A.rlen o017)) then
                      c_102 o118 (A.rsv 2 o017 (A.iget t245 t267) 8) (fun r21 =>
                        impl_FamAt_l0 A c_134 c_97 c_128 c_102 n n4 t245 t256 (A.add .i64 t267 1) o08 o09 o010 o011 o012 o013 o014 o015 o016 o017 r21 kx0_0)
                    else
                      none
                  else
                    impl_FamAt_l0 A c_134 c_97 c_128 c_102 n n4 t245 t256 (A.add .i64 t267 1) o08 o09 o010 o011 o012 o013 o014 o015 o016 o017 o118 kx0_0)
              else
                none
            else
              impl_FamAt_l0 A c_134 c_97 c_128 c_102 n n4 t245 t256 (A.add .i64 t267 1) o08 o09 o010 o011 o012 o013 o014 o015 o016 o017 o118 kx0_0)
        else
          impl_FamAt_l0 A c_134 c_97 c_128 c_102 n n4 t245 t256 (A.add .i64 t267 1) o08 o09 o010 o011 o012 o013 o014 o015 o016 o017 o118 kx0_0
      else
        none
    else
      kx0_0 o118
noncomputable def impl_FamAt_f (A : PM.Prims) (c_134 : impl_within_T) (c_97 : impl_areValues_T) (c_128 : impl_RowsOk_T) (c_102 : impl_Overlay_T) (base : List Int) (f_Rv : Int) (f_Clock : Int) (f_Owner : Int) (f_Lost : Bool) (f_Regs : List Int) (f_Start : List (List Int)) (f_Buf : List (List Int)) (f_Order : List Int) (f_Reads : List (List Int)) (f_Kids : List (List PM.C)) (n_ : Int) (k : (List Int) → PM.R) : PM.R :=
  c_97 base 8 (fun r1 =>
    bif (A.not r1) then
      k []
    else
      c_128 f_Start (fun r2 =>
        bif (A.not r2) then
          k []
        else
          c_102 base f_Start (fun r3 =>
            impl_FamAt_l0 A c_134 c_97 c_128 c_102 A.fuel n_ f_Order (A.ilen f_Order) 0 f_Rv f_Clock f_Owner f_Lost f_Regs f_Start f_Buf f_Order f_Reads f_Kids r3 (fun o02223 =>
              k o02223))))
noncomputable def impl_FamAt (A : PM.Prims) : impl_FamAt_T := impl_FamAt_f A (impl_within A) (impl_areValues A) (impl_RowsOk A) (impl_Overlay A)
noncomputable def impl_FamAt_L (A : PM.Prims) (c_134 : impl_within_T) (c_97 : impl_areValues_T) (c_128 : impl_RowsOk_T) (c_102 : impl_Overlay_T) (n : Nat) : PM.Lam := fun cur σ K =>
  match cur, σ, K with
  | 0, ⟨[(2, .int .i64 n4), (4, .pbox 0 0), (7, .sref 1), (24, .arr (.ints 3 .i64 t245)), (25, .int .i64 t256), (26, .int .i64 t267)], [(0, .box [.int .i64 o08, .int .i64 o09, .int .i64 o010, .bool o011, .arr (.ints 3 .i64 o012), .arr (.vecs 161 2 o013), .arr (.vecs 225 3 o014), .arr (.ints 3 .i64 o015), .arr (.vecs 161 2 o016), .arr (.rows 214 o017)]), (1, .arr true (.ints 3 .i64 o118))]⟩, K => impl_FamAt_l0 A c_134 c_97 c_128 c_102 n n4 t245 t256 t267 o08 o09 o010 o011 o012 o013 o014 o015 o016 o017 o118 (fun o022 => K (.exit 0) ⟨[(7, .sref 0)], [(0, .arr true (.ints 3 .i64 o022))]⟩)
  | _, _, _ => none
noncomputable def impl_FamAt_E (A : PM.Prims) (c_134 : impl_within_T) (c_97 : impl_areValues_T) (c_128 : impl_RowsOk_T) (c_102 : impl_Overlay_T) : PM.Env := ⟨[(134, ⟨[], impl_within_w c_134, none⟩), (97, ⟨[], impl_areValues_w c_97, none⟩), (128, ⟨[], impl_RowsOk_w c_128, none⟩), (102, ⟨[], impl_Overlay_w c_102, none⟩)], [], [(0, [2, 4, 7, 24, 25, 26], [6, 7])], [(0, [0, 2, 4]), (1, [0, 2, 4, 18]), (2, [6]), (3, [2, 4, 7]), (4, [2, 4, 7, 24, 25, 26]), (5, [2, 4, 7, 24, 25, 26, 27]), (6, [2, 4, 7, 8, 9, 24, 25, 26]), (7, [2, 4, 7, 9, 24, 25, 26, 50]), (8, [2, 4, 7, 24, 25, 26]), (9, [2, 4, 7, 24, 25, 26]), (10, [6])], impl_FamAt_L A c_134 c_97 c_128 c_102 A.fuel⟩
theorem impl_FamAt_l0_ok (A : PM.Prims) (c_134 : impl_within_T) (c_97 : impl_areValues_T) (c_128 : impl_RowsOk_T) (c_102 : impl_Overlay_T) (n : Nat) (n4 : Int) (t245 : List Int) (t256 : Int) (t267 : Int) (o08 : Int) (o09 : Int) (o010 : Int) (o011 : Bool) (o012 : List Int) (o013 : List (List Int)) (o014 : List (List Int)) (o015 : List Int) (o016 : List (List Int)) (o017 : List (List C)) (o118 : List Int) (K : Go.Exit → PM.S → PM.R) : impl_FamAt_L A c_134 c_97 c_128 c_102 (n + 1) 0 ⟨[(2, .int .i64 n4), (4, .pbox 0 0), (7, .sref 1), (24, .arr (.ints 3 .i64 t245)), (25, .int .i64 t256), (26, .int .i64 t267)], [(0, .box [.int .i64 o08, .int .i64 o09, .int .i64 o010, .bool o011, .arr (.ints 3 .i64 o012), .arr (.vecs 161 2 o013), .arr (.vecs 225 3 o014), .arr (.ints 3 .i64 o015), .arr (.vecs 161 2 o016), .arr (.rows 214 o017)]), (1, .arr true (.ints 3 .i64 o118))]⟩ K = PM.roundF A cx (PM.runD A cx (impl_FamAt_E A c_134 c_97 c_128 c_102).inl (impl_FamAt_E A c_134 c_97 c_128 c_102).Γ 3) (impl_FamAt_E A c_134 c_97 c_128 c_102) (impl_FamAt_L A c_134 c_97 c_128 c_102 n) 0 Go.Proofs.Try.f80 ⟨[(2, .int .i64 n4), (4, .pbox 0 0), (7, .sref 1), (24, .arr (.ints 3 .i64 t245)), (25, .int .i64 t256), (26, .int .i64 t267)], [(0, .box [.int .i64 o08, .int .i64 o09, .int .i64 o010, .bool o011, .arr (.ints 3 .i64 o012), .arr (.vecs 161 2 o013), .arr (.vecs 225 3 o014), .arr (.ints 3 .i64 o015), .arr (.vecs 161 2 o016), .arr (.rows 214 o017)]), (1, .arr true (.ints 3 .i64 o118))]⟩ K := by kernel_rfl
theorem impl_FamAt_ok (A : PM.Prims) (c_134 : impl_within_T) (c_97 : impl_areValues_T) (c_128 : impl_RowsOk_T) (c_102 : impl_Overlay_T) (base : List Int) (f_Rv : Int) (f_Clock : Int) (f_Owner : Int) (f_Lost : Bool) (f_Regs : List Int) (f_Start : List (List Int)) (f_Buf : List (List Int)) (f_Order : List Int) (f_Reads : List (List Int)) (f_Kids : List (List PM.C)) (n_ : Int) (k : PM.V → PM.R) : PM.pfun A cx [] (impl_FamAt_E A c_134 c_97 c_128 c_102) Go.Proofs.Try.f80 [.arr (.ints 3 .i64 base), .agg [.int .i64 f_Rv, .int .i64 f_Clock, .int .i64 f_Owner, .bool f_Lost, .arr (.ints 3 .i64 f_Regs), .arr (.vecs 161 2 f_Start), .arr (.vecs 225 3 f_Buf), .arr (.ints 3 .i64 f_Order), .arr (.vecs 161 2 f_Reads), .arr (.rows 214 f_Kids)], .int .i64 n_] k = impl_FamAt_f A c_134 c_97 c_128 c_102 base f_Rv f_Clock f_Owner f_Lost f_Regs f_Start f_Buf f_Order f_Reads f_Kids n_ (fun r0 => k (.arr (.ints 3 .i64 r0))) := by kernel_rfl

theorem impl_FamAt_fn : PM.FnIs Try.prog 80 Try.f80 := .of Try.func80 (by kernel_rfl) (by kernel_rfl)
theorem impl_FamAt_g : PM.GOk Try.prog cx 80 ⟨[], impl_FamAt_w (impl_FamAt PM.std), none⟩ := by
  refine ⟨impl_FamAt_fn.enter, fun _ ds k r h => ?_, fun hm => absurd rfl hm, fun _ e => (by cases e)⟩
  change impl_FamAt_w (impl_FamAt PM.std) ds k = some r at h
  unfold impl_FamAt_w at h
  split at h
  · exact PM.pfun_ok (E := impl_FamAt_E PM.std (impl_within PM.std) (impl_areValues PM.std) (impl_RowsOk PM.std) (impl_Overlay PM.std)) (L := fun n => impl_FamAt_L PM.std (impl_within PM.std) (impl_areValues PM.std) (impl_RowsOk PM.std) (impl_Overlay PM.std) n) (N := PM.std.fuel) cx_ok (.cons impl_within_g (.cons impl_areValues_g (.cons impl_RowsOk_g (.cons impl_Overlay_g .nil)))) mixed .nil impl_FamAt_fn (by kernel_rfl) ⟨rfl, fun cur σ K => by
      dsimp only [impl_FamAt_L]
      split <;> rfl, fun n cur σ K r h => by
      dsimp only [impl_FamAt_L] at h
      split at h
      · exact (impl_FamAt_l0_ok PM.std (impl_within PM.std) (impl_areValues PM.std) (impl_RowsOk PM.std) (impl_Overlay PM.std) n _ _ _ _ _ _ _ _ _ _ _ _ _ _ _ K).symm.trans h
      · cases h⟩
      ((impl_FamAt_ok PM.std (impl_within PM.std) (impl_areValues PM.std) (impl_RowsOk PM.std) (impl_Overlay PM.std) _ _ _ _ _ _ _ _ _ _ _ _ k).trans h)
  · cases h

section
open Go

/-! ## Searches with a predicate -/
theorem loop_any {p : Nat → Bool} {len : Nat} {F : Nat → Int → R} {k : Bool → R} {N : Nat} (hN : len < N)
    (hs : ∀ n i : Nat, i < len → F (n + 1) (i : Int) = bif p i then k (std.le 0 (i : Int)) else F n ((i + 1 : Nat) : Int)) (he : ∀ n, F (n + 1) (len : Int) = k (std.le 0 (-1))) :
    F N 0 = k (!allB (fun i => !p i) len) := by
  have key : ∀ m N i : Nat, i + m = len → m < N → F N (i : Int) = k (!allF (fun i => !p i) m i) := by
    intro m
    induction m with
    | zero =>
      intro N i h hn
      obtain ⟨N, rfl⟩ : ∃ q, N = q + 1 := ⟨N - 1, by omega⟩
      have : i = len := by omega
      subst this
      rw [he]; rfl
    | succ m ih =>
      intro N i h hn
      obtain ⟨N, rfl⟩ : ∃ q, N = q + 1 := ⟨N - 1, by omega⟩
      rw [hs N i (by omega), ih N (i + 1) (by omega) (by omega), show allF (fun i => !p i) (m + 1) i = bif !p i then allF (fun i => !p i) m (i + 1) else false from rfl]
      have e : std.le 0 (i : Int) = true := by rw [std_le]; exact decide_eq_true (by omega)
      rw [e]
      cases p i <;> rfl
  exact key len N 0 (by omega) hN
theorem neg_all (p : Nat → Bool) (n : Nat) : std.not (!allB (fun i => !(std.not (p i))) n) = allB p n := by
  have : (fun i => !(std.not (p i))) = p := by funext i; cases p i <;> rfl
  rw [this, std_not, Bool.not_not]
theorem bsame (x : Bool) : std.not (std.beq x x) = false := by cases x <;> rfl
theorem wd {n : Nat} {t : TypeId} {l : List (List Int)} (f : FitArr cx (.vecs t n l)) : ∀ r ∈ l, r.length = n := fun r hr => (f.2 r hr).1
noncomputable def foldN {α : Type} (g : Nat → α → α) : Nat → Nat → α → α
  | 0, _, o => o
  | m + 1, i, o => foldN g m (i + 1) (g i o)
theorem foldN_P {α : Type} {g : Nat → α → α} {P : α → Prop} {len : Nat} (hP : ∀ i o, i < len → P o → P (g i o)) : ∀ (m i : Nat) (o : α), i + m = len → P o → P (foldN g m i o)
  | 0, _, _, _, h => h
  | m + 1, i, o, e, h => foldN_P hP m (i + 1) (g i o) (by omega) (hP i o (by omega) h)
theorem loop_fo {α : Type} {P : α → Prop} {g : Nat → α → α} {len N : Nat} {F : Nat → Int → α → R} {k : α → R} (hN : len < N) (hs : ∀ (n i : Nat) (o : α), i < len → P o → F (n + 1) (i : Int) o = F n ((i + 1 : Nat) : Int) (g i o))
    (hP : ∀ i o, i < len → P o → P (g i o)) (he : ∀ (n : Nat) (o : α), P o → F (n + 1) (len : Int) o = k o) {o : α} (ho : P o) : F N 0 o = k (foldN g len 0 o) := by
  have key : ∀ (m N i : Nat) (o : α), i + m = len → m < N → P o → F N (i : Int) o = k (foldN g m i o) := by
    intro m
    induction m with
    | zero =>
      intro N i o h hn hp
      obtain ⟨N, rfl⟩ : ∃ q, N = q + 1 := ⟨N - 1, by omega⟩
      have : i = len := by omega
      subst this
      exact he N o hp
    | succ m ih =>
      intro N i o h hn hp
      obtain ⟨N, rfl⟩ : ∃ q, N = q + 1 := ⟨N - 1, by omega⟩
      rw [hs N i o (by omega) hp]
      exact ih N (i + 1) (g i o) (by omega) (by omega) (hP i o (by omega) hp)
  exact key len N 0 o (by omega) hN ho
theorem allB_at {p : Nat → Bool} {n i : Nat} (h : allB p n = true) (hi : i < n) : p i = true := allB_iff.1 h i hi
/-- 1 + n is not below 0. -/
theorem ge0_f {x : Int} (h : 0 ≤ x) : std.lt x 0 = false := by rw [std_lt]; exact decide_eq_false (by omega)


/-! ## Values, cells, rows -/
theorem bif_and {α : Type} (a b : Bool) (x y : α) : (bif a then (bif b then x else y) else y) = bif (a && b) then x else y := by cases a <;> rfl
theorem bif_not {α : Type} (a : Bool) (x y : α) : (bif std.not a then x else y) = bif a then y else x := by cases a <;> rfl
theorem le_lt (x y : Int) : std.le x y = !(std.lt y x) := by
  rw [std_le, std_lt]
  by_cases h : x ≤ y
  · rw [decide_eq_true h, decide_eq_false (by omega)]; rfl
  · rw [decide_eq_false h, decide_eq_true (by omega)]; rfl
noncomputable def inB (x a b : Int) : Bool := decide (a ≤ x ∧ x ≤ b)
noncomputable def cellB (x : Int) : Bool := inB x 0 7
noncomputable def valB (x : Int) : Bool := inB x 0 65535
theorem in_val (x a b : Int) (k : Bool → R) : spec_l1In std x a b k = k (inB x a b) := by
  simp only [spec_l1In, spec_l1In_f, std_le, inB]
  by_cases h : a ≤ x
  · by_cases g : x ≤ b <;> simp [h, g]
  · simp [h]
theorem in_val' (x a b : Int) (k : Bool → R) : impl_within std x a b k = k (inB x a b) := in_val x a b k
theorem cell_val (x : Int) (k : Bool → R) : spec_l3Cell std x k = k (cellB x) := in_val x 0 7 k
theorem val_val (x : Int) (k : Bool → R) : spec_l3Val std x k = k (valB x) := in_val x 0 65535 k
theorem cell_val' (x : Int) (k : Bool → R) : impl_isCell std x k = k (cellB x) := in_val x 0 7 k
theorem val_val' (x : Int) (k : Bool → R) : impl_isValue std x k = k (valB x) := in_val x 0 65535 k
noncomputable def valsB (l : List Int) (n : Int) : Bool := allB (fun i => valB (std.iget l (i : Int))) l.length && std.eq (std.ilen l) n
theorem areValues_val (l : List Int) (hb : l.length ≤ 1048576) (n : Int) (k : Bool → R) : impl_areValues std l n k = k (valsB l n) := by
  unfold impl_areValues impl_areValues_f valsB
  generalize hN : std.fuel = N
  have hN : 4294967296 = N := hN
  have lp : impl_areValues_l0 std (impl_isValue std) N l n l (std.ilen l) 0 (fun t => k t) (fun l811 n912 => k (std.eq (std.ilen l811) n912)) = bif allB (fun i => valB (std.iget l (i : Int))) l.length then k (std.eq (std.ilen l) n) else k false := by
    refine loop_all0 (F := fun m i => impl_areValues_l0 std (impl_isValue std) m l n l (std.ilen l) i (fun t => k t) (fun l811 n912 => k (std.eq (std.ilen l811) n912))) (by omega) (fun m i hi => ?_) (fun m => ?_)
    · have h1 : std.lt (i : Int) (std.ilen l) = true := by rw [std_ilen]; exact lt_nat_t hi
      have h2 : std.inb (i : Int) (std.ilen l) = true := by rw [std_ilen]; exact inb_nat_t hi
      simp only [impl_areValues_l0, h1, h2, bt, val_val', bif_not, add1 (i := i) (by omega)]
    · have h1 : std.lt (l.length : Int) (std.ilen l) = false := by rw [std_ilen]; exact lt_nat_f (Nat.le_refl _)
      simp only [impl_areValues_l0, h1, bf]
  rw [lp]
  cases allB (fun i => valB (std.iget l (i : Int))) l.length <;> rfl
noncomputable def rowOk (l : List (List Int)) (i : Nat) : Bool := cellB (std.vget l (i : Int) 0) && valB (std.vget l (i : Int) 1)
noncomputable def rowsOk (l : List (List Int)) : Bool := !(std.lt 300 (std.vlen l)) && allB (rowOk l) l.length
theorem RowsOk_l1 (l : List (List Int)) (hb : l.length ≤ 1048576) (kret : Bool → R) (kx : Unit → R) (N : Nat) (hN : l.length < N) :
    spec_RowsOk_l0 std (spec_l3Val std) (spec_l3Cell std) N l 0 kret kx = bif allB (rowOk l) l.length then kx () else kret false := by
  refine loop_all0 (F := fun n i => spec_RowsOk_l0 std (spec_l3Val std) (spec_l3Cell std) n l i kret kx) hN (fun n i hi => ?_) (fun n => ?_)
  · simp only [spec_RowsOk_l0, std_vlen, lt_nat_t hi, inb_nat_t hi, bt, val_val, cell_val, bif_not, bif_and, add1 (i := i) (by omega), rowOk]
  · simp only [spec_RowsOk_l0, std_vlen, lt_nat_f (Nat.le_refl _), bf]
theorem RowsOk_l2 (l m : List (List Int)) (hb : l.length ≤ 1048576) (kret : Bool → R) (kx : List (List Int) → R) (N : Nat) (hN : l.length < N) :
    impl_RowsOk_l0 std (impl_isCell std) (impl_isValue std) N m l l.length 0 kret kx = bif allB (rowOk l) l.length then kx m else kret false := by
  refine loop_all0 (F := fun n i => impl_RowsOk_l0 std (impl_isCell std) (impl_isValue std) n m l l.length i kret kx) hN (fun n i hi => ?_) (fun n => ?_)
  · simp only [impl_RowsOk_l0, std_vlen, lt_nat_t hi, inb_nat_t hi, bt, val_val', cell_val', bif_not, bif_and, add1 (i := i) (by omega), rowOk]
  · simp only [impl_RowsOk_l0, lt_nat_f (Nat.le_refl _), bf]
theorem RowsOk_val (l : List (List Int)) (hb : l.length ≤ 1048576) (k : Bool → R) : spec_RowsOk std l k = k (rowsOk l) ∧ impl_RowsOk std l k = k (rowsOk l) := by
  unfold spec_RowsOk spec_RowsOk_f impl_RowsOk impl_RowsOk_f rowsOk
  generalize hN : std.fuel = N
  have hN : 4294967296 = N := hN
  rw [RowsOk_l1 l hb _ _ N (by omega), std_vlen, RowsOk_l2 l l hb _ _ N (by omega)]
  simp only [std_vlen, le_lt]
  cases std.lt 300 (l.length : Int) <;> cases allB (rowOk l) l.length <;> exact ⟨rfl, rfl⟩

/-! ## Overlay -/
theorem l3Vals_val (l : List Int) (hb : l.length ≤ 1048576) (k : Bool → R) : spec_l3Vals std l k = k (valsB l 8) := by
  unfold spec_l3Vals spec_l3Vals_f valsB
  generalize hN : std.fuel = N
  have hN : 4294967296 = N := hN
  have lp : spec_l3Vals_l0 std (spec_l3Val std) N l 0 (fun t => k t) (fun _ => k true) = bif allB (fun i => valB (std.iget l (i : Int))) l.length then k true else k false := by
    refine loop_all0 (F := fun m i => spec_l3Vals_l0 std (spec_l3Val std) m l i (fun t => k t) (fun _ => k true)) (by omega) (fun m i hi => ?_) (fun m => ?_)
    · simp only [spec_l3Vals_l0, std_ilen, lt_nat_t hi, inb_nat_t hi, bt, val_val, bif_not, add1 (i := i) (by omega)]
    · simp only [spec_l3Vals_l0, std_ilen, lt_nat_f (Nat.le_refl _), bf]
  rw [lp]
  cases std.eq (std.ilen l) 8 <;> cases allB (fun i => valB (std.iget l (i : Int))) l.length <;> rfl
theorem copyInts_val (l : List Int) (hb : l.length ≤ 1048576) (k : List Int → R) : impl_copyInts std l k = k l := by
  unfold impl_copyInts impl_copyInts_f
  have e : std.room (std.ilen []) (std.ilen l) = true := by rw [std_room]; exact decide_eq_true (by simp; omega)
  rw [e, bt]
  rfl
noncomputable def ovG (l : List (List Int)) (i : Nat) (o : List Int) : List Int := std.iset o (std.vget l (i : Int) 0) (std.vget l (i : Int) 1)
noncomputable def ovL (v : List Int) (l : List (List Int)) : List Int := bif valsB v 8 && rowsOk l then foldN (ovG l) l.length 0 v else []
theorem ovG_len (l : List (List Int)) (i : Nat) (o : List Int) : (ovG l i o).length = o.length := by simp [ovG]
theorem ovF_len (l : List (List Int)) (v : List Int) : (foldN (ovG l) l.length 0 v).length = v.length :=
  foldN_P (P := fun o => o.length = v.length) (len := l.length) (fun i o _ h => (ovG_len l i o).trans h) _ 0 v (by omega) rfl
theorem ovL_len (v : List Int) (l : List (List Int)) (h : v.length ≤ 1048576) : (ovL v l).length ≤ 1048576 := by
  unfold ovL
  cases valsB v 8 && rowsOk l
  · simp
  · rw [bt, ovF_len]; exact h
theorem valsB_len {v : List Int} {n : Nat} (h : valsB v (n : Int) = true) : v.length = n := by
  unfold valsB at h
  rw [Bool.and_eq_true] at h
  have := h.2
  rw [std_eq, std_ilen, beq_iff_eq] at this
  omega
theorem row_cell {l : List (List Int)} (h : rowsOk l = true) {i : Nat} (hi : i < l.length) {o : List Int} (ho : o.length = 8) : std.inb (std.vget l (i : Int) 0) (std.ilen o) = true := by
  unfold rowsOk at h
  rw [Bool.and_eq_true] at h
  have := allB_at h.2 hi
  unfold rowOk cellB inB at this
  rw [Bool.and_eq_true, decide_eq_true_eq] at this
  rw [std_inb, std_ilen, ho]
  exact decide_eq_true (by omega)
theorem Overlay_val (v : List Int) (hv : v.length ≤ 1048576) (l : List (List Int)) (hb : l.length ≤ 1048576) (k : List Int → R) : spec_Overlay std v l k = k (ovL v l) ∧ impl_Overlay std v l k = k (ovL v l) := by
  unfold spec_Overlay spec_Overlay_f impl_Overlay impl_Overlay_f ovL
  rw [l3Vals_val v hv, areValues_val v hv]
  cases hvb : valsB v 8
  · exact ⟨rfl, rfl⟩
  · simp only [not_true', bf, (RowsOk_val l hb _).1, (RowsOk_val l hb _).2, Bool.true_and]
    cases hrb : rowsOk l
    · exact ⟨rfl, rfl⟩
    · have h8 : v.length = 8 := valsB_len (n := 8) hvb
      have e : std.room (std.ilen []) (std.ilen v) = true := by rw [std_room]; exact decide_eq_true (by simp; omega)
      simp only [not_true', bf, bt, e, copyInts_val v hv]
      generalize hN : std.fuel = N
      have hN : 4294967296 = N := hN
      constructor
      · refine loop_fo (P := fun o => o.length = 8) (F := fun n i o => spec_Overlay_l0 std (spec_l3Vals std) (spec_RowsOk std) n l i o (fun o => k o)) (by omega) (fun n i o hi ho => ?_) (fun i o _ h => (ovG_len l i o).trans h) (fun n o _ => ?_) h8
        · simp only [spec_Overlay_l0, std_vlen, lt_nat_t hi, inb_nat_t hi, bt, row_cell hrb hi ho, add1 (i := i) (by omega)]
          rfl
        · simp only [spec_Overlay_l0, std_vlen, lt_nat_f (Nat.le_refl _), bf]
      · rw [std_vlen]
        refine loop_fo (P := fun o => o.length = 8) (F := fun n i o => impl_Overlay_l0 std (impl_RowsOk std) (impl_areValues std) (impl_copyInts std) n l l.length i o (fun o => k o)) (by omega) (fun n i o hi ho => ?_) (fun i o _ h => (ovG_len l i o).trans h) (fun n o _ => ?_) h8
        · simp only [impl_Overlay_l0, std_vlen, lt_nat_t hi, inb_nat_t hi, bt, row_cell hrb hi ho, add1 (i := i) (by omega)]
          rfl
        · simp only [impl_Overlay_l0, lt_nat_f (Nat.le_refl _), bf]
theorem valsB_iff {o : List Int} {n : Nat} : valsB o (n : Int) = true ↔ o.length = n ∧ ∀ i, i < n → valB (o.getD i 0) = true := by
  constructor
  · intro h
    have hl := valsB_len h
    unfold valsB at h
    rw [Bool.and_eq_true] at h
    refine ⟨hl, fun i hi => ?_⟩
    have := allB_at h.1 (i := i) (by omega)
    rwa [std_iget, Int.toNat_natCast] at this
  · rintro ⟨hl, hv⟩
    unfold valsB
    rw [Bool.and_eq_true, std_eq, std_ilen, hl]
    refine ⟨allB_iff.2 fun i hi => ?_, by simp⟩
    rw [std_iget, Int.toNat_natCast]
    exact hv i (by omega)
theorem ovG_vals {l : List (List Int)} (h : rowsOk l = true) {i : Nat} (hi : i < l.length) {o : List Int} (ho : valsB o 8 = true) : valsB (ovG l i o) 8 = true := by
  obtain ⟨h1, h2⟩ := (valsB_iff (n := 8)).1 ho
  unfold rowsOk at h
  rw [Bool.and_eq_true] at h
  have hr := allB_at h.2 hi
  unfold rowOk at hr
  rw [Bool.and_eq_true] at hr
  refine (valsB_iff (n := 8)).2 ⟨by rw [ovG_len]; exact h1, fun q hq => ?_⟩
  unfold ovG
  rw [std_iset]
  rw [List.getD_eq_getElem?_getD, List.getElem?_set]
  split
  · split
    · exact hr.2
    · rename_i hn
      rw [Option.getD_none]
      rfl
  · have := h2 q hq
    rwa [List.getD_eq_getElem?_getD] at this
theorem ovL_vals {l : List (List Int)} (h : rowsOk l = true) {o : List Int} (ho : valsB o 8 = true) : valsB (ovL o l) 8 = true := by
  unfold ovL
  rw [ho, h, Bool.and_self, bt]
  exact foldN_P (P := fun o : List Int => valsB o 8 = true) (len := l.length) (fun i o hi hp => ovG_vals h hi hp) _ 0 o (by omega) ho

theorem valsB_ne {o : List Int} (h : valsB o 8 = true) : o ≠ [] := by
  have := valsB_len (n := 8) h
  intro e
  rw [e] at this
  cases this
theorem areV_l (l : List Int) (n : Int) : ∀ m i : Nat, i + m ≤ 4294967296 → (∀ k : Bool → R, impl_areValues_l0 std (impl_isValue std) m l n l (std.ilen l) (i : Int) (fun t => k t) (fun l n => k (std.eq (std.ilen l) n)) = none) ∨ (∀ k : Bool → R, impl_areValues_l0 std (impl_isValue std) m l n l (std.ilen l) (i : Int) (fun t => k t) (fun l n => k (std.eq (std.ilen l) n)) = k false) ∨ (∀ k : Bool → R, impl_areValues_l0 std (impl_isValue std) m l n l (std.ilen l) (i : Int) (fun t => k t) (fun l n => k (std.eq (std.ilen l) n)) = k (std.eq (std.ilen l) n)) := by
  intro m
  induction m with
  | zero => intro i _; exact .inl fun k => rfl
  | succ m ih =>
    intro i hi
    by_cases hl : i < l.length
    · have h1 : std.lt (i : Int) (std.ilen l) = true := by rw [std_ilen]; exact lt_nat_t hl
      have h2 : std.inb (i : Int) (std.ilen l) = true := by rw [std_ilen]; exact inb_nat_t hl
      cases hv : valB (std.iget l (i : Int))
      · exact .inr (.inl fun k => by simp only [impl_areValues_l0, h1, h2, bt, bf, val_val', bif_not, hv])
      · rcases ih (i + 1) (by omega) with h | h | h
        · exact .inl fun k => by simp only [impl_areValues_l0, h1, h2, bt, val_val', bif_not, hv, add1 (i := i) (by omega)]; exact h k
        · exact .inr (.inl fun k => by simp only [impl_areValues_l0, h1, h2, bt, val_val', bif_not, hv, add1 (i := i) (by omega)]; exact h k)
        · exact .inr (.inr fun k => by simp only [impl_areValues_l0, h1, h2, bt, val_val', bif_not, hv, add1 (i := i) (by omega)]; exact h k)
    · have h1 : std.lt (i : Int) (std.ilen l) = false := by rw [std_ilen]; exact lt_nat_f (by omega)
      exact .inr (.inr fun k => by simp only [impl_areValues_l0, h1, bf])
theorem areV_gen (l : List Int) : (∀ k : Bool → R, impl_areValues std l 8 k = none) ∨ (∀ k : Bool → R, impl_areValues std l 8 k = k false) ∨ ((∀ k : Bool → R, impl_areValues std l 8 k = k true) ∧ valsB l 8 = true) := by
  by_cases hl : l.length ≤ 1048576
  · cases hv : valsB l 8
    · exact .inr (.inl fun k => by rw [areValues_val l hl, hv])
    · exact .inr (.inr ⟨fun k => by rw [areValues_val l hl, hv], rfl⟩)
  · have he : std.eq (std.ilen l) 8 = false := by rw [std_eq, std_ilen]; exact decide_eq_false (by omega)
    rcases areV_l l 8 4294967296 0 (by omega) with h | h | h
    · exact .inl fun k => h k
    · exact .inr (.inl fun k => h k)
    · exact .inr (.inl fun k => (h k).trans (by rw [he]))
theorem rowsOk_len {l : List (List Int)} (h : rowsOk l = true) : l.length ≤ 300 := by
  by_cases hl : 300 < l.length
  · have e : std.lt 300 (std.vlen l) = true := by rw [std_lt, std_vlen]; exact decide_eq_true (by omega)
    unfold rowsOk at h
    rw [e] at h
    cases h
  · omega
theorem rowsV_l (l : List (List Int)) : ∀ m i : Nat, i + m ≤ 4294967296 → (∀ k : Bool → R, impl_RowsOk_l0 std (impl_isCell std) (impl_isValue std) m l l l.length (i : Int) (fun t => k t) (fun l => k (std.le (std.vlen l) 300)) = none) ∨ (∀ k : Bool → R, impl_RowsOk_l0 std (impl_isCell std) (impl_isValue std) m l l l.length (i : Int) (fun t => k t) (fun l => k (std.le (std.vlen l) 300)) = k false) ∨ (∀ k : Bool → R, impl_RowsOk_l0 std (impl_isCell std) (impl_isValue std) m l l l.length (i : Int) (fun t => k t) (fun l => k (std.le (std.vlen l) 300)) = k (std.le (std.vlen l) 300)) := by
  intro m
  induction m with
  | zero => intro i _; exact .inl fun k => rfl
  | succ m ih =>
    intro i hi
    by_cases hl : i < l.length
    · cases hv : rowOk l i
      · refine .inr (.inl fun k => ?_)
        unfold rowOk at hv
        simp only [impl_RowsOk_l0, std_vlen, lt_nat_t hl, inb_nat_t hl, bt, val_val', cell_val', bif_not, bif_and, hv, bf]
      · unfold rowOk at hv
        rcases ih (i + 1) (by omega) with h | h | h
        · exact .inl fun k => by simp only [impl_RowsOk_l0, std_vlen, lt_nat_t hl, inb_nat_t hl, bt, val_val', cell_val', bif_not, bif_and, hv, add1 (i := i) (by omega)]; exact h k
        · exact .inr (.inl fun k => by simp only [impl_RowsOk_l0, std_vlen, lt_nat_t hl, inb_nat_t hl, bt, val_val', cell_val', bif_not, bif_and, hv, add1 (i := i) (by omega)]; exact h k)
        · exact .inr (.inr fun k => by simp only [impl_RowsOk_l0, std_vlen l, lt_nat_t hl, inb_nat_t hl, bt, val_val', cell_val', bif_not, bif_and, hv, add1 (i := i) (by omega)]; exact h k)
    · exact .inr (.inr fun k => by simp only [impl_RowsOk_l0, lt_nat_f (Nat.le_of_not_lt hl), bf])
theorem RowsOk_gen (l : List (List Int)) : (∀ k : Bool → R, impl_RowsOk std l k = none) ∨ (∀ k : Bool → R, impl_RowsOk std l k = k (rowsOk l)) := by
  by_cases hl : l.length ≤ 1048576
  · exact .inr fun k => (RowsOk_val l hl k).2
  · have e : std.lt 300 (std.vlen l) = true := by rw [std_lt, std_vlen]; exact decide_eq_true (by omega)
    have e2 : std.le (std.vlen l) 300 = false := by rw [le_lt, e]; rfl
    have e3 : rowsOk l = false := by unfold rowsOk; rw [e]; rfl
    rw [e3]
    rcases rowsV_l l 4294967296 0 (by omega) with h | h | h
    · exact .inl fun k => h k
    · exact .inr fun k => h k
    · exact .inr fun k => (h k).trans (by rw [e2])
noncomputable def neK (k : V → R) : V → R := fun d => match d with
  | .arr (.ints 3 .i64 (x :: l)) => k (.arr (.ints 3 .i64 (x :: l)))
  | _ => none
theorem FamAt_l (n : Int) (order : List Int) (rv ck ow : Int) (lo : Bool) (regs : List Int) (start buf : List (List Int)) (ord2 : List Int) (reads : List (List Int)) (K : List (List C)) : ∀ (m : Nat) (i : Int) (o : List Int), valsB o 8 = true →
    (∀ k : List Int → R, impl_FamAt_l0 std (impl_within std) (impl_areValues std) (impl_RowsOk std) (impl_Overlay std) m n order order.length i rv ck ow lo regs start buf ord2 reads K o (fun o => k o) = none) ∨
    ∃ o', valsB o' 8 = true ∧ ∀ k : List Int → R, impl_FamAt_l0 std (impl_within std) (impl_areValues std) (impl_RowsOk std) (impl_Overlay std) m n order order.length i rv ck ow lo regs start buf ord2 reads K o (fun o => k o) = k o' := by
  intro m
  induction m with
  | zero => intro i o _; exact .inl fun k => rfl
  | succ m ih =>
    intro i o ho
    have hnx : ∀ i2 o2, valsB o2 8 = true → (∀ k : List Int → R, impl_FamAt_l0 std (impl_within std) (impl_areValues std) (impl_RowsOk std) (impl_Overlay std) m n order order.length i2 rv ck ow lo regs start buf ord2 reads K o2 (fun o => k o) = none) ∨
      ∃ o', valsB o' 8 = true ∧ ∀ k : List Int → R, impl_FamAt_l0 std (impl_within std) (impl_areValues std) (impl_RowsOk std) (impl_Overlay std) m n order order.length i2 rv ck ow lo regs start buf ord2 reads K o2 (fun o => k o) = k o' := fun i2 o2 h => ih i2 o2 h
    have ho8 := valsB_len (n := 8) ho
    simp only [impl_FamAt_l0, in_val']
    cases std.lt i (order.length : Int)
    · exact .inr ⟨o, ho, fun k => rfl⟩
    cases std.inb i (std.ilen order)
    · exact .inl fun k => rfl
    cases std.lt i n
    · exact hnx _ _ ho
    simp only [bt]
    cases inB (std.iget order i) 0 (std.sub .i64 (std.rlen K) 1)
    · exact hnx _ _ ho
    simp only [bt]
    cases std.inb (std.iget order i) (std.rlen K)
    · exact .inl fun k => rfl
    simp only [bt]
    rcases RowsOk_gen (std.rsv 2 K (std.iget order i) 8) with hg | hg
    · simp only [hg]; exact .inl fun k => trivial
    simp only [hg]
    cases hr : rowsOk (std.rsv 2 K (std.iget order i) 8)
    · exact hnx _ _ ho
    have hl := rowsOk_len hr
    simp only [bt, (Overlay_val o (by omega) (std.rsv 2 K (std.iget order i) 8) (by omega) _).2]
    exact hnx _ _ (ovL_vals hr ho)
theorem nil80 : PM.NilOk Try.prog cx 80 (impl_FamAt_w (impl_FamAt PM.std)) := by
  intro ds k r h
  unfold impl_FamAt_w at h
  split at h
  case h_2 => cases h
  rename_i base rv ck ow lo regs start buf order reads kids n
  have hA : ∀ (b : Bool), (∀ kk : Bool → R, impl_areValues std base 8 kk = kk b) → ∀ (w W : World) (v0 : Value), PM.ArrV cx w (fun x => x < w.heap.size) (.ints 3 .i64 base) v0 → RowKit.Below w.heap.size w W → Calls Try.prog 97 #[v0, .int .i64 8] W fun e w' => e = .returned (.bool b) ∧ RowKit.Below W.heap.size W w' := fun b hb w W v0 hv hW => by
    obtain ⟨d, hd, hc⟩ := impl_areValues_g.run rfl [.arr (.ints 3 .i64 base), .int .i64 8] some (.bool b) (show impl_areValues std base 8 (fun r0 => some (PM.V.bool r0)) = some (PM.V.bool b) from hb _)
    cases hd
    refine (hc W [v0, .int .i64 8] ⟨PM.ArrV.mono (fun x hx => ⟨Nat.lt_of_lt_of_le hx hW.size, hW.block x hx⟩) hv, rfl, trivial⟩).mono fun e w' hq => ?_
    obtain ⟨vv, bs, okf, rfl, hbl, hown, _⟩ := hq
    have hown : vv = .bool b ∧ bs = [] := hown
    exact ⟨by rw [hown.1], hbl⟩
  have hR : (∀ kk : Bool → R, impl_RowsOk std start kk = kk false) → ∀ (w W : World) (v5 : Value), PM.ArrV cx w (fun x => x < w.heap.size) (.vecs 161 2 start) v5 → RowKit.Below w.heap.size w W → Calls Try.prog 128 #[v5] W fun e w' => e = .returned (.bool false) ∧ RowKit.Below w.heap.size w w' := fun hr w W v5 hv hW => by
    obtain ⟨d, hd, hc⟩ := impl_RowsOk_g.run rfl [.arr (.vecs 161 2 start)] some (.bool false) (show impl_RowsOk std start (fun r0 => some (PM.V.bool r0)) = some (PM.V.bool false) from hr _)
    cases hd
    refine (hc W [v5] ⟨PM.ArrV.mono (fun x hx => ⟨Nat.lt_of_lt_of_le hx hW.size, hW.block x hx⟩) hv, trivial⟩).mono fun e w' hq => ?_
    obtain ⟨vv, bs, okf, rfl, hbl, hown, _⟩ := hq
    have hown : vv = .bool false ∧ bs = [] := hown
    exact ⟨by rw [hown.1], hW.trans (hbl.mono hW.size)⟩
  have hag : ∀ (w : World) (vs : List Value), PM.Args cx w [.arr (.ints 3 .i64 base), .agg [.int .i64 rv, .int .i64 ck, .int .i64 ow, .bool lo, .arr (.ints 3 .i64 regs), .arr (.vecs 161 2 start), .arr (.vecs 225 3 buf), .arr (.ints 3 .i64 order), .arr (.vecs 161 2 reads), .arr (.rows 214 kids)], .int .i64 n] vs →
      ∃ v0 u0 u1 u2 u3 u4 u5 u6 u7 u8 u9, vs = [v0, .agg #[u0, u1, u2, u3, u4, u5, u6, u7, u8, u9], .int .i64 n] ∧ PM.ArrV cx w (fun x => x < w.heap.size) (.ints 3 .i64 base) v0 ∧ PM.ArrV cx w (fun x => x < w.heap.size) (.vecs 161 2 start) u5 := fun w vs hv => by
    obtain ⟨v0, r0, rfl, g0, hv⟩ := hv.cons_inv
    obtain ⟨v1, r1, rfl, g1, hv⟩ := hv.cons_inv
    obtain ⟨v2, r2, rfl, g2, hv⟩ := hv.cons_inv
    cases hv.nil_inv
    have g2 : v2 = .int .i64 n := g2
    subst g2
    obtain ⟨us, rfl, g1⟩ := g1
    obtain ⟨u0, s0, rfl, e0, g1⟩ := g1.cons_inv
    obtain ⟨u1, s1, rfl, e1, g1⟩ := g1.cons_inv
    obtain ⟨u2, s2, rfl, e2, g1⟩ := g1.cons_inv
    obtain ⟨u3, s3, rfl, e3, g1⟩ := g1.cons_inv
    obtain ⟨u4, s4, rfl, e4, g1⟩ := g1.cons_inv
    obtain ⟨u5, s5, rfl, e5, g1⟩ := g1.cons_inv
    obtain ⟨u6, s6, rfl, e6, g1⟩ := g1.cons_inv
    obtain ⟨u7, s7, rfl, e7, g1⟩ := g1.cons_inv
    obtain ⟨u8, s8, rfl, e8, g1⟩ := g1.cons_inv
    obtain ⟨u9, s9, rfl, e9, g1⟩ := g1.cons_inv
    cases g1.nil_inv
    exact ⟨v0, u0, u1, u2, u3, u4, u5, u6, u7, u8, u9, rfl, g0, e5⟩
  have hrun := impl_FamAt_g.run rfl [.arr (.ints 3 .i64 base), .agg [.int .i64 rv, .int .i64 ck, .int .i64 ow, .bool lo, .arr (.ints 3 .i64 regs), .arr (.vecs 161 2 start), .arr (.vecs 225 3 buf), .arr (.ints 3 .i64 order), .arr (.vecs 161 2 reads), .arr (.rows 214 kids)], .int .i64 n]
  unfold impl_FamAt impl_FamAt_f at h
  rcases areV_gen base with ha | ha | ⟨ha, hva⟩
  · rw [ha] at h; cases h
  · rw [ha] at h
    simp only [not_false', bt] at h
    refine ⟨_, h, fun w vs hv => .inr ⟨_, rfl, rfl, ?_⟩⟩
    obtain ⟨v0, u0, u1, u2, u3, u4, u5, u6, u7, u8, u9, rfl, g0, g5⟩ := hag w vs hv
    exact FamAt_nil1 v0 u0 u1 u2 u3 u4 u5 u6 u7 u8 u9 n fun W hW => (hA false ha w W v0 g0 hW).mono fun e w' hq => ⟨hq.1, hW.trans (hq.2.mono hW.size)⟩
  · rw [ha] at h
    simp only [not_true', bf] at h
    rcases RowsOk_gen start with hg | hg
    · rw [hg] at h; cases h
    rw [hg] at h
    cases hr : rowsOk start
    · rw [hr] at h
      simp only [not_false', bt] at h
      refine ⟨_, h, fun w vs hv => .inr ⟨_, rfl, rfl, ?_⟩⟩
      obtain ⟨v0, u0, u1, u2, u3, u4, u5, u6, u7, u8, u9, rfl, g0, g5⟩ := hag w vs hv
      exact FamAt_nil2 v0 u0 u1 u2 u3 u4 u5 u6 u7 u8 u9 n (fun W hW => hA true ha w W v0 g0 hW) (fun W hW => hR (fun kk => (hg kk).trans (by rw [hr])) w W u5 g5 hW)
    · have hb8 := valsB_len (n := 8) hva
      have hs := rowsOk_len hr
      rw [hr] at h
      simp only [not_true', bf, (Overlay_val base (by omega) start (by omega) _).2] at h
      rcases FamAt_l n order rv ck ow lo regs start buf order reads kids std.fuel 0 (ovL base start) (ovL_vals hr hva) with hn | ⟨o', ho, hk⟩
      · have h : impl_FamAt_l0 std (impl_within std) (impl_areValues std) (impl_RowsOk std) (impl_Overlay std) std.fuel n order order.length 0 rv ck ow lo regs start buf order reads kids (ovL base start) (fun o => k (.arr (.ints 3 .i64 o))) = some r := h
        rw [hn] at h; cases h
      · have h : impl_FamAt_l0 std (impl_within std) (impl_areValues std) (impl_RowsOk std) (impl_Overlay std) std.fuel n order order.length 0 rv ck ow lo regs start buf order reads kids (ovL base start) (fun o => k (.arr (.ints 3 .i64 o))) = some r := h
        rw [hk fun o => k (.arr (.ints 3 .i64 o))] at h
        obtain ⟨d, hd, hc⟩ := hrun (neK k) r (show impl_FamAt std base rv ck ow lo regs start buf order reads kids n (fun o => neK k (.arr (.ints 3 .i64 o))) = some r from by
          unfold impl_FamAt impl_FamAt_f
          simp only [ha, not_true', bf, hg, hr, (Overlay_val base (by omega) start (by omega) _).2]
          refine (hk fun o => neK k (.arr (.ints 3 .i64 o))).trans ?_
          cases o' with
          | nil => exact absurd rfl (valsB_ne ho)
          | cons x l => exact h)
        unfold neK at hd
        split at hd
        case h_2 => cases hd
        rename_i x l
        exact ⟨_, hd, fun w vs hv => .inl ⟨_, rfl, List.cons_ne_nil _ _, hc w vs hv⟩⟩
end


abbrev impl_FamTrue_T := (List Int) → (Int) → (Int) → (Int) → (Bool) → (List Int) → (List (List Int)) → (List (List Int)) → (List Int) → (List (List Int)) → (List (List PM.C)) → ((Bool) → PM.R) → PM.R
noncomputable def impl_FamTrue_w (c : impl_FamTrue_T) (ds : List PM.V) (k : PM.V → PM.R) : PM.R :=
  match ds with
  | [.arr (.ints 3 .i64 base), .agg [.int .i64 f_Rv, .int .i64 f_Clock, .int .i64 f_Owner, .bool f_Lost, .arr (.ints 3 .i64 f_Regs), .arr (.vecs 161 2 f_Start), .arr (.vecs 225 3 f_Buf), .arr (.ints 3 .i64 f_Order), .arr (.vecs 161 2 f_Reads), .arr (.rows 214 f_Kids)]] => c base f_Rv f_Clock f_Owner f_Lost f_Regs f_Start f_Buf f_Order f_Reads f_Kids (fun r0 => k (.bool r0))
  | _ => none
noncomputable def impl_FamTrue_l2 (A : PM.Prims) (c_144 : impl_isCell_T) (c_80 : impl_FamAt_T) : Nat → (List Int) → (List Int) → (List (List C)) → (Int) → (Int) → (List (List Int)) → (Int) → (Int) → (Int) → (Int) → (Int) → (Bool) → (List Int) → (List (List Int)) → (List (List Int)) → (List Int) → (List (List Int)) → (List (List C)) → ((Bool) → PM.R) → ((List Int) → (List (List C)) → (Int) → (Int) → (Int) → (Int) → (Int) → (Bool) → (List Int) → (List (List Int)) → (List (List Int)) → (List Int) → (List (List Int)) → (List (List C)) → PM.R) → PM.R
  | 0, _, _, _, _, _, _, _, _, _, _, _, _, _, _, _, _, _, _, _, _ => none
  | n + 1, base17, s18, t1519, t1620, t1721, t2722, t2823, t2924, o025, o026, o027, o028, o029, o030, o031, o032, o033, o034, kret_2, kx2_2 =>
    bif (A.lt t2924 t2823) then
      bif (A.inb t2924 (A.vlen t2722)) then
        c_144 (A.vget t2722 t2924 0) (fun r35 =>
          bif (A.not r35) then
            kret_2 false
          else
            bif (A.inb (A.vget t2722 t2924 0) (A.ilen s18)) then
              bif (A.not (A.eq (A.iget s18 (A.vget t2722 t2924 0)) (A.vget t2722 t2924 1))) then
                kret_2 false
              else
                impl_FamTrue_l2 A c_144 c_80 n base17 s18 t1519 t1620 t1721 t2722 t2823 (A.add .i64 t2924 1) o025 o026 o027 o028 o029 o030 o031 o032 o033 o034 kret_2 kx2_2
            else
              none)
      else
        none
    else
      kx2_2 base17 t1519 t1620 t1721 o025 o026 o027 o028 o029 o030 o031 o032 o033 o034
noncomputable def impl_FamTrue_l0 (A : PM.Prims) (c_144 : impl_isCell_T) (c_80 : impl_FamAt_T) : Nat → (List Int) → (List (List C)) → (Int) → (Int) → (Int) → (Int) → (Int) → (Bool) → (List Int) → (List (List Int)) → (List (List Int)) → (List Int) → (List (List Int)) → (List (List C)) → ((Bool) → PM.R) → (Unit → PM.R) → PM.R
  | 0, _, _, _, _, _, _, _, _, _, _, _, _, _, _, _, _ => none
  | n + 1, base2, t153, t164, t175, o06, o07, o08, o09, o010, o011, o012, o013, o014, o015, kret_0, kx0_0 =>
    bif (A.lt t175 t164) then
      bif (A.inb t175 (A.rlen t153)) then
        c_80 base2 o06 o07 o08 o09 o010 o011 o012 o013 o014 o015 (A.rint t153 t175 2) (fun r16 =>
          bif (A.lt 0 (A.ilen r16)) then
            impl_FamTrue_l2 A c_144 c_80 A.fuel base2 r16 t153 t164 t175 (A.rsv 3 t153 t175 7) (A.vlen (A.rsv 3 t153 t175 7)) 0 o06 o07 o08 o09 o010 o011 o012 o013 o014 o015 (fun t43651 =>
              kret_0 t43651) (fun base3753 t153854 t163955 t174056 o04157 o04258 o04359 o04460 o04561 o04662 o04763 o04864 o04965 o05066 =>
              impl_FamTrue_l0 A c_144 c_80 n base3753 t153854 t163955 (A.add .i64 t174056 1) o04157 o04258 o04359 o04460 o04561 o04662 o04763 o04864 o04965 o05066 kret_0 kx0_0)
          else
            none)
      else
        none
    else
      kx0_0 ()
noncomputable def impl_FamTrue_f (A : PM.Prims) (c_144 : impl_isCell_T) (c_80 : impl_FamAt_T) (base : List Int) (f_Rv : Int) (f_Clock : Int) (f_Owner : Int) (f_Lost : Bool) (f_Regs : List Int) (f_Start : List (List Int)) (f_Buf : List (List Int)) (f_Order : List Int) (f_Reads : List (List Int)) (f_Kids : List (List PM.C)) (k : (Bool) → PM.R) : PM.R :=
  c_80 base f_Rv f_Clock f_Owner f_Lost f_Regs f_Start f_Buf f_Order f_Reads f_Kids 0 (fun r1 =>
    bif (A.lt 0 (A.ilen r1)) then
      bif (A.lt 0 (A.ilen r1)) then
        impl_FamTrue_l0 A c_144 c_80 A.fuel base f_Kids (A.rlen f_Kids) 0 f_Rv f_Clock f_Owner f_Lost f_Regs f_Start f_Buf f_Order f_Reads f_Kids (fun t45267 =>
          k t45267) (fun _ =>
          k true)
      else
        none
    else
      k false)
noncomputable def impl_FamTrue (A : PM.Prims) : impl_FamTrue_T := impl_FamTrue_f A (impl_isCell A) (impl_FamAt A)
noncomputable def impl_FamTrue_L (A : PM.Prims) (c_144 : impl_isCell_T) (c_80 : impl_FamAt_T) (n : Nat) : PM.Lam := fun cur σ K =>
  match cur, σ, K with
  | 0, ⟨[(0, .arr (.ints 3 .i64 base2)), (3, .pbox 0 0), (15, .arr (.rows 214 t153)), (16, .int .i64 t164), (17, .int .i64 t175)], [(0, .box [.int .i64 o06, .int .i64 o07, .int .i64 o08, .bool o09, .arr (.ints 3 .i64 o010), .arr (.vecs 161 2 o011), .arr (.vecs 225 3 o012), .arr (.ints 3 .i64 o013), .arr (.vecs 161 2 o014), .arr (.rows 214 o015)])]⟩, K => impl_FamTrue_l0 A c_144 c_80 n base2 t153 t164 t175 o06 o07 o08 o09 o010 o011 o012 o013 o014 o015 (fun t452 => K .ret ⟨[(4, .bool t452)], []⟩) (fun _ => K (.exit 0) ⟨[], []⟩)
  | 2, ⟨[(0, .arr (.ints 3 .i64 base17)), (3, .pbox 0 0), (7, .arr (.ints 3 .i64 s18)), (15, .arr (.rows 214 t1519)), (16, .int .i64 t1620), (17, .int .i64 t1721), (27, .arr (.vecs 225 3 t2722)), (28, .int .i64 t2823), (29, .int .i64 t2924)], [(0, .box [.int .i64 o025, .int .i64 o026, .int .i64 o027, .bool o028, .arr (.ints 3 .i64 o029), .arr (.vecs 161 2 o030), .arr (.vecs 225 3 o031), .arr (.ints 3 .i64 o032), .arr (.vecs 161 2 o033), .arr (.rows 214 o034)])]⟩, K => impl_FamTrue_l2 A c_144 c_80 n base17 s18 t1519 t1620 t1721 t2722 t2823 t2924 o025 o026 o027 o028 o029 o030 o031 o032 o033 o034 (fun t436 => K .ret ⟨[(4, .bool t436)], []⟩) (fun base37 t1538 t1639 t1740 o041 o042 o043 o044 o045 o046 o047 o048 o049 o050 => K (.exit 2) ⟨[(0, .arr (.ints 3 .i64 base37)), (3, .pbox 0 0), (15, .arr (.rows 214 t1538)), (16, .int .i64 t1639), (17, .int .i64 t1740)], [(0, .box [.int .i64 o041, .int .i64 o042, .int .i64 o043, .bool o044, .arr (.ints 3 .i64 o045), .arr (.vecs 161 2 o046), .arr (.vecs 225 3 o047), .arr (.ints 3 .i64 o048), .arr (.vecs 161 2 o049), .arr (.rows 214 o050)])]⟩)
  | _, _, _ => none
noncomputable def impl_FamTrue_E (A : PM.Prims) (c_144 : impl_isCell_T) (c_80 : impl_FamAt_T) : PM.Env := ⟨[(144, ⟨[], impl_isCell_w c_144, none⟩), (80, ⟨[], fun _ _ => none, some (PM.spNil A [262528] (impl_FamAt_w c_80))⟩)], [], [(0, [0, 3, 15, 16, 17], [4]), (2, [0, 3, 7, 15, 16, 17, 27, 28, 29], [0, 3, 4, 15, 16, 17])], [(0, [0, 3]), (1, [0, 3, 13]), (2, [4]), (3, [0, 3, 15, 16, 17]), (4, [0, 3, 15, 16, 17, 18]), (5, [0, 3, 6, 15, 16, 17]), (6, [0, 3, 6, 7, 15, 16, 17]), (7, [0, 3, 7, 15, 16, 17, 27, 28, 29]), (8, [0, 3, 7, 15, 16, 17, 27, 28, 29, 30]), (9, [0, 3, 7, 9, 15, 16, 17, 27, 28, 29]), (10, [0, 3, 7, 15, 16, 17, 27, 28, 29, 46]), (11, [4]), (12, [0, 3, 7, 15, 16, 17, 27, 28, 29]), (13, [0, 3, 15, 16, 17]), (14, [4])], impl_FamTrue_L A c_144 c_80 A.fuel⟩
theorem impl_FamTrue_l0_ok (A : PM.Prims) (c_144 : impl_isCell_T) (c_80 : impl_FamAt_T) (n : Nat) (base2 : List Int) (t153 : List (List C)) (t164 : Int) (t175 : Int) (o06 : Int) (o07 : Int) (o08 : Int) (o09 : Bool) (o010 : List Int) (o011 : List (List Int)) (o012 : List (List Int)) (o013 : List Int) (o014 : List (List Int)) (o015 : List (List C)) (K : Go.Exit → PM.S → PM.R) : impl_FamTrue_L A c_144 c_80 (n + 1) 0 ⟨[(0, .arr (.ints 3 .i64 base2)), (3, .pbox 0 0), (15, .arr (.rows 214 t153)), (16, .int .i64 t164), (17, .int .i64 t175)], [(0, .box [.int .i64 o06, .int .i64 o07, .int .i64 o08, .bool o09, .arr (.ints 3 .i64 o010), .arr (.vecs 161 2 o011), .arr (.vecs 225 3 o012), .arr (.ints 3 .i64 o013), .arr (.vecs 161 2 o014), .arr (.rows 214 o015)])]⟩ K = PM.roundF A cx (PM.runD A cx (impl_FamTrue_E A c_144 c_80).inl (impl_FamTrue_E A c_144 c_80).Γ 3) (impl_FamTrue_E A c_144 c_80) (impl_FamTrue_L A c_144 c_80 n) 0 Go.Proofs.Try.f71 ⟨[(0, .arr (.ints 3 .i64 base2)), (3, .pbox 0 0), (15, .arr (.rows 214 t153)), (16, .int .i64 t164), (17, .int .i64 t175)], [(0, .box [.int .i64 o06, .int .i64 o07, .int .i64 o08, .bool o09, .arr (.ints 3 .i64 o010), .arr (.vecs 161 2 o011), .arr (.vecs 225 3 o012), .arr (.ints 3 .i64 o013), .arr (.vecs 161 2 o014), .arr (.rows 214 o015)])]⟩ K := by kernel_rfl
theorem impl_FamTrue_l2_ok (A : PM.Prims) (c_144 : impl_isCell_T) (c_80 : impl_FamAt_T) (n : Nat) (base17 : List Int) (s18 : List Int) (t1519 : List (List C)) (t1620 : Int) (t1721 : Int) (t2722 : List (List Int)) (t2823 : Int) (t2924 : Int) (o025 : Int) (o026 : Int) (o027 : Int) (o028 : Bool) (o029 : List Int) (o030 : List (List Int)) (o031 : List (List Int)) (o032 : List Int) (o033 : List (List Int)) (o034 : List (List C)) (K : Go.Exit → PM.S → PM.R) : impl_FamTrue_L A c_144 c_80 (n + 1) 2 ⟨[(0, .arr (.ints 3 .i64 base17)), (3, .pbox 0 0), (7, .arr (.ints 3 .i64 s18)), (15, .arr (.rows 214 t1519)), (16, .int .i64 t1620), (17, .int .i64 t1721), (27, .arr (.vecs 225 3 t2722)), (28, .int .i64 t2823), (29, .int .i64 t2924)], [(0, .box [.int .i64 o025, .int .i64 o026, .int .i64 o027, .bool o028, .arr (.ints 3 .i64 o029), .arr (.vecs 161 2 o030), .arr (.vecs 225 3 o031), .arr (.ints 3 .i64 o032), .arr (.vecs 161 2 o033), .arr (.rows 214 o034)])]⟩ K = PM.roundF A cx (PM.runD A cx (impl_FamTrue_E A c_144 c_80).inl (impl_FamTrue_E A c_144 c_80).Γ 3) (impl_FamTrue_E A c_144 c_80) (impl_FamTrue_L A c_144 c_80 n) 2 Go.Proofs.Try.f71 ⟨[(0, .arr (.ints 3 .i64 base17)), (3, .pbox 0 0), (7, .arr (.ints 3 .i64 s18)), (15, .arr (.rows 214 t1519)), (16, .int .i64 t1620), (17, .int .i64 t1721), (27, .arr (.vecs 225 3 t2722)), (28, .int .i64 t2823), (29, .int .i64 t2924)], [(0, .box [.int .i64 o025, .int .i64 o026, .int .i64 o027, .bool o028, .arr (.ints 3 .i64 o029), .arr (.vecs 161 2 o030), .arr (.vecs 225 3 o031), .arr (.ints 3 .i64 o032), .arr (.vecs 161 2 o033), .arr (.rows 214 o034)])]⟩ K := by kernel_rfl
theorem impl_FamTrue_ok (A : PM.Prims) (c_144 : impl_isCell_T) (c_80 : impl_FamAt_T) (base : List Int) (f_Rv : Int) (f_Clock : Int) (f_Owner : Int) (f_Lost : Bool) (f_Regs : List Int) (f_Start : List (List Int)) (f_Buf : List (List Int)) (f_Order : List Int) (f_Reads : List (List Int)) (f_Kids : List (List PM.C)) (k : PM.V → PM.R) : PM.pfun A cx [] (impl_FamTrue_E A c_144 c_80) Go.Proofs.Try.f71 [.arr (.ints 3 .i64 base), .agg [.int .i64 f_Rv, .int .i64 f_Clock, .int .i64 f_Owner, .bool f_Lost, .arr (.ints 3 .i64 f_Regs), .arr (.vecs 161 2 f_Start), .arr (.vecs 225 3 f_Buf), .arr (.ints 3 .i64 f_Order), .arr (.vecs 161 2 f_Reads), .arr (.rows 214 f_Kids)]] k = impl_FamTrue_f A c_144 c_80 base f_Rv f_Clock f_Owner f_Lost f_Regs f_Start f_Buf f_Order f_Reads f_Kids (fun r0 => k (.bool r0)) := by kernel_rfl

theorem impl_FamTrue_fn : PM.FnIs Try.prog 71 Try.f71 := .of Try.func71 (by kernel_rfl) (by kernel_rfl)
theorem impl_FamTrue_g : PM.GOk Try.prog cx 71 ⟨[], impl_FamTrue_w (impl_FamTrue PM.std), none⟩ := by
  refine ⟨impl_FamTrue_fn.enter, fun _ ds k r h => ?_, fun hm => absurd rfl hm, fun _ e => (by cases e)⟩
  change impl_FamTrue_w (impl_FamTrue PM.std) ds k = some r at h
  unfold impl_FamTrue_w at h
  split at h
  · exact PM.pfun_ok (E := impl_FamTrue_E PM.std (impl_isCell PM.std) (impl_FamAt PM.std)) (L := fun n => impl_FamTrue_L PM.std (impl_isCell PM.std) (impl_FamAt PM.std) n) (N := PM.std.fuel) cx_ok (.cons impl_isCell_g (.cons (PM.GOk.nil impl_FamAt_fn.enter nil80) .nil)) mixed .nil impl_FamTrue_fn (by kernel_rfl) ⟨rfl, fun cur σ K => by
      dsimp only [impl_FamTrue_L]
      split <;> rfl, fun n cur σ K r h => by
      dsimp only [impl_FamTrue_L] at h
      split at h
      · exact (impl_FamTrue_l0_ok PM.std (impl_isCell PM.std) (impl_FamAt PM.std) n _ _ _ _ _ _ _ _ _ _ _ _ _ _ K).symm.trans h
      · exact (impl_FamTrue_l2_ok PM.std (impl_isCell PM.std) (impl_FamAt PM.std) n _ _ _ _ _ _ _ _ _ _ _ _ _ _ _ _ _ _ K).symm.trans h
      · cases h⟩
      ((impl_FamTrue_ok PM.std (impl_isCell PM.std) (impl_FamAt PM.std) _ _ _ _ _ _ _ _ _ _ _ k).trans h)
  · cases h

abbrev laws_eqIntS_T := (List Int) → (List Int) → ((Bool) → PM.R) → PM.R
noncomputable def laws_eqIntS_w (c : laws_eqIntS_T) (ds : List PM.V) (k : PM.V → PM.R) : PM.R :=
  match ds with
  | [.arr (.ints 3 .i64 a), .arr (.ints 3 .i64 b)] => c a b (fun r0 => k (.bool r0))
  | _ => none
noncomputable def laws_eqIntS_l0 (A : PM.Prims) : Nat → (List Int) → (List Int) → (Int) → ((Bool) → PM.R) → (Unit → PM.R) → PM.R
  | 0, _, _, _, _, _ => none
  | n + 1, a1, b2, i3, kret_0, kx0_0 =>
    bif (A.lt i3 (A.ilen a1)) then
      bif (A.inb i3 (A.ilen a1)) then
        bif (A.inb i3 (A.ilen b2)) then
          bif (A.not (A.eq (A.iget a1 i3) (A.iget b2 i3))) then
            kret_0 false
          else
            laws_eqIntS_l0 A n a1 b2 (A.add .i64 i3 1) kret_0 kx0_0
        else
          none
      else
        none
    else
      kx0_0 ()
noncomputable def laws_eqIntS_f (A : PM.Prims) (a : List Int) (b : List Int) (k : (Bool) → PM.R) : PM.R :=
  bif (A.not (A.eq (A.ilen a) (A.ilen b))) then
    k false
  else
    laws_eqIntS_l0 A A.fuel a b 0 (fun t445 =>
      k t445) (fun _ =>
      k true)
noncomputable def laws_eqIntS (A : PM.Prims) : laws_eqIntS_T := laws_eqIntS_f A
noncomputable def laws_eqIntS_L (A : PM.Prims) (n : Nat) : PM.Lam := fun cur σ K =>
  match cur, σ, K with
  | 0, ⟨[(0, .arr (.ints 3 .i64 a1)), (1, .arr (.ints 3 .i64 b2)), (5, .int .i64 i3)], []⟩, K => laws_eqIntS_l0 A n a1 b2 i3 (fun t44 => K .ret ⟨[(4, .bool t44)], []⟩) (fun _ => K (.exit 0) ⟨[], []⟩)
  | _, _, _ => none
noncomputable def laws_eqIntS_E (A : PM.Prims) : PM.Env := ⟨[], [], [(0, [0, 1, 5], [4])], [(0, [0, 1]), (1, [0, 1, 10]), (2, [4]), (3, [0, 1, 5]), (4, [0, 1, 5, 14]), (5, [0, 1, 5]), (6, [0, 1, 5, 25]), (7, [4]), (8, [4])], laws_eqIntS_L A A.fuel⟩
theorem laws_eqIntS_l0_ok (A : PM.Prims) (n : Nat) (a1 : List Int) (b2 : List Int) (i3 : Int) (K : Go.Exit → PM.S → PM.R) : laws_eqIntS_L A (n + 1) 0 ⟨[(0, .arr (.ints 3 .i64 a1)), (1, .arr (.ints 3 .i64 b2)), (5, .int .i64 i3)], []⟩ K = PM.roundF A cx (PM.runD A cx (laws_eqIntS_E A).inl (laws_eqIntS_E A).Γ 3) (laws_eqIntS_E A) (laws_eqIntS_L A n) 0 Go.Proofs.Try.f40 ⟨[(0, .arr (.ints 3 .i64 a1)), (1, .arr (.ints 3 .i64 b2)), (5, .int .i64 i3)], []⟩ K := by kernel_rfl
theorem laws_eqIntS_ok (A : PM.Prims) (a : List Int) (b : List Int) (k : PM.V → PM.R) : PM.pfun A cx [] (laws_eqIntS_E A) Go.Proofs.Try.f40 [.arr (.ints 3 .i64 a), .arr (.ints 3 .i64 b)] k = laws_eqIntS_f A a b (fun r0 => k (.bool r0)) := by kernel_rfl

theorem laws_eqIntS_fn : PM.FnIs Try.prog 40 Try.f40 := .of Try.func40 (by kernel_rfl) (by kernel_rfl)
theorem laws_eqIntS_g : PM.GOk Try.prog cx 40 ⟨[], laws_eqIntS_w (laws_eqIntS PM.std), none⟩ := by
  refine ⟨laws_eqIntS_fn.enter, fun _ ds k r h => ?_, fun hm => absurd rfl hm, fun _ e => (by cases e)⟩
  change laws_eqIntS_w (laws_eqIntS PM.std) ds k = some r at h
  unfold laws_eqIntS_w at h
  split at h
  · exact PM.pfun_ok (E := laws_eqIntS_E PM.std) (L := fun n => laws_eqIntS_L PM.std n) (N := PM.std.fuel) cx_ok .nil mixed .nil laws_eqIntS_fn (by kernel_rfl) ⟨rfl, fun cur σ K => by
      dsimp only [laws_eqIntS_L]
      split <;> rfl, fun n cur σ K r h => by
      dsimp only [laws_eqIntS_L] at h
      split at h
      · exact (laws_eqIntS_l0_ok PM.std n _ _ _ K).symm.trans h
      · cases h⟩
      ((laws_eqIntS_ok PM.std _ _ k).trans h)
  · cases h

abbrev laws_eqRow_T := (Int) → (Int) → (Int) → (Int) → ((Bool) → PM.R) → PM.R
noncomputable def laws_eqRow_w (c : laws_eqRow_T) (ds : List PM.V) (k : PM.V → PM.R) : PM.R :=
  match ds with
  | [.agg [.int .i64 a_Cell, .int .i64 a_Val], .agg [.int .i64 b_Cell, .int .i64 b_Val]] => c a_Cell a_Val b_Cell b_Val (fun r0 => k (.bool r0))
  | _ => none
noncomputable def laws_eqRow_f (A : PM.Prims) (a_Cell : Int) (a_Val : Int) (b_Cell : Int) (b_Val : Int) (k : (Bool) → PM.R) : PM.R :=
  bif (A.not (A.eq a_Cell b_Cell)) then
    k false
  else
    bif (A.not (A.eq a_Val b_Val)) then
      k false
    else
      k true
noncomputable def laws_eqRow (A : PM.Prims) : laws_eqRow_T := laws_eqRow_f A
noncomputable def laws_eqRow_L (A : PM.Prims) (n : Nat) : PM.Lam := fun cur σ K =>
  match cur, σ, K with
  | _, _, _ => none
noncomputable def laws_eqRow_E (A : PM.Prims) : PM.Env := ⟨[], [], [], [(0, [2, 3]), (1, [2, 3, 9]), (2, [4]), (3, [14]), (4, [4]), (5, [4])], laws_eqRow_L A A.fuel⟩
theorem laws_eqRow_ok (A : PM.Prims) (a_Cell : Int) (a_Val : Int) (b_Cell : Int) (b_Val : Int) (k : PM.V → PM.R) : PM.pfun A cx [] (laws_eqRow_E A) Go.Proofs.Try.f159 [.agg [.int .i64 a_Cell, .int .i64 a_Val], .agg [.int .i64 b_Cell, .int .i64 b_Val]] k = laws_eqRow_f A a_Cell a_Val b_Cell b_Val (fun r0 => k (.bool r0)) := by kernel_rfl

theorem laws_eqRow_fn : PM.FnIs Try.prog 159 Try.f159 := .of Try.func159 (by kernel_rfl) (by kernel_rfl)
theorem laws_eqRow_g : PM.GOk Try.prog cx 159 ⟨[], laws_eqRow_w (laws_eqRow PM.std), none⟩ := by
  refine ⟨laws_eqRow_fn.enter, fun _ ds k r h => ?_, fun hm => absurd rfl hm, fun _ e => (by cases e)⟩
  change laws_eqRow_w (laws_eqRow PM.std) ds k = some r at h
  unfold laws_eqRow_w at h
  split at h
  · exact PM.pfun_ok (E := laws_eqRow_E PM.std) (L := fun n => laws_eqRow_L PM.std n) (N := PM.std.fuel) cx_ok .nil mixed .nil laws_eqRow_fn (by kernel_rfl) ⟨rfl, fun _ _ _ => rfl, fun n cur σ K r h => by cases h⟩
      ((laws_eqRow_ok PM.std _ _ _ _ k).trans h)
  · cases h

abbrev laws_eqRowS_T := (List (List Int)) → (List (List Int)) → ((Bool) → PM.R) → PM.R
noncomputable def laws_eqRowS_w (c : laws_eqRowS_T) (ds : List PM.V) (k : PM.V → PM.R) : PM.R :=
  match ds with
  | [.arr (.vecs 161 2 a), .arr (.vecs 161 2 b)] => c a b (fun r0 => k (.bool r0))
  | _ => none
noncomputable def laws_eqRowS_l0 (A : PM.Prims) (c_159 : laws_eqRow_T) : Nat → (List (List Int)) → (List (List Int)) → (Int) → ((Bool) → PM.R) → (Unit → PM.R) → PM.R
  | 0, _, _, _, _, _ => none
  | n + 1, a1, b2, i3, kret_0, kx0_0 =>
    bif (A.lt i3 (A.vlen a1)) then
      bif (A.inb i3 (A.vlen a1)) then
        bif (A.inb i3 (A.vlen b2)) then
          c_159 (A.vget a1 i3 0) (A.vget a1 i3 1) (A.vget b2 i3 0) (A.vget b2 i3 1) (fun r4 =>
            bif (A.not r4) then
              kret_0 false
            else
              laws_eqRowS_l0 A c_159 n a1 b2 (A.add .i64 i3 1) kret_0 kx0_0)
        else
          none
      else
        none
    else
      kx0_0 ()
noncomputable def laws_eqRowS_f (A : PM.Prims) (c_159 : laws_eqRow_T) (a : List (List Int)) (b : List (List Int)) (k : (Bool) → PM.R) : PM.R :=
  bif (A.not (A.eq (A.vlen a) (A.vlen b))) then
    k false
  else
    laws_eqRowS_l0 A c_159 A.fuel a b 0 (fun t456 =>
      k t456) (fun _ =>
      k true)
noncomputable def laws_eqRowS (A : PM.Prims) : laws_eqRowS_T := laws_eqRowS_f A (laws_eqRow A)
noncomputable def laws_eqRowS_L (A : PM.Prims) (c_159 : laws_eqRow_T) (n : Nat) : PM.Lam := fun cur σ K =>
  match cur, σ, K with
  | 0, ⟨[(0, .arr (.vecs 161 2 a1)), (1, .arr (.vecs 161 2 b2)), (5, .int .i64 i3)], []⟩, K => laws_eqRowS_l0 A c_159 n a1 b2 i3 (fun t45 => K .ret ⟨[(4, .bool t45)], []⟩) (fun _ => K (.exit 0) ⟨[], []⟩)
  | _, _, _ => none
noncomputable def laws_eqRowS_E (A : PM.Prims) (c_159 : laws_eqRow_T) : PM.Env := ⟨[(159, ⟨[], laws_eqRow_w c_159, none⟩)], [], [(0, [0, 1, 5], [4])], [(0, [0, 1]), (1, [0, 1, 10]), (2, [4]), (3, [0, 1, 5]), (4, [0, 1, 5, 14]), (5, [0, 1, 5]), (6, [0, 1, 5, 26]), (7, [4]), (8, [4])], laws_eqRowS_L A c_159 A.fuel⟩
theorem laws_eqRowS_l0_ok (A : PM.Prims) (c_159 : laws_eqRow_T) (n : Nat) (a1 : List (List Int)) (b2 : List (List Int)) (i3 : Int) (K : Go.Exit → PM.S → PM.R) : laws_eqRowS_L A c_159 (n + 1) 0 ⟨[(0, .arr (.vecs 161 2 a1)), (1, .arr (.vecs 161 2 b2)), (5, .int .i64 i3)], []⟩ K = PM.roundF A cx (PM.runD A cx (laws_eqRowS_E A c_159).inl (laws_eqRowS_E A c_159).Γ 3) (laws_eqRowS_E A c_159) (laws_eqRowS_L A c_159 n) 0 Go.Proofs.Try.f66 ⟨[(0, .arr (.vecs 161 2 a1)), (1, .arr (.vecs 161 2 b2)), (5, .int .i64 i3)], []⟩ K := by kernel_rfl
theorem laws_eqRowS_ok (A : PM.Prims) (c_159 : laws_eqRow_T) (a : List (List Int)) (b : List (List Int)) (k : PM.V → PM.R) : PM.pfun A cx [] (laws_eqRowS_E A c_159) Go.Proofs.Try.f66 [.arr (.vecs 161 2 a), .arr (.vecs 161 2 b)] k = laws_eqRowS_f A c_159 a b (fun r0 => k (.bool r0)) := by kernel_rfl

theorem laws_eqRowS_fn : PM.FnIs Try.prog 66 Try.f66 := .of Try.func66 (by kernel_rfl) (by kernel_rfl)
theorem laws_eqRowS_g : PM.GOk Try.prog cx 66 ⟨[], laws_eqRowS_w (laws_eqRowS PM.std), none⟩ := by
  refine ⟨laws_eqRowS_fn.enter, fun _ ds k r h => ?_, fun hm => absurd rfl hm, fun _ e => (by cases e)⟩
  change laws_eqRowS_w (laws_eqRowS PM.std) ds k = some r at h
  unfold laws_eqRowS_w at h
  split at h
  · exact PM.pfun_ok (E := laws_eqRowS_E PM.std (laws_eqRow PM.std)) (L := fun n => laws_eqRowS_L PM.std (laws_eqRow PM.std) n) (N := PM.std.fuel) cx_ok (.cons laws_eqRow_g .nil) mixed .nil laws_eqRowS_fn (by kernel_rfl) ⟨rfl, fun cur σ K => by
      dsimp only [laws_eqRowS_L]
      split <;> rfl, fun n cur σ K r h => by
      dsimp only [laws_eqRowS_L] at h
      split at h
      · exact (laws_eqRowS_l0_ok PM.std (laws_eqRow PM.std) n _ _ _ K).symm.trans h
      · cases h⟩
      ((laws_eqRowS_ok PM.std (laws_eqRow PM.std) _ _ k).trans h)
  · cases h

abbrev laws_eqEntry_T := (Int) → (Int) → (Int) → (Int) → (Int) → (Int) → ((Bool) → PM.R) → PM.R
noncomputable def laws_eqEntry_w (c : laws_eqEntry_T) (ds : List PM.V) (k : PM.V → PM.R) : PM.R :=
  match ds with
  | [.agg [.int .i64 a_Cell, .int .i64 a_Val, .int .i64 a_Ver], .agg [.int .i64 b_Cell, .int .i64 b_Val, .int .i64 b_Ver]] => c a_Cell a_Val a_Ver b_Cell b_Val b_Ver (fun r0 => k (.bool r0))
  | _ => none
noncomputable def laws_eqEntry_f (A : PM.Prims) (a_Cell : Int) (a_Val : Int) (a_Ver : Int) (b_Cell : Int) (b_Val : Int) (b_Ver : Int) (k : (Bool) → PM.R) : PM.R :=
  bif (A.not (A.eq a_Cell b_Cell)) then
    k false
  else
    bif (A.not (A.eq a_Val b_Val)) then
      k false
    else
      bif (A.not (A.eq a_Ver b_Ver)) then
        k false
      else
        k true
noncomputable def laws_eqEntry (A : PM.Prims) : laws_eqEntry_T := laws_eqEntry_f A
noncomputable def laws_eqEntry_L (A : PM.Prims) (n : Nat) : PM.Lam := fun cur σ K =>
  match cur, σ, K with
  | _, _, _ => none
noncomputable def laws_eqEntry_E (A : PM.Prims) : PM.Env := ⟨[], [], [], [(0, [2, 3]), (1, [2, 3, 9]), (2, [4]), (3, [2, 3, 14]), (4, [4]), (5, [19]), (6, [4]), (7, [4])], laws_eqEntry_L A A.fuel⟩
theorem laws_eqEntry_ok (A : PM.Prims) (a_Cell : Int) (a_Val : Int) (a_Ver : Int) (b_Cell : Int) (b_Val : Int) (b_Ver : Int) (k : PM.V → PM.R) : PM.pfun A cx [] (laws_eqEntry_E A) Go.Proofs.Try.f218 [.agg [.int .i64 a_Cell, .int .i64 a_Val, .int .i64 a_Ver], .agg [.int .i64 b_Cell, .int .i64 b_Val, .int .i64 b_Ver]] k = laws_eqEntry_f A a_Cell a_Val a_Ver b_Cell b_Val b_Ver (fun r0 => k (.bool r0)) := by kernel_rfl

theorem laws_eqEntry_fn : PM.FnIs Try.prog 218 Try.f218 := .of Try.func218 (by kernel_rfl) (by kernel_rfl)
theorem laws_eqEntry_g : PM.GOk Try.prog cx 218 ⟨[], laws_eqEntry_w (laws_eqEntry PM.std), none⟩ := by
  refine ⟨laws_eqEntry_fn.enter, fun _ ds k r h => ?_, fun hm => absurd rfl hm, fun _ e => (by cases e)⟩
  change laws_eqEntry_w (laws_eqEntry PM.std) ds k = some r at h
  unfold laws_eqEntry_w at h
  split at h
  · exact PM.pfun_ok (E := laws_eqEntry_E PM.std) (L := fun n => laws_eqEntry_L PM.std n) (N := PM.std.fuel) cx_ok .nil mixed .nil laws_eqEntry_fn (by kernel_rfl) ⟨rfl, fun _ _ _ => rfl, fun n cur σ K r h => by cases h⟩
      ((laws_eqEntry_ok PM.std _ _ _ _ _ _ k).trans h)
  · cases h

abbrev laws_eqEntryS_T := (List (List Int)) → (List (List Int)) → ((Bool) → PM.R) → PM.R
noncomputable def laws_eqEntryS_w (c : laws_eqEntryS_T) (ds : List PM.V) (k : PM.V → PM.R) : PM.R :=
  match ds with
  | [.arr (.vecs 225 3 a), .arr (.vecs 225 3 b)] => c a b (fun r0 => k (.bool r0))
  | _ => none
noncomputable def laws_eqEntryS_l0 (A : PM.Prims) (c_218 : laws_eqEntry_T) : Nat → (List (List Int)) → (List (List Int)) → (Int) → ((Bool) → PM.R) → (Unit → PM.R) → PM.R
  | 0, _, _, _, _, _ => none
  | n + 1, a1, b2, i3, kret_0, kx0_0 =>
    bif (A.lt i3 (A.vlen a1)) then
      bif (A.inb i3 (A.vlen a1)) then
        bif (A.inb i3 (A.vlen b2)) then
          c_218 (A.vget a1 i3 0) (A.vget a1 i3 1) (A.vget a1 i3 2) (A.vget b2 i3 0) (A.vget b2 i3 1) (A.vget b2 i3 2) (fun r4 =>
            bif (A.not r4) then
              kret_0 false
            else
              laws_eqEntryS_l0 A c_218 n a1 b2 (A.add .i64 i3 1) kret_0 kx0_0)
        else
          none
      else
        none
    else
      kx0_0 ()
noncomputable def laws_eqEntryS_f (A : PM.Prims) (c_218 : laws_eqEntry_T) (a : List (List Int)) (b : List (List Int)) (k : (Bool) → PM.R) : PM.R :=
  bif (A.not (A.eq (A.vlen a) (A.vlen b))) then
    k false
  else
    laws_eqEntryS_l0 A c_218 A.fuel a b 0 (fun t456 =>
      k t456) (fun _ =>
      k true)
noncomputable def laws_eqEntryS (A : PM.Prims) : laws_eqEntryS_T := laws_eqEntryS_f A (laws_eqEntry A)
noncomputable def laws_eqEntryS_L (A : PM.Prims) (c_218 : laws_eqEntry_T) (n : Nat) : PM.Lam := fun cur σ K =>
  match cur, σ, K with
  | 0, ⟨[(0, .arr (.vecs 225 3 a1)), (1, .arr (.vecs 225 3 b2)), (5, .int .i64 i3)], []⟩, K => laws_eqEntryS_l0 A c_218 n a1 b2 i3 (fun t45 => K .ret ⟨[(4, .bool t45)], []⟩) (fun _ => K (.exit 0) ⟨[], []⟩)
  | _, _, _ => none
noncomputable def laws_eqEntryS_E (A : PM.Prims) (c_218 : laws_eqEntry_T) : PM.Env := ⟨[(218, ⟨[], laws_eqEntry_w c_218, none⟩)], [], [(0, [0, 1, 5], [4])], [(0, [0, 1]), (1, [0, 1, 10]), (2, [4]), (3, [0, 1, 5]), (4, [0, 1, 5, 14]), (5, [0, 1, 5]), (6, [0, 1, 5, 26]), (7, [4]), (8, [4])], laws_eqEntryS_L A c_218 A.fuel⟩
theorem laws_eqEntryS_l0_ok (A : PM.Prims) (c_218 : laws_eqEntry_T) (n : Nat) (a1 : List (List Int)) (b2 : List (List Int)) (i3 : Int) (K : Go.Exit → PM.S → PM.R) : laws_eqEntryS_L A c_218 (n + 1) 0 ⟨[(0, .arr (.vecs 225 3 a1)), (1, .arr (.vecs 225 3 b2)), (5, .int .i64 i3)], []⟩ K = PM.roundF A cx (PM.runD A cx (laws_eqEntryS_E A c_218).inl (laws_eqEntryS_E A c_218).Γ 3) (laws_eqEntryS_E A c_218) (laws_eqEntryS_L A c_218 n) 0 Go.Proofs.Try.f155 ⟨[(0, .arr (.vecs 225 3 a1)), (1, .arr (.vecs 225 3 b2)), (5, .int .i64 i3)], []⟩ K := by kernel_rfl
theorem laws_eqEntryS_ok (A : PM.Prims) (c_218 : laws_eqEntry_T) (a : List (List Int)) (b : List (List Int)) (k : PM.V → PM.R) : PM.pfun A cx [] (laws_eqEntryS_E A c_218) Go.Proofs.Try.f155 [.arr (.vecs 225 3 a), .arr (.vecs 225 3 b)] k = laws_eqEntryS_f A c_218 a b (fun r0 => k (.bool r0)) := by kernel_rfl

theorem laws_eqEntryS_fn : PM.FnIs Try.prog 155 Try.f155 := .of Try.func155 (by kernel_rfl) (by kernel_rfl)
theorem laws_eqEntryS_g : PM.GOk Try.prog cx 155 ⟨[], laws_eqEntryS_w (laws_eqEntryS PM.std), none⟩ := by
  refine ⟨laws_eqEntryS_fn.enter, fun _ ds k r h => ?_, fun hm => absurd rfl hm, fun _ e => (by cases e)⟩
  change laws_eqEntryS_w (laws_eqEntryS PM.std) ds k = some r at h
  unfold laws_eqEntryS_w at h
  split at h
  · exact PM.pfun_ok (E := laws_eqEntryS_E PM.std (laws_eqEntry PM.std)) (L := fun n => laws_eqEntryS_L PM.std (laws_eqEntry PM.std) n) (N := PM.std.fuel) cx_ok (.cons laws_eqEntry_g .nil) mixed .nil laws_eqEntryS_fn (by kernel_rfl) ⟨rfl, fun cur σ K => by
      dsimp only [laws_eqEntryS_L]
      split <;> rfl, fun n cur σ K r h => by
      dsimp only [laws_eqEntryS_L] at h
      split at h
      · exact (laws_eqEntryS_l0_ok PM.std (laws_eqEntry PM.std) n _ _ _ K).symm.trans h
      · cases h⟩
      ((laws_eqEntryS_ok PM.std (laws_eqEntry PM.std) _ _ k).trans h)
  · cases h

abbrev laws_eqKidMark_T := (Int) → (Int) → (List Int) → (Int) → (Int) → (List Int) → ((Bool) → PM.R) → PM.R
noncomputable def laws_eqKidMark_w (c : laws_eqKidMark_T) (ds : List PM.V) (k : PM.V → PM.R) : PM.R :=
  match ds with
  | [.agg [.int .i64 a_Pc, .int .i64 a_Writes, .arr (.ints 3 .i64 a_Regs)], .agg [.int .i64 b_Pc, .int .i64 b_Writes, .arr (.ints 3 .i64 b_Regs)]] => c a_Pc a_Writes a_Regs b_Pc b_Writes b_Regs (fun r0 => k (.bool r0))
  | _ => none
noncomputable def laws_eqKidMark_f (A : PM.Prims) (c_40 : laws_eqIntS_T) (a_Pc : Int) (a_Writes : Int) (a_Regs : List Int) (b_Pc : Int) (b_Writes : Int) (b_Regs : List Int) (k : (Bool) → PM.R) : PM.R :=
  bif (A.not (A.eq a_Pc b_Pc)) then
    k false
  else
    bif (A.not (A.eq a_Writes b_Writes)) then
      k false
    else
      c_40 a_Regs b_Regs (fun r1 =>
        bif (A.not r1) then
          k false
        else
          k true)
noncomputable def laws_eqKidMark (A : PM.Prims) : laws_eqKidMark_T := laws_eqKidMark_f A (laws_eqIntS A)
noncomputable def laws_eqKidMark_L (A : PM.Prims) (c_40 : laws_eqIntS_T) (n : Nat) : PM.Lam := fun cur σ K =>
  match cur, σ, K with
  | _, _, _ => none
noncomputable def laws_eqKidMark_E (A : PM.Prims) (c_40 : laws_eqIntS_T) : PM.Env := ⟨[(40, ⟨[], laws_eqIntS_w c_40, none⟩)], [], [], [(0, [2, 3]), (1, [2, 3, 9]), (2, [4]), (3, [2, 3, 14]), (4, [4]), (5, [20]), (6, [4]), (7, [4])], laws_eqKidMark_L A c_40 A.fuel⟩
theorem laws_eqKidMark_ok (A : PM.Prims) (c_40 : laws_eqIntS_T) (a_Pc : Int) (a_Writes : Int) (a_Regs : List Int) (b_Pc : Int) (b_Writes : Int) (b_Regs : List Int) (k : PM.V → PM.R) : PM.pfun A cx [] (laws_eqKidMark_E A c_40) Go.Proofs.Try.f314 [.agg [.int .i64 a_Pc, .int .i64 a_Writes, .arr (.ints 3 .i64 a_Regs)], .agg [.int .i64 b_Pc, .int .i64 b_Writes, .arr (.ints 3 .i64 b_Regs)]] k = laws_eqKidMark_f A c_40 a_Pc a_Writes a_Regs b_Pc b_Writes b_Regs (fun r0 => k (.bool r0)) := by kernel_rfl

theorem laws_eqKidMark_fn : PM.FnIs Try.prog 314 Try.f314 := .of Try.func314 (by kernel_rfl) (by kernel_rfl)
theorem laws_eqKidMark_g : PM.GOk Try.prog cx 314 ⟨[], laws_eqKidMark_w (laws_eqKidMark PM.std), none⟩ := by
  refine ⟨laws_eqKidMark_fn.enter, fun _ ds k r h => ?_, fun hm => absurd rfl hm, fun _ e => (by cases e)⟩
  change laws_eqKidMark_w (laws_eqKidMark PM.std) ds k = some r at h
  unfold laws_eqKidMark_w at h
  split at h
  · exact PM.pfun_ok (E := laws_eqKidMark_E PM.std (laws_eqIntS PM.std)) (L := fun n => laws_eqKidMark_L PM.std (laws_eqIntS PM.std) n) (N := PM.std.fuel) cx_ok (.cons laws_eqIntS_g .nil) mixed .nil laws_eqKidMark_fn (by kernel_rfl) ⟨rfl, fun _ _ _ => rfl, fun n cur σ K r h => by cases h⟩
      ((laws_eqKidMark_ok PM.std (laws_eqIntS PM.std) _ _ _ _ _ _ k).trans h)
  · cases h

abbrev laws_eqKidMarkS_T := (List (List PM.C)) → (List (List PM.C)) → ((Bool) → PM.R) → PM.R
noncomputable def laws_eqKidMarkS_w (c : laws_eqKidMarkS_T) (ds : List PM.V) (k : PM.V → PM.R) : PM.R :=
  match ds with
  | [.arr (.rows 368 a), .arr (.rows 368 b)] => c a b (fun r0 => k (.bool r0))
  | _ => none
noncomputable def laws_eqKidMarkS_l0 (A : PM.Prims) (c_314 : laws_eqKidMark_T) : Nat → (List (List C)) → (List (List C)) → (Int) → ((Bool) → PM.R) → (Unit → PM.R) → PM.R
  | 0, _, _, _, _, _ => none
  | n + 1, a1, b2, i3, kret_0, kx0_0 =>
    bif (A.lt i3 (A.rlen a1)) then
      bif (A.inb i3 (A.rlen a1)) then
        bif (A.inb i3 (A.rlen b2)) then
          c_314 (A.rint a1 i3 0) (A.rint a1 i3 1) (A.rsi a1 i3 2) (A.rint b2 i3 0) (A.rint b2 i3 1) (A.rsi b2 i3 2) (fun r4 =>
            bif (A.not r4) then
              kret_0 false
            else
              laws_eqKidMarkS_l0 A c_314 n a1 b2 (A.add .i64 i3 1) kret_0 kx0_0)
        else
          none
      else
        none
    else
      kx0_0 ()
noncomputable def laws_eqKidMarkS_f (A : PM.Prims) (c_314 : laws_eqKidMark_T) (a : List (List PM.C)) (b : List (List PM.C)) (k : (Bool) → PM.R) : PM.R :=
  bif (A.not (A.eq (A.rlen a) (A.rlen b))) then
    k false
  else
    laws_eqKidMarkS_l0 A c_314 A.fuel a b 0 (fun t456 =>
      k t456) (fun _ =>
      k true)
noncomputable def laws_eqKidMarkS (A : PM.Prims) : laws_eqKidMarkS_T := laws_eqKidMarkS_f A (laws_eqKidMark A)
noncomputable def laws_eqKidMarkS_L (A : PM.Prims) (c_314 : laws_eqKidMark_T) (n : Nat) : PM.Lam := fun cur σ K =>
  match cur, σ, K with
  | 0, ⟨[(0, .arr (.rows 368 a1)), (1, .arr (.rows 368 b2)), (5, .int .i64 i3)], []⟩, K => laws_eqKidMarkS_l0 A c_314 n a1 b2 i3 (fun t45 => K .ret ⟨[(4, .bool t45)], []⟩) (fun _ => K (.exit 0) ⟨[], []⟩)
  | _, _, _ => none
noncomputable def laws_eqKidMarkS_E (A : PM.Prims) (c_314 : laws_eqKidMark_T) : PM.Env := ⟨[(314, ⟨[], laws_eqKidMark_w c_314, none⟩)], [], [(0, [0, 1, 5], [4])], [(0, [0, 1]), (1, [0, 1, 10]), (2, [4]), (3, [0, 1, 5]), (4, [0, 1, 5, 14]), (5, [0, 1, 5]), (6, [0, 1, 5, 26]), (7, [4]), (8, [4])], laws_eqKidMarkS_L A c_314 A.fuel⟩
theorem laws_eqKidMarkS_l0_ok (A : PM.Prims) (c_314 : laws_eqKidMark_T) (n : Nat) (a1 : List (List C)) (b2 : List (List C)) (i3 : Int) (K : Go.Exit → PM.S → PM.R) : laws_eqKidMarkS_L A c_314 (n + 1) 0 ⟨[(0, .arr (.rows 368 a1)), (1, .arr (.rows 368 b2)), (5, .int .i64 i3)], []⟩ K = PM.roundF A cx (PM.runD A cx (laws_eqKidMarkS_E A c_314).inl (laws_eqKidMarkS_E A c_314).Γ 3) (laws_eqKidMarkS_E A c_314) (laws_eqKidMarkS_L A c_314 n) 0 Go.Proofs.Try.f278 ⟨[(0, .arr (.rows 368 a1)), (1, .arr (.rows 368 b2)), (5, .int .i64 i3)], []⟩ K := by kernel_rfl
theorem laws_eqKidMarkS_ok (A : PM.Prims) (c_314 : laws_eqKidMark_T) (a : List (List PM.C)) (b : List (List PM.C)) (k : PM.V → PM.R) : PM.pfun A cx [] (laws_eqKidMarkS_E A c_314) Go.Proofs.Try.f278 [.arr (.rows 368 a), .arr (.rows 368 b)] k = laws_eqKidMarkS_f A c_314 a b (fun r0 => k (.bool r0)) := by kernel_rfl

theorem laws_eqKidMarkS_fn : PM.FnIs Try.prog 278 Try.f278 := .of Try.func278 (by kernel_rfl) (by kernel_rfl)
theorem laws_eqKidMarkS_g : PM.GOk Try.prog cx 278 ⟨[], laws_eqKidMarkS_w (laws_eqKidMarkS PM.std), none⟩ := by
  refine ⟨laws_eqKidMarkS_fn.enter, fun _ ds k r h => ?_, fun hm => absurd rfl hm, fun _ e => (by cases e)⟩
  change laws_eqKidMarkS_w (laws_eqKidMarkS PM.std) ds k = some r at h
  unfold laws_eqKidMarkS_w at h
  split at h
  · exact PM.pfun_ok (E := laws_eqKidMarkS_E PM.std (laws_eqKidMark PM.std)) (L := fun n => laws_eqKidMarkS_L PM.std (laws_eqKidMark PM.std) n) (N := PM.std.fuel) cx_ok (.cons laws_eqKidMark_g .nil) mixed .nil laws_eqKidMarkS_fn (by kernel_rfl) ⟨rfl, fun cur σ K => by
      dsimp only [laws_eqKidMarkS_L]
      split <;> rfl, fun n cur σ K r h => by
      dsimp only [laws_eqKidMarkS_L] at h
      split at h
      · exact (laws_eqKidMarkS_l0_ok PM.std (laws_eqKidMark PM.std) n _ _ _ K).symm.trans h
      · cases h⟩
      ((laws_eqKidMarkS_ok PM.std (laws_eqKidMark PM.std) _ _ k).trans h)
  · cases h

abbrev laws_eqProbe_T := (Int) → (Int) → (Int) → (Int) → (Int) → (Int) → (Int) → (Int) → ((Bool) → PM.R) → PM.R
noncomputable def laws_eqProbe_w (c : laws_eqProbe_T) (ds : List PM.V) (k : PM.V → PM.R) : PM.R :=
  match ds with
  | [.agg [.int .i64 a_Cell, .int .i64 a_Phase, .int .i64 a_Ver, .int .i64 a_Val], .agg [.int .i64 b_Cell, .int .i64 b_Phase, .int .i64 b_Ver, .int .i64 b_Val]] => c a_Cell a_Phase a_Ver a_Val b_Cell b_Phase b_Ver b_Val (fun r0 => k (.bool r0))
  | _ => none
noncomputable def laws_eqProbe_f (A : PM.Prims) (a_Cell : Int) (a_Phase : Int) (a_Ver : Int) (a_Val : Int) (b_Cell : Int) (b_Phase : Int) (b_Ver : Int) (b_Val : Int) (k : (Bool) → PM.R) : PM.R :=
  bif (A.not (A.eq a_Cell b_Cell)) then
    k false
  else
    bif (A.not (A.eq a_Phase b_Phase)) then
      k false
    else
      bif (A.not (A.eq a_Ver b_Ver)) then
        k false
      else
        bif (A.not (A.eq a_Val b_Val)) then
          k false
        else
          k true
noncomputable def laws_eqProbe (A : PM.Prims) : laws_eqProbe_T := laws_eqProbe_f A
noncomputable def laws_eqProbe_L (A : PM.Prims) (n : Nat) : PM.Lam := fun cur σ K =>
  match cur, σ, K with
  | _, _, _ => none
noncomputable def laws_eqProbe_E (A : PM.Prims) : PM.Env := ⟨[], [], [], [(0, [2, 3]), (1, [2, 3, 9]), (2, [4]), (3, [2, 3, 14]), (4, [4]), (5, [2, 3, 19]), (6, [4]), (7, [24]), (8, [4]), (9, [4])], laws_eqProbe_L A A.fuel⟩
theorem laws_eqProbe_ok (A : PM.Prims) (a_Cell : Int) (a_Phase : Int) (a_Ver : Int) (a_Val : Int) (b_Cell : Int) (b_Phase : Int) (b_Ver : Int) (b_Val : Int) (k : PM.V → PM.R) : PM.pfun A cx [] (laws_eqProbe_E A) Go.Proofs.Try.f274 [.agg [.int .i64 a_Cell, .int .i64 a_Phase, .int .i64 a_Ver, .int .i64 a_Val], .agg [.int .i64 b_Cell, .int .i64 b_Phase, .int .i64 b_Ver, .int .i64 b_Val]] k = laws_eqProbe_f A a_Cell a_Phase a_Ver a_Val b_Cell b_Phase b_Ver b_Val (fun r0 => k (.bool r0)) := by kernel_rfl

theorem laws_eqProbe_fn : PM.FnIs Try.prog 274 Try.f274 := .of Try.func274 (by kernel_rfl) (by kernel_rfl)
theorem laws_eqProbe_g : PM.GOk Try.prog cx 274 ⟨[], laws_eqProbe_w (laws_eqProbe PM.std), none⟩ := by
  refine ⟨laws_eqProbe_fn.enter, fun _ ds k r h => ?_, fun hm => absurd rfl hm, fun _ e => (by cases e)⟩
  change laws_eqProbe_w (laws_eqProbe PM.std) ds k = some r at h
  unfold laws_eqProbe_w at h
  split at h
  · exact PM.pfun_ok (E := laws_eqProbe_E PM.std) (L := fun n => laws_eqProbe_L PM.std n) (N := PM.std.fuel) cx_ok .nil mixed .nil laws_eqProbe_fn (by kernel_rfl) ⟨rfl, fun _ _ _ => rfl, fun n cur σ K r h => by cases h⟩
      ((laws_eqProbe_ok PM.std _ _ _ _ _ _ _ _ k).trans h)
  · cases h

abbrev laws_eqKidRun_T := (Int) → (Int) → (Int) → (Int) → (Int) → (Int) → (List Int) → (List (List Int)) → (List (List Int)) → (List (List PM.C)) → (Bool) → (Int) → (Int) → (Int) → (Int) → (Int) → (Int) → (Int) → (Int) → (Int) → (Int) → (List Int) → (List (List Int)) → (List (List Int)) → (List (List PM.C)) → (Bool) → (Int) → (Int) → (Int) → (Int) → ((Bool) → PM.R) → PM.R
noncomputable def laws_eqKidRun_w (c : laws_eqKidRun_T) (ds : List PM.V) (k : PM.V → PM.R) : PM.R :=
  match ds with
  | [.agg [.int .i64 ___Phase, .int .i64 ___Pc, .int .i64 ___Since, .int .i64 ___Tries, .int .i64 ___At, .int .i64 ___Out, .arr (.ints 3 .i64 ___Regs), .arr (.vecs 225 3 ___Seen), .arr (.vecs 161 2 ___Writes), .arr (.rows 368 ___Marks), .bool ___Busy, .int .i64 ___Probe_Cell, .int .i64 ___Probe_Phase, .int .i64 ___Probe_Ver, .int .i64 ___Probe_Val], .agg [.int .i64 a_Phase, .int .i64 a_Pc, .int .i64 a_Since, .int .i64 a_Tries, .int .i64 a_At, .int .i64 a_Out, .arr (.ints 3 .i64 a_Regs), .arr (.vecs 225 3 a_Seen), .arr (.vecs 161 2 a_Writes), .arr (.rows 368 a_Marks), .bool a_Busy, .int .i64 a_Probe_Cell, .int .i64 a_Probe_Phase, .int .i64 a_Probe_Ver, .int .i64 a_Probe_Val]] => c ___Phase ___Pc ___Since ___Tries ___At ___Out ___Regs ___Seen ___Writes ___Marks ___Busy ___Probe_Cell ___Probe_Phase ___Probe_Ver ___Probe_Val a_Phase a_Pc a_Since a_Tries a_At a_Out a_Regs a_Seen a_Writes a_Marks a_Busy a_Probe_Cell a_Probe_Phase a_Probe_Ver a_Probe_Val (fun r0 => k (.bool r0))
  | _ => none
noncomputable def laws_eqKidRun_f (A : PM.Prims) (c_40 : laws_eqIntS_T) (c_66 : laws_eqRowS_T) (c_274 : laws_eqProbe_T) (c_155 : laws_eqEntryS_T) (c_278 : laws_eqKidMarkS_T) (___Phase : Int) (___Pc : Int) (___Since : Int) (___Tries : Int) (___At : Int) (___Out : Int) (___Regs : List Int) (___Seen : List (List Int)) (___Writes : List (List Int)) (___Marks : List (List PM.C)) (___Busy : Bool) (___Probe_Cell : Int) (___Probe_Phase : Int) (___Probe_Ver : Int) (___Probe_Val : Int) (a_Phase : Int) (a_Pc : Int) (a_Since : Int) (a_Tries : Int) (a_At : Int) (a_Out : Int) (a_Regs : List Int) (a_Seen : List (List Int)) (a_Writes : List (List Int)) (a_Marks : List (List PM.C)) (a_Busy : Bool) (a_Probe_Cell : Int) (a_Probe_Phase : Int) (a_Probe_Ver : Int) (a_Probe_Val : Int) (k : (Bool) → PM.R) : PM.R :=
  bif (A.not (A.eq ___Phase a_Phase)) then
    k false
  else
    bif (A.not (A.eq ___Pc a_Pc)) then
      k false
    else
      bif (A.not (A.eq ___Since a_Since)) then
        k false
      else
        bif (A.not (A.eq ___Tries a_Tries)) then
          k false
        else
          bif (A.not (A.eq ___At a_At)) then
            k false
          else
            bif (A.not (A.eq ___Out a_Out)) then
              k false
            else
              c_40 ___Regs a_Regs (fun r1 =>
                bif (A.not r1) then
                  k false
                else
                  c_155 ___Seen a_Seen (fun r2 =>
                    bif (A.not r2) then
                      k false
                    else
                      c_66 ___Writes a_Writes (fun r3 =>
                        bif (A.not r3) then
                          k false
                        else
                          c_278 ___Marks a_Marks (fun r4 =>
                            bif (A.not r4) then
                              k false
                            else
                              bif (A.not (A.beq ___Busy a_Busy)) then
                                k false
                              else
                                c_274 ___Probe_Cell ___Probe_Phase ___Probe_Ver ___Probe_Val a_Probe_Cell a_Probe_Phase a_Probe_Ver a_Probe_Val (fun r5 =>
                                  bif (A.not r5) then
                                    k false
                                  else
                                    k true)))))
noncomputable def laws_eqKidRun (A : PM.Prims) : laws_eqKidRun_T := laws_eqKidRun_f A (laws_eqIntS A) (laws_eqRowS A) (laws_eqProbe A) (laws_eqEntryS A) (laws_eqKidMarkS A)
noncomputable def laws_eqKidRun_L (A : PM.Prims) (c_40 : laws_eqIntS_T) (c_66 : laws_eqRowS_T) (c_274 : laws_eqProbe_T) (c_155 : laws_eqEntryS_T) (c_278 : laws_eqKidMarkS_T) (n : Nat) : PM.Lam := fun cur σ K =>
  match cur, σ, K with
  | _, _, _ => none
noncomputable def laws_eqKidRun_E (A : PM.Prims) (c_40 : laws_eqIntS_T) (c_66 : laws_eqRowS_T) (c_274 : laws_eqProbe_T) (c_155 : laws_eqEntryS_T) (c_278 : laws_eqKidMarkS_T) : PM.Env := ⟨[(40, ⟨[], laws_eqIntS_w c_40, none⟩), (66, ⟨[], laws_eqRowS_w c_66, none⟩), (274, ⟨[], laws_eqProbe_w c_274, none⟩), (155, ⟨[], laws_eqEntryS_w c_155, none⟩), (278, ⟨[], laws_eqKidMarkS_w c_278, none⟩)], [], [], [(0, [2, 3]), (1, [2, 3, 9]), (2, [4]), (3, [2, 3, 14]), (4, [4]), (5, [2, 3, 19]), (6, [4]), (7, [2, 3, 24]), (8, [4]), (9, [2, 3, 29]), (10, [4]), (11, [2, 3, 34]), (12, [4]), (13, [2, 3, 40]), (14, [4]), (15, [2, 3, 46]), (16, [4]), (17, [2, 3, 52]), (18, [4]), (19, [2, 3, 58]), (20, [4]), (21, [2, 3, 63]), (22, [4]), (23, [69]), (24, [4]), (25, [4])], laws_eqKidRun_L A c_40 c_66 c_274 c_155 c_278 A.fuel⟩
theorem laws_eqKidRun_ok (A : PM.Prims) (c_40 : laws_eqIntS_T) (c_66 : laws_eqRowS_T) (c_274 : laws_eqProbe_T) (c_155 : laws_eqEntryS_T) (c_278 : laws_eqKidMarkS_T) (___Phase : Int) (___Pc : Int) (___Since : Int) (___Tries : Int) (___At : Int) (___Out : Int) (___Regs : List Int) (___Seen : List (List Int)) (___Writes : List (List Int)) (___Marks : List (List PM.C)) (___Busy : Bool) (___Probe_Cell : Int) (___Probe_Phase : Int) (___Probe_Ver : Int) (___Probe_Val : Int) (a_Phase : Int) (a_Pc : Int) (a_Since : Int) (a_Tries : Int) (a_At : Int) (a_Out : Int) (a_Regs : List Int) (a_Seen : List (List Int)) (a_Writes : List (List Int)) (a_Marks : List (List PM.C)) (a_Busy : Bool) (a_Probe_Cell : Int) (a_Probe_Phase : Int) (a_Probe_Ver : Int) (a_Probe_Val : Int) (k : PM.V → PM.R) : PM.pfun A cx [] (laws_eqKidRun_E A c_40 c_66 c_274 c_155 c_278) Go.Proofs.Try.f219 [.agg [.int .i64 ___Phase, .int .i64 ___Pc, .int .i64 ___Since, .int .i64 ___Tries, .int .i64 ___At, .int .i64 ___Out, .arr (.ints 3 .i64 ___Regs), .arr (.vecs 225 3 ___Seen), .arr (.vecs 161 2 ___Writes), .arr (.rows 368 ___Marks), .bool ___Busy, .int .i64 ___Probe_Cell, .int .i64 ___Probe_Phase, .int .i64 ___Probe_Ver, .int .i64 ___Probe_Val], .agg [.int .i64 a_Phase, .int .i64 a_Pc, .int .i64 a_Since, .int .i64 a_Tries, .int .i64 a_At, .int .i64 a_Out, .arr (.ints 3 .i64 a_Regs), .arr (.vecs 225 3 a_Seen), .arr (.vecs 161 2 a_Writes), .arr (.rows 368 a_Marks), .bool a_Busy, .int .i64 a_Probe_Cell, .int .i64 a_Probe_Phase, .int .i64 a_Probe_Ver, .int .i64 a_Probe_Val]] k = laws_eqKidRun_f A c_40 c_66 c_274 c_155 c_278 ___Phase ___Pc ___Since ___Tries ___At ___Out ___Regs ___Seen ___Writes ___Marks ___Busy ___Probe_Cell ___Probe_Phase ___Probe_Ver ___Probe_Val a_Phase a_Pc a_Since a_Tries a_At a_Out a_Regs a_Seen a_Writes a_Marks a_Busy a_Probe_Cell a_Probe_Phase a_Probe_Ver a_Probe_Val (fun r0 => k (.bool r0)) := by kernel_rfl

theorem laws_eqKidRun_fn : PM.FnIs Try.prog 219 Try.f219 := .of Try.func219 (by kernel_rfl) (by kernel_rfl)
theorem laws_eqKidRun_g : PM.GOk Try.prog cx 219 ⟨[], laws_eqKidRun_w (laws_eqKidRun PM.std), none⟩ := by
  refine ⟨laws_eqKidRun_fn.enter, fun _ ds k r h => ?_, fun hm => absurd rfl hm, fun _ e => (by cases e)⟩
  change laws_eqKidRun_w (laws_eqKidRun PM.std) ds k = some r at h
  unfold laws_eqKidRun_w at h
  split at h
  · exact PM.pfun_ok (E := laws_eqKidRun_E PM.std (laws_eqIntS PM.std) (laws_eqRowS PM.std) (laws_eqProbe PM.std) (laws_eqEntryS PM.std) (laws_eqKidMarkS PM.std)) (L := fun n => laws_eqKidRun_L PM.std (laws_eqIntS PM.std) (laws_eqRowS PM.std) (laws_eqProbe PM.std) (laws_eqEntryS PM.std) (laws_eqKidMarkS PM.std) n) (N := PM.std.fuel) cx_ok (.cons laws_eqIntS_g (.cons laws_eqRowS_g (.cons laws_eqProbe_g (.cons laws_eqEntryS_g (.cons laws_eqKidMarkS_g .nil))))) mixed .nil laws_eqKidRun_fn (by kernel_rfl) ⟨rfl, fun _ _ _ => rfl, fun n cur σ K r h => by cases h⟩
      ((laws_eqKidRun_ok PM.std (laws_eqIntS PM.std) (laws_eqRowS PM.std) (laws_eqProbe PM.std) (laws_eqEntryS PM.std) (laws_eqKidMarkS PM.std) _ _ _ _ _ _ _ _ _ _ _ _ _ _ _ _ _ _ _ _ _ _ _ _ _ _ _ _ _ _ k).trans h)
  · cases h

abbrev laws_eqKidRunS_T := (List (List PM.C)) → (List (List PM.C)) → ((Bool) → PM.R) → PM.R
noncomputable def laws_eqKidRunS_w (c : laws_eqKidRunS_T) (ds : List PM.V) (k : PM.V → PM.R) : PM.R :=
  match ds with
  | [.arr (.rows 214 a), .arr (.rows 214 b)] => c a b (fun r0 => k (.bool r0))
  | _ => none
noncomputable def laws_eqKidRunS_l0 (A : PM.Prims) (c_219 : laws_eqKidRun_T) : Nat → (List (List C)) → (List (List C)) → (Int) → ((Bool) → PM.R) → (Unit → PM.R) → PM.R
  | 0, _, _, _, _, _ => none
  | n + 1, a1, b2, i3, kret_0, kx0_0 =>
    bif (A.lt i3 (A.rlen a1)) then
      bif (A.inb i3 (A.rlen a1)) then
        bif (A.inb i3 (A.rlen b2)) then
          c_219 (A.rint a1 i3 0) (A.rint a1 i3 1) (A.rint a1 i3 2) (A.rint a1 i3 3) (A.rint a1 i3 4) (A.rint a1 i3 5) (A.rsi a1 i3 6) (A.rsv 3 a1 i3 7) (A.rsv 2 a1 i3 8) (A.rsr a1 i3 9) (A.rbool a1 i3 10) (A.rint a1 i3 11) (A.rint a1 i3 12) (A.rint a1 i3 13) (A.rint a1 i3 14) (A.rint b2 i3 0) (A.rint b2 i3 1) (A.rint b2 i3 2) (A.rint b2 i3 3) (A.rint b2 i3 4) (A.rint b2 i3 5) (A.rsi b2 i3 6) (A.rsv 3 b2 i3 7) (A.rsv 2 b2 i3 8) (A.rsr b2 i3 9) (A.rbool b2 i3 10) (A.rint b2 i3 11) (A.rint b2 i3 12) (A.rint b2 i3 13) (A.rint b2 i3 14) (fun r4 =>
            bif (A.not r4) then
              kret_0 false
            else
              laws_eqKidRunS_l0 A c_219 n a1 b2 (A.add .i64 i3 1) kret_0 kx0_0)
        else
          none
      else
        none
    else
      kx0_0 ()
noncomputable def laws_eqKidRunS_f (A : PM.Prims) (c_219 : laws_eqKidRun_T) (a : List (List PM.C)) (b : List (List PM.C)) (k : (Bool) → PM.R) : PM.R :=
  bif (A.not (A.eq (A.rlen a) (A.rlen b))) then
    k false
  else
    laws_eqKidRunS_l0 A c_219 A.fuel a b 0 (fun t456 =>
      k t456) (fun _ =>
      k true)
noncomputable def laws_eqKidRunS (A : PM.Prims) : laws_eqKidRunS_T := laws_eqKidRunS_f A (laws_eqKidRun A)
noncomputable def laws_eqKidRunS_L (A : PM.Prims) (c_219 : laws_eqKidRun_T) (n : Nat) : PM.Lam := fun cur σ K =>
  match cur, σ, K with
  | 0, ⟨[(0, .arr (.rows 214 a1)), (1, .arr (.rows 214 b2)), (5, .int .i64 i3)], []⟩, K => laws_eqKidRunS_l0 A c_219 n a1 b2 i3 (fun t45 => K .ret ⟨[(4, .bool t45)], []⟩) (fun _ => K (.exit 0) ⟨[], []⟩)
  | _, _, _ => none
noncomputable def laws_eqKidRunS_E (A : PM.Prims) (c_219 : laws_eqKidRun_T) : PM.Env := ⟨[(219, ⟨[], laws_eqKidRun_w c_219, none⟩)], [], [(0, [0, 1, 5], [4])], [(0, [0, 1]), (1, [0, 1, 10]), (2, [4]), (3, [0, 1, 5]), (4, [0, 1, 5, 14]), (5, [0, 1, 5]), (6, [0, 1, 5, 26]), (7, [4]), (8, [4])], laws_eqKidRunS_L A c_219 A.fuel⟩
theorem laws_eqKidRunS_l0_ok (A : PM.Prims) (c_219 : laws_eqKidRun_T) (n : Nat) (a1 : List (List C)) (b2 : List (List C)) (i3 : Int) (K : Go.Exit → PM.S → PM.R) : laws_eqKidRunS_L A c_219 (n + 1) 0 ⟨[(0, .arr (.rows 214 a1)), (1, .arr (.rows 214 b2)), (5, .int .i64 i3)], []⟩ K = PM.roundF A cx (PM.runD A cx (laws_eqKidRunS_E A c_219).inl (laws_eqKidRunS_E A c_219).Γ 3) (laws_eqKidRunS_E A c_219) (laws_eqKidRunS_L A c_219 n) 0 Go.Proofs.Try.f156 ⟨[(0, .arr (.rows 214 a1)), (1, .arr (.rows 214 b2)), (5, .int .i64 i3)], []⟩ K := by kernel_rfl
theorem laws_eqKidRunS_ok (A : PM.Prims) (c_219 : laws_eqKidRun_T) (a : List (List PM.C)) (b : List (List PM.C)) (k : PM.V → PM.R) : PM.pfun A cx [] (laws_eqKidRunS_E A c_219) Go.Proofs.Try.f156 [.arr (.rows 214 a), .arr (.rows 214 b)] k = laws_eqKidRunS_f A c_219 a b (fun r0 => k (.bool r0)) := by kernel_rfl

theorem laws_eqKidRunS_fn : PM.FnIs Try.prog 156 Try.f156 := .of Try.func156 (by kernel_rfl) (by kernel_rfl)
theorem laws_eqKidRunS_g : PM.GOk Try.prog cx 156 ⟨[], laws_eqKidRunS_w (laws_eqKidRunS PM.std), none⟩ := by
  refine ⟨laws_eqKidRunS_fn.enter, fun _ ds k r h => ?_, fun hm => absurd rfl hm, fun _ e => (by cases e)⟩
  change laws_eqKidRunS_w (laws_eqKidRunS PM.std) ds k = some r at h
  unfold laws_eqKidRunS_w at h
  split at h
  · exact PM.pfun_ok (E := laws_eqKidRunS_E PM.std (laws_eqKidRun PM.std)) (L := fun n => laws_eqKidRunS_L PM.std (laws_eqKidRun PM.std) n) (N := PM.std.fuel) cx_ok (.cons laws_eqKidRun_g .nil) mixed .nil laws_eqKidRunS_fn (by kernel_rfl) ⟨rfl, fun cur σ K => by
      dsimp only [laws_eqKidRunS_L]
      split <;> rfl, fun n cur σ K r h => by
      dsimp only [laws_eqKidRunS_L] at h
      split at h
      · exact (laws_eqKidRunS_l0_ok PM.std (laws_eqKidRun PM.std) n _ _ _ K).symm.trans h
      · cases h⟩
      ((laws_eqKidRunS_ok PM.std (laws_eqKidRun PM.std) _ _ k).trans h)
  · cases h

abbrev laws_eqFamily_T := (Int) → (Int) → (Int) → (Bool) → (List Int) → (List (List Int)) → (List (List Int)) → (List Int) → (List (List Int)) → (List (List PM.C)) → (Int) → (Int) → (Int) → (Bool) → (List Int) → (List (List Int)) → (List (List Int)) → (List Int) → (List (List Int)) → (List (List PM.C)) → ((Bool) → PM.R) → PM.R
noncomputable def laws_eqFamily_w (c : laws_eqFamily_T) (ds : List PM.V) (k : PM.V → PM.R) : PM.R :=
  match ds with
  | [.agg [.int .i64 a_Rv, .int .i64 a_Clock, .int .i64 a_Owner, .bool a_Lost, .arr (.ints 3 .i64 a_Regs), .arr (.vecs 161 2 a_Start), .arr (.vecs 225 3 a_Buf), .arr (.ints 3 .i64 a_Order), .arr (.vecs 161 2 a_Reads), .arr (.rows 214 a_Kids)], .agg [.int .i64 b_Rv, .int .i64 b_Clock, .int .i64 b_Owner, .bool b_Lost, .arr (.ints 3 .i64 b_Regs), .arr (.vecs 161 2 b_Start), .arr (.vecs 225 3 b_Buf), .arr (.ints 3 .i64 b_Order), .arr (.vecs 161 2 b_Reads), .arr (.rows 214 b_Kids)]] => c a_Rv a_Clock a_Owner a_Lost a_Regs a_Start a_Buf a_Order a_Reads a_Kids b_Rv b_Clock b_Owner b_Lost b_Regs b_Start b_Buf b_Order b_Reads b_Kids (fun r0 => k (.bool r0))
  | _ => none
noncomputable def laws_eqFamily_f (A : PM.Prims) (c_40 : laws_eqIntS_T) (c_66 : laws_eqRowS_T) (c_155 : laws_eqEntryS_T) (c_156 : laws_eqKidRunS_T) (a_Rv : Int) (a_Clock : Int) (a_Owner : Int) (a_Lost : Bool) (a_Regs : List Int) (a_Start : List (List Int)) (a_Buf : List (List Int)) (a_Order : List Int) (a_Reads : List (List Int)) (a_Kids : List (List PM.C)) (b_Rv : Int) (b_Clock : Int) (b_Owner : Int) (b_Lost : Bool) (b_Regs : List Int) (b_Start : List (List Int)) (b_Buf : List (List Int)) (b_Order : List Int) (b_Reads : List (List Int)) (b_Kids : List (List PM.C)) (k : (Bool) → PM.R) : PM.R :=
  bif (A.not (A.eq a_Rv b_Rv)) then
    k false
  else
    bif (A.not (A.eq a_Clock b_Clock)) then
      k false
    else
      bif (A.not (A.eq a_Owner b_Owner)) then
        k false
      else
        bif (A.not (A.beq a_Lost b_Lost)) then
          k false
        else
          c_40 a_Regs b_Regs (fun r1 =>
            bif (A.not r1) then
              k false
            else
              c_66 a_Start b_Start (fun r2 =>
                bif (A.not r2) then
                  k false
                else
                  c_155 a_Buf b_Buf (fun r3 =>
                    bif (A.not r3) then
                      k false
                    else
                      c_40 a_Order b_Order (fun r4 =>
                        bif (A.not r4) then
                          k false
                        else
                          c_66 a_Reads b_Reads (fun r5 =>
                            bif (A.not r5) then
                              k false
                            else
                              c_156 a_Kids b_Kids (fun r6 =>
                                bif (A.not r6) then
                                  k false
                                else
                                  k true))))))
noncomputable def laws_eqFamily (A : PM.Prims) : laws_eqFamily_T := laws_eqFamily_f A (laws_eqIntS A) (laws_eqRowS A) (laws_eqEntryS A) (laws_eqKidRunS A)
noncomputable def laws_eqFamily_L (A : PM.Prims) (c_40 : laws_eqIntS_T) (c_66 : laws_eqRowS_T) (c_155 : laws_eqEntryS_T) (c_156 : laws_eqKidRunS_T) (n : Nat) : PM.Lam := fun cur σ K =>
  match cur, σ, K with
  | _, _, _ => none
noncomputable def laws_eqFamily_E (A : PM.Prims) (c_40 : laws_eqIntS_T) (c_66 : laws_eqRowS_T) (c_155 : laws_eqEntryS_T) (c_156 : laws_eqKidRunS_T) : PM.Env := ⟨[(40, ⟨[], laws_eqIntS_w c_40, none⟩), (66, ⟨[], laws_eqRowS_w c_66, none⟩), (155, ⟨[], laws_eqEntryS_w c_155, none⟩), (156, ⟨[], laws_eqKidRunS_w c_156, none⟩)], [], [], [(0, [2, 3]), (1, [2, 3, 9]), (2, [4]), (3, [2, 3, 14]), (4, [4]), (5, [2, 3, 19]), (6, [4]), (7, [2, 3, 24]), (8, [4]), (9, [2, 3, 30]), (10, [4]), (11, [2, 3, 36]), (12, [4]), (13, [2, 3, 42]), (14, [4]), (15, [2, 3, 48]), (16, [4]), (17, [2, 3, 54]), (18, [4]), (19, [60]), (20, [4]), (21, [4])], laws_eqFamily_L A c_40 c_66 c_155 c_156 A.fuel⟩
theorem laws_eqFamily_ok (A : PM.Prims) (c_40 : laws_eqIntS_T) (c_66 : laws_eqRowS_T) (c_155 : laws_eqEntryS_T) (c_156 : laws_eqKidRunS_T) (a_Rv : Int) (a_Clock : Int) (a_Owner : Int) (a_Lost : Bool) (a_Regs : List Int) (a_Start : List (List Int)) (a_Buf : List (List Int)) (a_Order : List Int) (a_Reads : List (List Int)) (a_Kids : List (List PM.C)) (b_Rv : Int) (b_Clock : Int) (b_Owner : Int) (b_Lost : Bool) (b_Regs : List Int) (b_Start : List (List Int)) (b_Buf : List (List Int)) (b_Order : List Int) (b_Reads : List (List Int)) (b_Kids : List (List PM.C)) (k : PM.V → PM.R) : PM.pfun A cx [] (laws_eqFamily_E A c_40 c_66 c_155 c_156) Go.Proofs.Try.f61 [.agg [.int .i64 a_Rv, .int .i64 a_Clock, .int .i64 a_Owner, .bool a_Lost, .arr (.ints 3 .i64 a_Regs), .arr (.vecs 161 2 a_Start), .arr (.vecs 225 3 a_Buf), .arr (.ints 3 .i64 a_Order), .arr (.vecs 161 2 a_Reads), .arr (.rows 214 a_Kids)], .agg [.int .i64 b_Rv, .int .i64 b_Clock, .int .i64 b_Owner, .bool b_Lost, .arr (.ints 3 .i64 b_Regs), .arr (.vecs 161 2 b_Start), .arr (.vecs 225 3 b_Buf), .arr (.ints 3 .i64 b_Order), .arr (.vecs 161 2 b_Reads), .arr (.rows 214 b_Kids)]] k = laws_eqFamily_f A c_40 c_66 c_155 c_156 a_Rv a_Clock a_Owner a_Lost a_Regs a_Start a_Buf a_Order a_Reads a_Kids b_Rv b_Clock b_Owner b_Lost b_Regs b_Start b_Buf b_Order b_Reads b_Kids (fun r0 => k (.bool r0)) := by kernel_rfl

theorem laws_eqFamily_fn : PM.FnIs Try.prog 61 Try.f61 := .of Try.func61 (by kernel_rfl) (by kernel_rfl)
theorem laws_eqFamily_g : PM.GOk Try.prog cx 61 ⟨[], laws_eqFamily_w (laws_eqFamily PM.std), none⟩ := by
  refine ⟨laws_eqFamily_fn.enter, fun _ ds k r h => ?_, fun hm => absurd rfl hm, fun _ e => (by cases e)⟩
  change laws_eqFamily_w (laws_eqFamily PM.std) ds k = some r at h
  unfold laws_eqFamily_w at h
  split at h
  · exact PM.pfun_ok (E := laws_eqFamily_E PM.std (laws_eqIntS PM.std) (laws_eqRowS PM.std) (laws_eqEntryS PM.std) (laws_eqKidRunS PM.std)) (L := fun n => laws_eqFamily_L PM.std (laws_eqIntS PM.std) (laws_eqRowS PM.std) (laws_eqEntryS PM.std) (laws_eqKidRunS PM.std) n) (N := PM.std.fuel) cx_ok (.cons laws_eqIntS_g (.cons laws_eqRowS_g (.cons laws_eqEntryS_g (.cons laws_eqKidRunS_g .nil)))) mixed .nil laws_eqFamily_fn (by kernel_rfl) ⟨rfl, fun _ _ _ => rfl, fun n cur σ K r h => by cases h⟩
      ((laws_eqFamily_ok PM.std (laws_eqIntS PM.std) (laws_eqRowS PM.std) (laws_eqEntryS PM.std) (laws_eqKidRunS PM.std) _ _ _ _ _ _ _ _ _ _ _ _ _ _ _ _ _ _ _ _ k).trans h)
  · cases h

abbrev laws_FnExactFamTrue_T := (List Int) → (Int) → (Int) → (Int) → (Bool) → (List Int) → (List (List Int)) → (List (List Int)) → (List Int) → (List (List Int)) → (List (List PM.C)) → ((Bool) → PM.R) → PM.R
noncomputable def laws_FnExactFamTrue_w (c : laws_FnExactFamTrue_T) (ds : List PM.V) (k : PM.V → PM.R) : PM.R :=
  match ds with
  | [.arr (.ints 3 .i64 aBase), .agg [.int .i64 aF_Rv, .int .i64 aF_Clock, .int .i64 aF_Owner, .bool aF_Lost, .arr (.ints 3 .i64 aF_Regs), .arr (.vecs 297 2 aF_Start), .arr (.vecs 299 3 aF_Buf), .arr (.ints 3 .i64 aF_Order), .arr (.vecs 297 2 aF_Reads), .arr (.rows 295 aF_Kids)]] => c aBase aF_Rv aF_Clock aF_Owner aF_Lost aF_Regs aF_Start aF_Buf aF_Order aF_Reads aF_Kids (fun r0 => k (.bool r0))
  | _ => none
noncomputable def laws_FnExactFamTrue_f (A : PM.Prims) (c_57 : laws_szFamily_T) (c_37 : laws_toIntS_T) (c_59 : laws_toFamily_T) (c_70 : spec_FamTrue_T) (c_71 : impl_FamTrue_T) (c_40 : laws_eqIntS_T) (c_61 : laws_eqFamily_T) (aBase : List Int) (aF_Rv : Int) (aF_Clock : Int) (aF_Owner : Int) (aF_Lost : Bool) (aF_Regs : List Int) (aF_Start : List (List Int)) (aF_Buf : List (List Int)) (aF_Order : List Int) (aF_Reads : List (List Int)) (aF_Kids : List (List PM.C)) (k : (Bool) → PM.R) : PM.R :=
  bif (A.lt 1048576 (A.ilen aBase)) then
    k true
  else
    c_57 aF_Rv aF_Clock aF_Owner aF_Lost aF_Regs aF_Start aF_Buf aF_Order aF_Reads aF_Kids 1048576 (fun r1 =>
      bif (A.lt r1 0) then
        k true
      else
        c_37 aBase (fun r2 =>
          c_59 aF_Rv aF_Clock aF_Owner aF_Lost aF_Regs aF_Start aF_Buf aF_Order aF_Reads aF_Kids (fun r3 r4 r5 r6 r7 r8 r9 r10 r11 r12 =>
            c_70 r2 r3 r4 r5 r6 r7 r8 r9 r10 r11 r12 (fun r13 =>
              c_37 aBase (fun r14 =>
                c_59 aF_Rv aF_Clock aF_Owner aF_Lost aF_Regs aF_Start aF_Buf aF_Order aF_Reads aF_Kids (fun r15 r16 r17 r18 r19 r20 r21 r22 r23 r24 =>
                  c_71 r14 r15 r16 r17 r18 r19 r20 r21 r22 r23 r24 (fun r25 =>
                    bif (A.not (A.beq r25 r13)) then
                      k false
                    else
                      c_37 aBase (fun r26 =>
                        c_40 r14 r26 (fun r27 =>
                          bif (A.not r27) then
                            k false
                          else
                            c_59 aF_Rv aF_Clock aF_Owner aF_Lost aF_Regs aF_Start aF_Buf aF_Order aF_Reads aF_Kids (fun r28 r29 r30 r31 r32 r33 r34 r35 r36 r37 =>
                              c_61 r15 r16 r17 r18 r19 r20 r21 r22 r23 r24 r28 r29 r30 r31 r32 r33 r34 r35 r36 r37 (fun r38 =>
                                bif (A.not r38) then
                                  k false
                                else
                                  k true)))))))))))
noncomputable def laws_FnExactFamTrue (A : PM.Prims) : laws_FnExactFamTrue_T := laws_FnExactFamTrue_f A (laws_szFamily A) (laws_toIntS A) (laws_toFamily A) (spec_FamTrue A) (impl_FamTrue A) (laws_eqIntS A) (laws_eqFamily A)
noncomputable def laws_FnExactFamTrue_L (A : PM.Prims) (c_57 : laws_szFamily_T) (c_37 : laws_toIntS_T) (c_59 : laws_toFamily_T) (c_70 : spec_FamTrue_T) (c_71 : impl_FamTrue_T) (c_40 : laws_eqIntS_T) (c_61 : laws_eqFamily_T) (n : Nat) : PM.Lam := fun cur σ K =>
  match cur, σ, K with
  | _, _, _ => none
noncomputable def laws_FnExactFamTrue_E (A : PM.Prims) (c_57 : laws_szFamily_T) (c_37 : laws_toIntS_T) (c_59 : laws_toFamily_T) (c_70 : spec_FamTrue_T) (c_71 : impl_FamTrue_T) (c_40 : laws_eqIntS_T) (c_61 : laws_eqFamily_T) : PM.Env := ⟨[(57, ⟨[], laws_szFamily_w c_57, none⟩), (37, ⟨[], laws_toIntS_w c_37, none⟩), (59, ⟨[], laws_toFamily_w c_59, none⟩), (70, ⟨[], spec_FamTrue_w c_70, none⟩), (71, ⟨[], impl_FamTrue_w c_71, none⟩), (40, ⟨[], laws_eqIntS_w c_40, none⟩), (61, ⟨[], laws_eqFamily_w c_61, none⟩)], [], [], [(0, [0, 3]), (1, [0, 3, 12]), (2, [4]), (3, [0, 3, 5]), (4, [0, 3, 5]), (5, [0, 3, 17]), (6, [4]), (7, [0, 3, 6]), (8, [0, 3, 6, 7]), (9, [0, 3, 6, 7, 8]), (10, [0, 3, 6, 7, 8, 9]), (11, [0, 3, 7, 8, 32]), (12, [4]), (13, [3, 8, 37]), (14, [4]), (15, [42]), (16, [4]), (17, [4])], laws_FnExactFamTrue_L A c_57 c_37 c_59 c_70 c_71 c_40 c_61 A.fuel⟩
theorem laws_FnExactFamTrue_ok (A : PM.Prims) (c_57 : laws_szFamily_T) (c_37 : laws_toIntS_T) (c_59 : laws_toFamily_T) (c_70 : spec_FamTrue_T) (c_71 : impl_FamTrue_T) (c_40 : laws_eqIntS_T) (c_61 : laws_eqFamily_T) (aBase : List Int) (aF_Rv : Int) (aF_Clock : Int) (aF_Owner : Int) (aF_Lost : Bool) (aF_Regs : List Int) (aF_Start : List (List Int)) (aF_Buf : List (List Int)) (aF_Order : List Int) (aF_Reads : List (List Int)) (aF_Kids : List (List PM.C)) (k : PM.V → PM.R) : PM.pfun A cx [] (laws_FnExactFamTrue_E A c_57 c_37 c_59 c_70 c_71 c_40 c_61) Go.Proofs.Try.f13 [.arr (.ints 3 .i64 aBase), .agg [.int .i64 aF_Rv, .int .i64 aF_Clock, .int .i64 aF_Owner, .bool aF_Lost, .arr (.ints 3 .i64 aF_Regs), .arr (.vecs 297 2 aF_Start), .arr (.vecs 299 3 aF_Buf), .arr (.ints 3 .i64 aF_Order), .arr (.vecs 297 2 aF_Reads), .arr (.rows 295 aF_Kids)]] k = laws_FnExactFamTrue_f A c_57 c_37 c_59 c_70 c_71 c_40 c_61 aBase aF_Rv aF_Clock aF_Owner aF_Lost aF_Regs aF_Start aF_Buf aF_Order aF_Reads aF_Kids (fun r0 => k (.bool r0)) := by kernel_rfl

theorem laws_FnExactFamTrue_fn : PM.FnIs Try.prog 13 Try.f13 := .of Try.func13 (by kernel_rfl) (by kernel_rfl)
theorem laws_FnExactFamTrue_g : PM.GOk Try.prog cx 13 ⟨[], laws_FnExactFamTrue_w (laws_FnExactFamTrue PM.std), none⟩ := by
  refine ⟨laws_FnExactFamTrue_fn.enter, fun _ ds k r h => ?_, fun hm => absurd rfl hm, fun _ e => (by cases e)⟩
  change laws_FnExactFamTrue_w (laws_FnExactFamTrue PM.std) ds k = some r at h
  unfold laws_FnExactFamTrue_w at h
  split at h
  · exact PM.pfun_ok (E := laws_FnExactFamTrue_E PM.std (laws_szFamily PM.std) (laws_toIntS PM.std) (laws_toFamily PM.std) (spec_FamTrue PM.std) (impl_FamTrue PM.std) (laws_eqIntS PM.std) (laws_eqFamily PM.std)) (L := fun n => laws_FnExactFamTrue_L PM.std (laws_szFamily PM.std) (laws_toIntS PM.std) (laws_toFamily PM.std) (spec_FamTrue PM.std) (impl_FamTrue PM.std) (laws_eqIntS PM.std) (laws_eqFamily PM.std) n) (N := PM.std.fuel) cx_ok (.cons laws_szFamily_g (.cons laws_toIntS_g (.cons laws_toFamily_g (.cons spec_FamTrue_g (.cons impl_FamTrue_g (.cons laws_eqIntS_g (.cons laws_eqFamily_g .nil))))))) mixed .nil laws_FnExactFamTrue_fn (by kernel_rfl) ⟨rfl, fun _ _ _ => rfl, fun n cur σ K r h => by cases h⟩
      ((laws_FnExactFamTrue_ok PM.std (laws_szFamily PM.std) (laws_toIntS PM.std) (laws_toFamily PM.std) (spec_FamTrue PM.std) (impl_FamTrue PM.std) (laws_eqIntS PM.std) (laws_eqFamily PM.std) _ _ _ _ _ _ _ _ _ _ _ k).trans h)
  · cases h

end X
