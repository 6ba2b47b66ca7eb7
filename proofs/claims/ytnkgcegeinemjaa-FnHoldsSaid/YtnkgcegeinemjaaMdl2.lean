/- Models of the functions, or plain laws about them; each theorem states its own conditions. -/
import Derived.Test.YtnkgcegeinemjaaMdlA
import Derived.Test.YtnkgcegeinemjaaL3
import Derived.Test.YtnkgcegeinemjaaW3
import Derived.Test.YtnkgcegeinemjaaProg
import Derived.KernelRfl
set_option linter.unusedVariables false
set_option linter.unusedSimpArgs false
open Go.Proofs
namespace X
open PM
set_option maxRecDepth 100000
set_option maxHeartbeats 4000000
abbrev spec_Blocks_T := (List (List Int)) → (Int) → (Int) → (Int) → ((List Int) → PM.R) → PM.R
noncomputable def spec_Blocks_w (c : spec_Blocks_T) (ds : List PM.V) (k : PM.V → PM.R) : PM.R :=
  match ds with
  | [.arr (.vecs 73 3 l), .int .i64 who, .int .i64 what, .int .i64 mode] => c l who what mode (fun r0 => k (.arr (.ints 3 .i64 r0)))
  | _ => none
noncomputable def spec_Blocks_l0 (A : PM.Prims) (c_94 : spec_l1In_T) (c_37 : spec_HoldsOk_T) : Nat → (List (List Int)) → (Int) → (Int) → (Int) → (Int) → (List Int) → ((List Int) → PM.R) → PM.R
  | 0, _, _, _, _, _, _, _ => none
  | n + 1, l3, who4, what5, mode6, i7, o08, kx0_0 =>
    bif (A.lt i7 (A.vlen l3)) then
      bif (A.inb i7 (A.vlen l3)) then
        bif (A.eq (A.vget l3 i7 1) what5) then
          bif (A.inb i7 (A.vlen l3)) then
            bif (A.not (A.eq (A.vget l3 i7 0) who4)) then
              bif (A.eq mode6 2) then
                bif (A.inb i7 (A.vlen l3)) then
                  bif (A.room (A.ilen o08) (A.ilen [(A.vget l3 i7 0)])) then
                    spec_Blocks_l0 A c_94 c_37 n l3 who4 what5 mode6 (A.add .i64 i7 1) (A.iapp o08 [(A.vget l3 i7 0)]) kx0_0
                  else
                    none
                else
                  none
              else
                bif (A.inb i7 (A.vlen l3)) then
                  bif (A.eq (A.vget l3 i7 2) 2) then
                    bif (A.inb i7 (A.vlen l3)) then
                      bif (A.room (A.ilen o08) (A.ilen [(A.vget l3 i7 0)])) then
                        spec_Blocks_l0 A c_94 c_37 n l3 who4 what5 mode6 (A.add .i64 i7 1) (A.iapp o08 [(A.vget l3 i7 0)]) kx0_0
                      else
                        none
                    else
                      none
                  else
                    spec_Blocks_l0 A c_94 c_37 n l3 who4 what5 mode6 (A.add .i64 i7 1) o08 kx0_0
                else
                  none
            else
              spec_Blocks_l0 A c_94 c_37 n l3 who4 what5 mode6 (A.add .i64 i7 1) o08 kx0_0
          else
            none
        else
          spec_Blocks_l0 A c_94 c_37 n l3 who4 what5 mode6 (A.add .i64 i7 1) o08 kx0_0
      else
        none
    else
      kx0_0 o08
noncomputable def spec_Blocks_f (A : PM.Prims) (c_94 : spec_l1In_T) (c_37 : spec_HoldsOk_T) (l : List (List Int)) (who : Int) (what : Int) (mode : Int) (k : (List Int) → PM.R) : PM.R :=
  c_37 l (fun r1 =>
    bif (A.not r1) then
      k []
    else
      c_94 mode 1 2 (fun r2 =>
        bif (A.not r2) then
          k []
        else
          spec_Blocks_l0 A c_94 c_37 A.fuel l who what mode 0 [] (fun o0910 =>
            k o0910)))
noncomputable def spec_Blocks (A : PM.Prims) : spec_Blocks_T := spec_Blocks_f A (spec_l1In A) (spec_HoldsOk A)
noncomputable def spec_Blocks_L (A : PM.Prims) (c_94 : spec_l1In_T) (c_37 : spec_HoldsOk_T) (n : Nat) : PM.Lam := fun cur σ K =>
  match cur, σ, K with
  | 0, ⟨[(0, .arr (.vecs 73 3 l3)), (1, .int .i64 who4), (2, .int .i64 what5), (3, .int .i64 mode6), (9, .sref 0), (10, .int .i64 i7)], [(0, .arr true (.ints 3 .i64 o08))]⟩, K => spec_Blocks_l0 A c_94 c_37 n l3 who4 what5 mode6 i7 o08 (fun o09 => K (.exit 0) ⟨[(9, .sref 0)], [(0, .arr true (.ints 3 .i64 o09))]⟩)
  | _, _, _ => none
noncomputable def spec_Blocks_E (A : PM.Prims) (c_94 : spec_l1In_T) (c_37 : spec_HoldsOk_T) : PM.Env := ⟨[(94, ⟨[], spec_l1In_w c_94, none⟩), (37, ⟨[], spec_HoldsOk_w c_37, none⟩)], [], [(0, [0, 1, 2, 3, 9, 10], [8, 9])], [(0, [0, 1, 2, 3]), (1, [0, 1, 2, 3, 9]), (2, [0, 1, 2, 3, 9, 19]), (3, [8]), (4, [0, 1, 2, 3, 9, 10]), (5, [0, 1, 2, 3, 9, 10, 24]), (6, [0, 1, 2, 3, 9, 10]), (7, [0, 1, 2, 3, 9, 10, 54]), (8, [0, 1, 2, 3, 9, 10]), (9, [8])], spec_Blocks_L A c_94 c_37 A.fuel⟩
theorem spec_Blocks_l0_ok (A : PM.Prims) (c_94 : spec_l1In_T) (c_37 : spec_HoldsOk_T) (n : Nat) (l3 : List (List Int)) (who4 : Int) (what5 : Int) (mode6 : Int) (i7 : Int) (o08 : List Int) (K : Go.Exit → PM.S → PM.R) : spec_Blocks_L A c_94 c_37 (n + 1) 0 ⟨[(0, .arr (.vecs 73 3 l3)), (1, .int .i64 who4), (2, .int .i64 what5), (3, .int .i64 mode6), (9, .sref 0), (10, .int .i64 i7)], [(0, .arr true (.ints 3 .i64 o08))]⟩ K = PM.roundF A cx (PM.runD A cx (spec_Blocks_E A c_94 c_37).inl (spec_Blocks_E A c_94 c_37).Γ 3) (spec_Blocks_E A c_94 c_37) (spec_Blocks_L A c_94 c_37 n) 0 Go.Proofs.Try.f43 ⟨[(0, .arr (.vecs 73 3 l3)), (1, .int .i64 who4), (2, .int .i64 what5), (3, .int .i64 mode6), (9, .sref 0), (10, .int .i64 i7)], [(0, .arr true (.ints 3 .i64 o08))]⟩ K := by kernel_rfl
theorem spec_Blocks_ok (A : PM.Prims) (c_94 : spec_l1In_T) (c_37 : spec_HoldsOk_T) (l : List (List Int)) (who : Int) (what : Int) (mode : Int) (k : PM.V → PM.R) : PM.pfun A cx [] (spec_Blocks_E A c_94 c_37) Go.Proofs.Try.f43 [.arr (.vecs 73 3 l), .int .i64 who, .int .i64 what, .int .i64 mode] k = spec_Blocks_f A c_94 c_37 l who what mode (fun r0 => k (.arr (.ints 3 .i64 r0))) := by kernel_rfl

theorem spec_Blocks_fn : PM.FnIs Try.prog 43 Try.f43 := .of Try.func43 (by kernel_rfl) (by kernel_rfl)
theorem spec_Blocks_g : PM.GOk Try.prog cx 43 ⟨[], spec_Blocks_w (spec_Blocks PM.std), none⟩ := by
  refine ⟨spec_Blocks_fn.enter, fun _ ds k r h => ?_, fun hm => absurd rfl hm, fun _ e => (by cases e)⟩
  change spec_Blocks_w (spec_Blocks PM.std) ds k = some r at h
  unfold spec_Blocks_w at h
  split at h
  · exact PM.pfun_ok (E := spec_Blocks_E PM.std (spec_l1In PM.std) (spec_HoldsOk PM.std)) (L := fun n => spec_Blocks_L PM.std (spec_l1In PM.std) (spec_HoldsOk PM.std) n) (N := PM.std.fuel) cx_ok (.cons spec_l1In_g (.cons spec_HoldsOk_g .nil)) mixed .nil spec_Blocks_fn (by kernel_rfl) ⟨rfl, fun cur σ K => by
      dsimp only [spec_Blocks_L]
      split <;> rfl, fun n cur σ K r h => by
      dsimp only [spec_Blocks_L] at h
      split at h
      · exact (spec_Blocks_l0_ok PM.std (spec_l1In PM.std) (spec_HoldsOk PM.std) n _ _ _ _ _ _ K).symm.trans h
      · cases h⟩
      ((spec_Blocks_ok PM.std (spec_l1In PM.std) (spec_HoldsOk PM.std) _ _ _ _ k).trans h)
  · cases h

abbrev impl_Blocks_T := (List (List Int)) → (Int) → (Int) → (Int) → ((List Int) → PM.R) → PM.R
noncomputable def impl_Blocks_w (c : impl_Blocks_T) (ds : List PM.V) (k : PM.V → PM.R) : PM.R :=
  match ds with
  | [.arr (.vecs 73 3 l), .int .i64 who, .int .i64 what, .int .i64 mode] => c l who what mode (fun r0 => k (.arr (.ints 3 .i64 r0)))
  | _ => none
noncomputable def impl_Blocks_l0 (A : PM.Prims) (c_97 : impl_within_T) (c_39 : impl_HoldsOk_T) : Nat → (Int) → (Int) → (Int) → (List (List Int)) → (Int) → (Int) → (List Int) → ((List Int) → PM.R) → PM.R
  | 0, _, _, _, _, _, _, _, _ => none
  | n + 1, who3, what4, mode5, t216, t227, t238, o09, kx0_0 =>
    bif (A.lt t238 t227) then
      bif (A.inb t238 (A.vlen t216)) then
        bif (A.eq (A.vget t216 t238 1) what4) then
          bif (A.not (A.eq (A.vget t216 t238 0) who3)) then
            bif (A.eq mode5 2) then
              bif (A.room (A.ilen o09) (A.ilen [(A.vget t216 t238 0)])) then
                impl_Blocks_l0 A c_97 c_39 n who3 what4 mode5 t216 t227 (A.add .i64 t238 1) (A.iapp o09 [(A.vget t216 t238 0)]) kx0_0
              else
                none
            else
              bif (A.eq (A.vget t216 t238 2) 2) then
                bif (A.room (A.ilen o09) (A.ilen [(A.vget t216 t238 0)])) then
                  impl_Blocks_l0 A c_97 c_39 n who3 what4 mode5 t216 t227 (A.add .i64 t238 1) (A.iapp o09 [(A.vget t216 t238 0)]) kx0_0
                else
                  none
              else
                impl_Blocks_l0 A c_97 c_39 n who3 what4 mode5 t216 t227 (A.add .i64 t238 1) o09 kx0_0
          else
            impl_Blocks_l0 A c_97 c_39 n who3 what4 mode5 t216 t227 (A.add .i64 t238 1) o09 kx0_0
        else
          impl_Blocks_l0 A c_97 c_39 n who3 what4 mode5 t216 t227 (A.add .i64 t238 1) o09 kx0_0
      else
        none
    else
      kx0_0 o09
noncomputable def impl_Blocks_f (A : PM.Prims) (c_97 : impl_within_T) (c_39 : impl_HoldsOk_T) (l : List (List Int)) (who : Int) (what : Int) (mode : Int) (k : (List Int) → PM.R) : PM.R :=
  c_39 l (fun r1 =>
    bif (A.not r1) then
      k []
    else
      c_97 mode 1 2 (fun r2 =>
        bif (A.not r2) then
          k []
        else
          impl_Blocks_l0 A c_97 c_39 A.fuel who what mode l (A.vlen l) 0 [] (fun o01011 =>
            k o01011)))
noncomputable def impl_Blocks (A : PM.Prims) : impl_Blocks_T := impl_Blocks_f A (impl_within A) (impl_HoldsOk A)
noncomputable def impl_Blocks_L (A : PM.Prims) (c_97 : impl_within_T) (c_39 : impl_HoldsOk_T) (n : Nat) : PM.Lam := fun cur σ K =>
  match cur, σ, K with
  | 0, ⟨[(1, .int .i64 who3), (2, .int .i64 what4), (3, .int .i64 mode5), (9, .sref 0), (21, .arr (.vecs 73 3 t216)), (22, .int .i64 t227), (23, .int .i64 t238)], [(0, .arr true (.ints 3 .i64 o09))]⟩, K => impl_Blocks_l0 A c_97 c_39 n who3 what4 mode5 t216 t227 t238 o09 (fun o010 => K (.exit 0) ⟨[(9, .sref 0)], [(0, .arr true (.ints 3 .i64 o010))]⟩)
  | _, _, _ => none
noncomputable def impl_Blocks_E (A : PM.Prims) (c_97 : impl_within_T) (c_39 : impl_HoldsOk_T) : PM.Env := ⟨[(97, ⟨[], impl_within_w c_97, none⟩), (39, ⟨[], impl_HoldsOk_w c_39, none⟩)], [], [(0, [1, 2, 3, 9, 21, 22, 23], [8, 9])], [(0, [0, 1, 2, 3]), (1, [0, 1, 2, 3, 19]), (2, [8]), (3, [0, 1, 2, 3, 9]), (4, [1, 2, 3, 9, 21, 22, 23]), (5, [1, 2, 3, 9, 21, 22, 23, 24]), (6, [1, 2, 3, 9, 11, 21, 22, 23]), (7, [1, 2, 3, 9, 11, 21, 22, 23, 45]), (8, [1, 2, 3, 9, 21, 22, 23]), (9, [1, 2, 3, 9, 21, 22, 23]), (10, [8])], impl_Blocks_L A c_97 c_39 A.fuel⟩
theorem impl_Blocks_l0_ok (A : PM.Prims) (c_97 : impl_within_T) (c_39 : impl_HoldsOk_T) (n : Nat) (who3 : Int) (what4 : Int) (mode5 : Int) (t216 : List (List Int)) (t227 : Int) (t238 : Int) (o09 : List Int) (K : Go.Exit → PM.S → PM.R) : impl_Blocks_L A c_97 c_39 (n + 1) 0 ⟨[(1, .int .i64 who3), (2, .int .i64 what4), (3, .int .i64 mode5), (9, .sref 0), (21, .arr (.vecs 73 3 t216)), (22, .int .i64 t227), (23, .int .i64 t238)], [(0, .arr true (.ints 3 .i64 o09))]⟩ K = PM.roundF A cx (PM.runD A cx (impl_Blocks_E A c_97 c_39).inl (impl_Blocks_E A c_97 c_39).Γ 3) (impl_Blocks_E A c_97 c_39) (impl_Blocks_L A c_97 c_39 n) 0 Go.Proofs.Try.f44 ⟨[(1, .int .i64 who3), (2, .int .i64 what4), (3, .int .i64 mode5), (9, .sref 0), (21, .arr (.vecs 73 3 t216)), (22, .int .i64 t227), (23, .int .i64 t238)], [(0, .arr true (.ints 3 .i64 o09))]⟩ K := by kernel_rfl
theorem impl_Blocks_ok (A : PM.Prims) (c_97 : impl_within_T) (c_39 : impl_HoldsOk_T) (l : List (List Int)) (who : Int) (what : Int) (mode : Int) (k : PM.V → PM.R) : PM.pfun A cx [] (impl_Blocks_E A c_97 c_39) Go.Proofs.Try.f44 [.arr (.vecs 73 3 l), .int .i64 who, .int .i64 what, .int .i64 mode] k = impl_Blocks_f A c_97 c_39 l who what mode (fun r0 => k (.arr (.ints 3 .i64 r0))) := by kernel_rfl

theorem impl_Blocks_fn : PM.FnIs Try.prog 44 Try.f44 := .of Try.func44 (by kernel_rfl) (by kernel_rfl)
theorem impl_Blocks_g : PM.GOk Try.prog cx 44 ⟨[], impl_Blocks_w (impl_Blocks PM.std), none⟩ := by
  refine ⟨impl_Blocks_fn.enter, fun _ ds k r h => ?_, fun hm => absurd rfl hm, fun _ e => (by cases e)⟩
  change impl_Blocks_w (impl_Blocks PM.std) ds k = some r at h
  unfold impl_Blocks_w at h
  split at h
  · exact PM.pfun_ok (E := impl_Blocks_E PM.std (impl_within PM.std) (impl_HoldsOk PM.std)) (L := fun n => impl_Blocks_L PM.std (impl_within PM.std) (impl_HoldsOk PM.std) n) (N := PM.std.fuel) cx_ok (.cons impl_within_g (.cons impl_HoldsOk_g .nil)) mixed .nil impl_Blocks_fn (by kernel_rfl) ⟨rfl, fun cur σ K => by
      dsimp only [impl_Blocks_L]
      split <;> rfl, fun n cur σ K r h => by
      dsimp only [impl_Blocks_L] at h
      split at h
      · exact (impl_Blocks_l0_ok PM.std (impl_within PM.std) (impl_HoldsOk PM.std) n _ _ _ _ _ _ _ K).symm.trans h
      · cases h⟩
      ((impl_Blocks_ok PM.std (impl_within PM.std) (impl_HoldsOk PM.std) _ _ _ _ k).trans h)
  · cases h

abbrev laws_eqIntS_T := (List Int) → (List Int) → ((Bool) → PM.R) → PM.R
noncomputable def laws_eqIntS_w (c : laws_eqIntS_T) (ds : List PM.V) (k : PM.V → PM.R) : PM.R :=
  match ds with
  | [.arr (.ints 3 .i64 a), .arr (.ints 3 .i64 b)] => c a b (fun r0 => k (.bool r0))
  | _ => none
noncomputable def laws_eqIntS_l0 (A : PM.Prims) : Nat → (List Int) → (List Int) → (Int) → ((Bool) → PM.R) → (Unit → PM.R) → PM.R
  | 0, _, _, _, _, _ => none
  | n + 1, a1, b2, i3, kret_0, kx0_0 =>
    bif (A.lt i3 (A.ilen a1)) then
      bif (A.inb i3 (A.ilen a1)) then
        bif (A.inb i3 (A.ilen b2)) then
          bif (A.not (A.eq (A.iget a1 i3) (A.iget b2 i3))) then
            kret_0 false
          else
            laws_eqIntS_l0 A n a1 b2 (A.add .i64 i3 1) kret_0 kx0_0
        else
          none
      else
        none
    else
      kx0_0 ()
noncomputable def laws_eqIntS_f (A : PM.Prims) (a : List Int) (b : List Int) (k : (Bool) → PM.R) : PM.R :=
  bif (A.not (A.eq (A.ilen a) (A.ilen b))) then
    k false
  else
    laws_eqIntS_l0 A A.fuel a b 0 (fun t445 =>
      k t445) (fun _ =>
      k true)
noncomputable def laws_eqIntS (A : PM.Prims) : laws_eqIntS_T := laws_eqIntS_f A
noncomputable def laws_eqIntS_L (A : PM.Prims) (n : Nat) : PM.Lam := fun cur σ K =>
  match cur, σ, K with
  | 0, ⟨[(0, .arr (.ints 3 .i64 a1)), (1, .arr (.ints 3 .i64 b2)), (5, .int .i64 i3)], []⟩, K => laws_eqIntS_l0 A n a1 b2 i3 (fun t44 => K .ret ⟨[(4, .bool t44)], []⟩) (fun _ => K (.exit 0) ⟨[], []⟩)
  | _, _, _ => none
noncomputable def laws_eqIntS_E (A : PM.Prims) : PM.Env := ⟨[], [], [(0, [0, 1, 5], [4])], [(0, [0, 1]), (1, [0, 1, 10]), (2, [4]), (3, [0, 1, 5]), (4, [0, 1, 5, 14]), (5, [0, 1, 5]), (6, [0, 1, 5, 25]), (7, [4]), (8, [4])], laws_eqIntS_L A A.fuel⟩
theorem laws_eqIntS_l0_ok (A : PM.Prims) (n : Nat) (a1 : List Int) (b2 : List Int) (i3 : Int) (K : Go.Exit → PM.S → PM.R) : laws_eqIntS_L A (n + 1) 0 ⟨[(0, .arr (.ints 3 .i64 a1)), (1, .arr (.ints 3 .i64 b2)), (5, .int .i64 i3)], []⟩ K = PM.roundF A cx (PM.runD A cx (laws_eqIntS_E A).inl (laws_eqIntS_E A).Γ 3) (laws_eqIntS_E A) (laws_eqIntS_L A n) 0 Go.Proofs.Try.f45 ⟨[(0, .arr (.ints 3 .i64 a1)), (1, .arr (.ints 3 .i64 b2)), (5, .int .i64 i3)], []⟩ K := by kernel_rfl
theorem laws_eqIntS_ok (A : PM.Prims) (a : List Int) (b : List Int) (k : PM.V → PM.R) : PM.pfun A cx [] (laws_eqIntS_E A) Go.Proofs.Try.f45 [.arr (.ints 3 .i64 a), .arr (.ints 3 .i64 b)] k = laws_eqIntS_f A a b (fun r0 => k (.bool r0)) := by kernel_rfl

theorem laws_eqIntS_fn : PM.FnIs Try.prog 45 Try.f45 := .of Try.func45 (by kernel_rfl) (by kernel_rfl)
theorem laws_eqIntS_g : PM.GOk Try.prog cx 45 ⟨[], laws_eqIntS_w (laws_eqIntS PM.std), none⟩ := by
  refine ⟨laws_eqIntS_fn.enter, fun _ ds k r h => ?_, fun hm => absurd rfl hm, fun _ e => (by cases e)⟩
  change laws_eqIntS_w (laws_eqIntS PM.std) ds k = some r at h
  unfold laws_eqIntS_w at h
  split at h
  · exact PM.pfun_ok (E := laws_eqIntS_E PM.std) (L := fun n => laws_eqIntS_L PM.std n) (N := PM.std.fuel) cx_ok .nil mixed .nil laws_eqIntS_fn (by kernel_rfl) ⟨rfl, fun cur σ K => by
      dsimp only [laws_eqIntS_L]
      split <;> rfl, fun n cur σ K r h => by
      dsimp only [laws_eqIntS_L] at h
      split at h
      · exact (laws_eqIntS_l0_ok PM.std n _ _ _ K).symm.trans h
      · cases h⟩
      ((laws_eqIntS_ok PM.std _ _ k).trans h)
  · cases h

abbrev laws_markHoldS_T := (List (List Int)) → (Int) → ((Int) → (List (List Int)) → PM.R) → PM.R
noncomputable def laws_markHoldS_w (c : laws_markHoldS_T) (ds : List PM.V) (k : PM.V → PM.R) : PM.R :=
  match ds with
  | [.arr (.vecs 73 3 a), .int .i64 k_] => c a k_ (fun r0 o0 => k (.tup [.int .i64 r0, .arr (.vecs 73 3 o0)]))
  | _ => none
noncomputable def laws_markHoldS_l0 (A : PM.Prims) : Nat → (Int) → (Int) → (List (List Int)) → ((Int) → (List (List Int)) → PM.R) → PM.R
  | 0, _, _, _, _ => none
  | n + 1, k1, i2, o03, kx0_0 =>
    bif (A.lt i2 (A.vlen o03)) then
      bif (A.inb i2 (A.vlen o03)) then
        bif (A.inb i2 (A.vlen (A.vset o03 i2 0 k1))) then
          bif (A.inb i2 (A.vlen (A.vset (A.vset o03 i2 0 k1) i2 1 (A.add .i64 k1 1)))) then
            laws_markHoldS_l0 A n (A.add .i64 (A.add .i64 (A.add .i64 k1 1) 1) 1) (A.add .i64 i2 1) (A.vset (A.vset (A.vset o03 i2 0 k1) i2 1 (A.add .i64 k1 1)) i2 2 (A.add .i64 (A.add .i64 k1 1) 1)) kx0_0
          else
            none
        else
          none
      else
        none
    else
      kx0_0 k1 o03
noncomputable def laws_markHoldS_f (A : PM.Prims) (a : List (List Int)) (k_ : Int) (k : (Int) → (List (List Int)) → PM.R) : PM.R :=
  laws_markHoldS_l0 A A.fuel k_ 0 a (fun k46 o057 =>
    k k46 o057)
noncomputable def laws_markHoldS (A : PM.Prims) : laws_markHoldS_T := laws_markHoldS_f A
noncomputable def laws_markHoldS_L (A : PM.Prims) (n : Nat) : PM.Lam := fun cur σ K =>
  match cur, σ, K with
  | 0, ⟨[(0, .sref 0), (1, .int .i64 k1), (5, .int .i64 i2)], [(0, .arr false (.vecs 73 3 o03))]⟩, K => laws_markHoldS_l0 A n k1 i2 o03 (fun k4 o05 => K (.exit 0) ⟨[(0, .sref 0), (1, .int .i64 k4)], [(0, .arr false (.vecs 73 3 o05))]⟩)
  | _, _, _ => none
noncomputable def laws_markHoldS_E (A : PM.Prims) : PM.Env := ⟨[], [], [(0, [0, 1, 5], [0, 1, 4])], [(0, [0, 1]), (1, [0, 1, 5]), (2, [0, 1, 5, 9]), (3, [0, 1, 5]), (4, [0, 1, 5]), (5, [0, 1, 5]), (6, [0, 1, 5]), (7, [0, 1, 5]), (8, [0, 1, 5]), (9, [0, 1, 5]), (10, [0, 4])], laws_markHoldS_L A A.fuel⟩
theorem laws_markHoldS_l0_ok (A : PM.Prims) (n : Nat) (k1 : Int) (i2 : Int) (o03 : List (List Int)) (K : Go.Exit → PM.S → PM.R) : laws_markHoldS_L A (n + 1) 0 ⟨[(0, .sref 0), (1, .int .i64 k1), (5, .int .i64 i2)], [(0, .arr false (.vecs 73 3 o03))]⟩ K = PM.roundF A cx (PM.runD A cx (laws_markHoldS_E A).inl (laws_markHoldS_E A).Γ 3) (laws_markHoldS_E A) (laws_markHoldS_L A n) 0 Go.Proofs.Try.f46 ⟨[(0, .sref 0), (1, .int .i64 k1), (5, .int .i64 i2)], [(0, .arr false (.vecs 73 3 o03))]⟩ K := by kernel_rfl
theorem laws_markHoldS_ok (A : PM.Prims) (a : List (List Int)) (k_ : Int) (k : PM.V → PM.R) : PM.pfun A cx [true, false] (laws_markHoldS_E A) Go.Proofs.Try.f46 [.arr (.vecs 73 3 a), .int .i64 k_] k = laws_markHoldS_f A a k_ (fun r0 o0 => k (.tup [.int .i64 r0, .arr (.vecs 73 3 o0)])) := by kernel_rfl

theorem laws_markHoldS_fn : PM.FnIs Try.prog 46 Try.f46 := .of Try.func46 (by kernel_rfl) (by kernel_rfl)
theorem laws_markHoldS_g : PM.GOk Try.prog cx 46 ⟨[true, false], laws_markHoldS_w (laws_markHoldS PM.std), none⟩ := by
  refine ⟨laws_markHoldS_fn.enter, fun hm => (by cases hm), fun _ ds k r h => ?_, fun _ e => (by cases e)⟩
  change laws_markHoldS_w (laws_markHoldS PM.std) ds k = some r at h
  unfold laws_markHoldS_w at h
  split at h
  · exact PM.pfun_okM (List.cons_ne_nil _ _) (E := laws_markHoldS_E PM.std) (L := fun n => laws_markHoldS_L PM.std n) (N := PM.std.fuel) cx_ok .nil mixed .nil laws_markHoldS_fn (by kernel_rfl) ⟨rfl, fun cur σ K => by
      dsimp only [laws_markHoldS_L]
      split <;> rfl, fun n cur σ K r h => by
      dsimp only [laws_markHoldS_L] at h
      split at h
      · exact (laws_markHoldS_l0_ok PM.std n _ _ _ K).symm.trans h
      · cases h⟩
      ((laws_markHoldS_ok PM.std _ _ k).trans h)
  · cases h

abbrev laws_markIntS_T := (List Int) → (Int) → ((Int) → (List Int) → PM.R) → PM.R
noncomputable def laws_markIntS_w (c : laws_markIntS_T) (ds : List PM.V) (k : PM.V → PM.R) : PM.R :=
  match ds with
  | [.arr (.ints 3 .i64 a), .int .i64 k_] => c a k_ (fun r0 o0 => k (.tup [.int .i64 r0, .arr (.ints 3 .i64 o0)]))
  | _ => none
noncomputable def laws_markIntS_l0 (A : PM.Prims) : Nat → (Int) → (Int) → (List Int) → ((Int) → (List Int) → PM.R) → PM.R
  | 0, _, _, _, _ => none
  | n + 1, k1, i2, o03, kx0_0 =>
    bif (A.lt i2 (A.ilen o03)) then
      bif (A.inb i2 (A.ilen o03)) then
        laws_markIntS_l0 A n (A.add .i64 k1 1) (A.add .i64 i2 1) (A.iset o03 i2 k1) kx0_0
      else
        none
    else
      kx0_0 k1 o03
noncomputable def laws_markIntS_f (A : PM.Prims) (a : List Int) (k_ : Int) (k : (Int) → (List Int) → PM.R) : PM.R :=
  laws_markIntS_l0 A A.fuel k_ 0 a (fun k46 o057 =>
    k k46 o057)
noncomputable def laws_markIntS (A : PM.Prims) : laws_markIntS_T := laws_markIntS_f A
noncomputable def laws_markIntS_L (A : PM.Prims) (n : Nat) : PM.Lam := fun cur σ K =>
  match cur, σ, K with
  | 0, ⟨[(0, .sref 0), (1, .int .i64 k1), (5, .int .i64 i2)], [(0, .arr false (.ints 3 .i64 o03))]⟩, K => laws_markIntS_l0 A n k1 i2 o03 (fun k4 o05 => K (.exit 0) ⟨[(0, .sref 0), (1, .int .i64 k4)], [(0, .arr false (.ints 3 .i64 o05))]⟩)
  | _, _, _ => none
noncomputable def laws_markIntS_E (A : PM.Prims) : PM.Env := ⟨[], [], [(0, [0, 1, 5], [0, 1, 4])], [(0, [0, 1]), (1, [0, 1, 5]), (2, [0, 1, 5, 9]), (3, [0, 1, 5]), (4, [0, 1, 5]), (5, [0, 1, 5]), (6, [0, 4])], laws_markIntS_L A A.fuel⟩
theorem laws_markIntS_l0_ok (A : PM.Prims) (n : Nat) (k1 : Int) (i2 : Int) (o03 : List Int) (K : Go.Exit → PM.S → PM.R) : laws_markIntS_L A (n + 1) 0 ⟨[(0, .sref 0), (1, .int .i64 k1), (5, .int .i64 i2)], [(0, .arr false (.ints 3 .i64 o03))]⟩ K = PM.roundF A cx (PM.runD A cx (laws_markIntS_E A).inl (laws_markIntS_E A).Γ 3) (laws_markIntS_E A) (laws_markIntS_L A n) 0 Go.Proofs.Try.f47 ⟨[(0, .sref 0), (1, .int .i64 k1), (5, .int .i64 i2)], [(0, .arr false (.ints 3 .i64 o03))]⟩ K := by kernel_rfl
theorem laws_markIntS_ok (A : PM.Prims) (a : List Int) (k_ : Int) (k : PM.V → PM.R) : PM.pfun A cx [true, false] (laws_markIntS_E A) Go.Proofs.Try.f47 [.arr (.ints 3 .i64 a), .int .i64 k_] k = laws_markIntS_f A a k_ (fun r0 o0 => k (.tup [.int .i64 r0, .arr (.ints 3 .i64 o0)])) := by kernel_rfl

theorem laws_markIntS_fn : PM.FnIs Try.prog 47 Try.f47 := .of Try.func47 (by kernel_rfl) (by kernel_rfl)
theorem laws_markIntS_g : PM.GOk Try.prog cx 47 ⟨[true, false], laws_markIntS_w (laws_markIntS PM.std), none⟩ := by
  refine ⟨laws_markIntS_fn.enter, fun hm => (by cases hm), fun _ ds k r h => ?_, fun _ e => (by cases e)⟩
  change laws_markIntS_w (laws_markIntS PM.std) ds k = some r at h
  unfold laws_markIntS_w at h
  split at h
  · exact PM.pfun_okM (List.cons_ne_nil _ _) (E := laws_markIntS_E PM.std) (L := fun n => laws_markIntS_L PM.std n) (N := PM.std.fuel) cx_ok .nil mixed .nil laws_markIntS_fn (by kernel_rfl) ⟨rfl, fun cur σ K => by
      dsimp only [laws_markIntS_L]
      split <;> rfl, fun n cur σ K r h => by
      dsimp only [laws_markIntS_L] at h
      split at h
      · exact (laws_markIntS_l0_ok PM.std n _ _ _ K).symm.trans h
      · cases h⟩
      ((laws_markIntS_ok PM.std _ _ k).trans h)
  · cases h

abbrev laws_heldIntS_T := (List Int) → (Int) → ((Int) → PM.R) → PM.R
noncomputable def laws_heldIntS_w (c : laws_heldIntS_T) (ds : List PM.V) (k : PM.V → PM.R) : PM.R :=
  match ds with
  | [.arr (.ints 3 .i64 a), .int .i64 k_] => c a k_ (fun r0 => k (.int .i64 r0))
  | _ => none
noncomputable def laws_heldIntS_l0 (A : PM.Prims) : Nat → (List Int) → (Int) → (Int) → ((Int) → PM.R) → ((Int) → PM.R) → PM.R
  | 0, _, _, _, _, _ => none
  | n + 1, a1, k2, i3, kret_0, kx0_0 =>
    bif (A.lt i3 (A.ilen a1)) then
      bif (A.inb i3 (A.ilen a1)) then
        bif (A.not (A.eq (A.iget a1 i3) k2)) then
          kret_0 (-1)
        else
          laws_heldIntS_l0 A n a1 (A.add .i64 k2 1) (A.add .i64 i3 1) kret_0 kx0_0
      else
        none
    else
      kx0_0 k2
noncomputable def laws_heldIntS_f (A : PM.Prims) (a : List Int) (k_ : Int) (k : (Int) → PM.R) : PM.R :=
  laws_heldIntS_l0 A A.fuel a k_ 0 (fun t446 =>
    k t446) (fun k57 =>
    k k57)
noncomputable def laws_heldIntS (A : PM.Prims) : laws_heldIntS_T := laws_heldIntS_f A
noncomputable def laws_heldIntS_L (A : PM.Prims) (n : Nat) : PM.Lam := fun cur σ K =>
  match cur, σ, K with
  | 0, ⟨[(0, .arr (.ints 3 .i64 a1)), (1, .int .i64 k2), (5, .int .i64 i3)], []⟩, K => laws_heldIntS_l0 A n a1 k2 i3 (fun t44 => K .ret ⟨[(4, .int .i64 t44)], []⟩) (fun k5 => K (.exit 0) ⟨[(1, .int .i64 k5)], []⟩)
  | _, _, _ => none
noncomputable def laws_heldIntS_E (A : PM.Prims) : PM.Env := ⟨[], [], [(0, [0, 1, 5], [1, 4])], [(0, [0, 1]), (1, [0, 1, 5]), (2, [0, 1, 5, 9]), (3, [0, 1, 5]), (4, [0, 1, 5, 17]), (5, [4]), (6, [0, 1, 5]), (7, [4])], laws_heldIntS_L A A.fuel⟩
theorem laws_heldIntS_l0_ok (A : PM.Prims) (n : Nat) (a1 : List Int) (k2 : Int) (i3 : Int) (K : Go.Exit → PM.S → PM.R) : laws_heldIntS_L A (n + 1) 0 ⟨[(0, .arr (.ints 3 .i64 a1)), (1, .int .i64 k2), (5, .int .i64 i3)], []⟩ K = PM.roundF A cx (PM.runD A cx (laws_heldIntS_E A).inl (laws_heldIntS_E A).Γ 3) (laws_heldIntS_E A) (laws_heldIntS_L A n) 0 Go.Proofs.Try.f48 ⟨[(0, .arr (.ints 3 .i64 a1)), (1, .int .i64 k2), (5, .int .i64 i3)], []⟩ K := by kernel_rfl
theorem laws_heldIntS_ok (A : PM.Prims) (a : List Int) (k_ : Int) (k : PM.V → PM.R) : PM.pfun A cx [] (laws_heldIntS_E A) Go.Proofs.Try.f48 [.arr (.ints 3 .i64 a), .int .i64 k_] k = laws_heldIntS_f A a k_ (fun r0 => k (.int .i64 r0)) := by kernel_rfl

theorem laws_heldIntS_fn : PM.FnIs Try.prog 48 Try.f48 := .of Try.func48 (by kernel_rfl) (by kernel_rfl)
theorem laws_heldIntS_g : PM.GOk Try.prog cx 48 ⟨[], laws_heldIntS_w (laws_heldIntS PM.std), none⟩ := by
  refine ⟨laws_heldIntS_fn.enter, fun _ ds k r h => ?_, fun hm => absurd rfl hm, fun _ e => (by cases e)⟩
  change laws_heldIntS_w (laws_heldIntS PM.std) ds k = some r at h
  unfold laws_heldIntS_w at h
  split at h
  · exact PM.pfun_ok (E := laws_heldIntS_E PM.std) (L := fun n => laws_heldIntS_L PM.std n) (N := PM.std.fuel) cx_ok .nil mixed .nil laws_heldIntS_fn (by kernel_rfl) ⟨rfl, fun cur σ K => by
      dsimp only [laws_heldIntS_L]
      split <;> rfl, fun n cur σ K r h => by
      dsimp only [laws_heldIntS_L] at h
      split at h
      · exact (laws_heldIntS_l0_ok PM.std n _ _ _ K).symm.trans h
      · cases h⟩
      ((laws_heldIntS_ok PM.std _ _ k).trans h)
  · cases h

abbrev laws_FnExactBlocks_T := (List (List Int)) → (Int) → (Int) → (Int) → ((Bool) → PM.R) → PM.R
noncomputable def laws_FnExactBlocks_w (c : laws_FnExactBlocks_T) (ds : List PM.V) (k : PM.V → PM.R) : PM.R :=
  match ds with
  | [.arr (.vecs 124 3 __), .int .i64 a, .int .i64 r, .int .i64 r_3] => c __ a r r_3 (fun r0 => k (.bool r0))
  | _ => none
noncomputable def laws_FnExactBlocks_f (A : PM.Prims) (c_36 : laws_szHoldS_T) (c_38 : laws_toHoldS_T) (c_43 : spec_Blocks_T) (c_44 : impl_Blocks_T) (c_45 : laws_eqIntS_T) (c_40 : laws_eqHoldS_T) (c_46 : laws_markHoldS_T) (c_47 : laws_markIntS_T) (c_48 : laws_heldIntS_T) (__ : List (List Int)) (a : Int) (r : Int) (r_3 : Int) (k : (Bool) → PM.R) : PM.R :=
  c_36 __ 1048576 (fun r1 =>
    bif (A.lt r1 0) then
      k true
    else
      c_38 __ (fun r2 =>
        c_43 r2 a r r_3 (fun r3 =>
          c_38 __ (fun r4 =>
            c_44 r4 a r r_3 (fun r5 =>
              c_45 r5 r3 (fun r6 =>
                bif (A.not r6) then
                  k false
                else
                  c_38 __ (fun r7 =>
                    c_40 r4 r7 (fun r8 =>
                      bif (A.not r8) then
                        k false
                      else
                        c_46 r4 1 (fun r9 r10 =>
                          bif (A.lt r9 0) then
                            k false
                          else
                            c_45 r5 r3 (fun r11 =>
                              bif (A.not r11) then
                                k false
                              else
                                c_47 r5 1 (fun r12 r13 =>
                                  c_48 r13 1 (fun r14 =>
                                    bif (A.lt r14 0) then
                                      k false
                                    else
                                      bif (A.not (A.eq r14 r12)) then
                                        k false
                                      else
                                        c_38 __ (fun r15 =>
                                          c_44 r15 a r r_3 (fun r16 =>
                                            c_45 r16 r3 (fun r17 =>
                                              bif (A.not r17) then
                                                k false
                                              else
                                                c_48 r13 1 (fun r18 =>
                                                  bif (A.lt r18 0) then
                                                    k false
                                                  else
                                                    bif (A.not (A.eq r18 r12)) then
                                                      k false
                                                    else
                                                      k true))))))))))))))))
noncomputable def laws_FnExactBlocks (A : PM.Prims) : laws_FnExactBlocks_T := laws_FnExactBlocks_f A (laws_szHoldS A) (laws_toHoldS A) (spec_Blocks A) (impl_Blocks A) (laws_eqIntS A) (laws_eqHoldS A) (laws_markHoldS A) (laws_markIntS A) (laws_heldIntS A)
noncomputable def laws_FnExactBlocks_L (A : PM.Prims) (c_36 : laws_szHoldS_T) (c_38 : laws_toHoldS_T) (c_43 : spec_Blocks_T) (c_44 : impl_Blocks_T) (c_45 : laws_eqIntS_T) (c_40 : laws_eqHoldS_T) (c_46 : laws_markHoldS_T) (c_47 : laws_markIntS_T) (c_48 : laws_heldIntS_T) (n : Nat) : PM.Lam := fun cur σ K =>
  match cur, σ, K with
  | _, _, _ => none
noncomputable def laws_FnExactBlocks_E (A : PM.Prims) (c_36 : laws_szHoldS_T) (c_38 : laws_toHoldS_T) (c_43 : spec_Blocks_T) (c_44 : impl_Blocks_T) (c_45 : laws_eqIntS_T) (c_40 : laws_eqHoldS_T) (c_46 : laws_markHoldS_T) (c_47 : laws_markIntS_T) (c_48 : laws_heldIntS_T) : PM.Env := ⟨[(36, ⟨[], laws_szHoldS_w c_36, none⟩), (38, ⟨[], laws_toHoldS_w c_38, none⟩), (43, ⟨[], spec_Blocks_w c_43, none⟩), (44, ⟨[], impl_Blocks_w c_44, none⟩), (45, ⟨[], laws_eqIntS_w c_45, none⟩), (40, ⟨[], laws_eqHoldS_w c_40, none⟩), (46, ⟨[true, false], laws_markHoldS_w c_46, none⟩), (47, ⟨[true, false], laws_markIntS_w c_47, none⟩), (48, ⟨[], laws_heldIntS_w c_48, none⟩)], [], [], [(0, [0, 1, 2, 3]), (1, [0, 1, 2, 3, 9]), (2, [0, 1, 2, 3, 9]), (3, [0, 1, 2, 3, 21]), (4, [8]), (5, [0, 1, 2, 3, 10]), (6, [0, 1, 2, 3, 10, 11]), (7, [0, 1, 2, 3, 10, 11, 12]), (8, [0, 1, 2, 3, 10, 11, 12, 38]), (9, [8]), (10, [0, 1, 2, 3, 10, 11, 12, 43]), (11, [8]), (12, [0, 1, 2, 3, 10, 11, 12, 13]), (13, [0, 1, 2, 3, 10, 12, 13]), (14, [0, 1, 2, 3, 10, 12, 54]), (15, [8]), (16, [0, 1, 2, 3, 10, 12, 14]), (17, [0, 1, 2, 3, 10, 12, 14]), (18, [0, 1, 2, 3, 10, 12, 14, 15]), (19, [0, 1, 2, 3, 10, 12, 14, 15]), (20, [0, 1, 2, 3, 10, 12, 14, 15, 62]), (21, [8]), (22, [0, 1, 2, 3, 10, 12, 14, 65]), (23, [8]), (24, [10, 12, 14, 16]), (25, [12, 14, 75]), (26, [8]), (27, [12, 14, 15]), (28, [14, 15]), (29, [14, 15, 80]), (30, [8]), (31, [83]), (32, [8]), (33, [8])], laws_FnExactBlocks_L A c_36 c_38 c_43 c_44 c_45 c_40 c_46 c_47 c_48 A.fuel⟩
theorem laws_FnExactBlocks_ok (A : PM.Prims) (c_36 : laws_szHoldS_T) (c_38 : laws_toHoldS_T) (c_43 : spec_Blocks_T) (c_44 : impl_Blocks_T) (c_45 : laws_eqIntS_T) (c_40 : laws_eqHoldS_T) (c_46 : laws_markHoldS_T) (c_47 : laws_markIntS_T) (c_48 : laws_heldIntS_T) (__ : List (List Int)) (a : Int) (r : Int) (r_3 : Int) (k : PM.V → PM.R) : PM.pfun A cx [] (laws_FnExactBlocks_E A c_36 c_38 c_43 c_44 c_45 c_40 c_46 c_47 c_48) Go.Proofs.Try.f9 [.arr (.vecs 124 3 __), .int .i64 a, .int .i64 r, .int .i64 r_3] k = laws_FnExactBlocks_f A c_36 c_38 c_43 c_44 c_45 c_40 c_46 c_47 c_48 __ a r r_3 (fun r0 => k (.bool r0)) := by kernel_rfl

theorem laws_FnExactBlocks_fn : PM.FnIs Try.prog 9 Try.f9 := .of Try.func9 (by kernel_rfl) (by kernel_rfl)
theorem laws_FnExactBlocks_g : PM.GOk Try.prog cx 9 ⟨[], laws_FnExactBlocks_w (laws_FnExactBlocks PM.std), none⟩ := by
  refine ⟨laws_FnExactBlocks_fn.enter, fun _ ds k r h => ?_, fun hm => absurd rfl hm, fun _ e => (by cases e)⟩
  change laws_FnExactBlocks_w (laws_FnExactBlocks PM.std) ds k = some r at h
  unfold laws_FnExactBlocks_w at h
  split at h
  · exact PM.pfun_ok (E := laws_FnExactBlocks_E PM.std (laws_szHoldS PM.std) (laws_toHoldS PM.std) (spec_Blocks PM.std) (impl_Blocks PM.std) (laws_eqIntS PM.std) (laws_eqHoldS PM.std) (laws_markHoldS PM.std) (laws_markIntS PM.std) (laws_heldIntS PM.std)) (L := fun n => laws_FnExactBlocks_L PM.std (laws_szHoldS PM.std) (laws_toHoldS PM.std) (spec_Blocks PM.std) (impl_Blocks PM.std) (laws_eqIntS PM.std) (laws_eqHoldS PM.std) (laws_markHoldS PM.std) (laws_markIntS PM.std) (laws_heldIntS PM.std) n) (N := PM.std.fuel) cx_ok (.cons laws_szHoldS_g (.cons laws_toHoldS_g (.cons spec_Blocks_g (.cons impl_Blocks_g (.cons laws_eqIntS_g (.cons laws_eqHoldS_g (.cons laws_markHoldS_g (.cons laws_markIntS_g (.cons laws_heldIntS_g .nil))))))))) mixed .nil laws_FnExactBlocks_fn (by kernel_rfl) ⟨rfl, fun _ _ _ => rfl, fun n cur σ K r h => by cases h⟩
      ((laws_FnExactBlocks_ok PM.std (laws_szHoldS PM.std) (laws_toHoldS PM.std) (spec_Blocks PM.std) (impl_Blocks PM.std) (laws_eqIntS PM.std) (laws_eqHoldS PM.std) (laws_markHoldS PM.std) (laws_markIntS PM.std) (laws_heldIntS PM.std) _ _ _ _ k).trans h)
  · cases h

abbrev spec_HoldFree_T := (List (List Int)) → (Int) → ((List (List Int)) → PM.R) → PM.R
noncomputable def spec_HoldFree_w (c : spec_HoldFree_T) (ds : List PM.V) (k : PM.V → PM.R) : PM.R :=
  match ds with
  | [.arr (.vecs 73 3 l), .int .i64 who] => c l who (fun r0 => k (.arr (.vecs 73 3 r0)))
  | _ => none
noncomputable def spec_HoldFree_l0 (A : PM.Prims) (c_37 : spec_HoldsOk_T) : Nat → (List (List Int)) → (Int) → (Bool) → (Int) → (List (List Int)) → ((List (List Int)) → PM.R) → PM.R
  | 0, _, _, _, _, _, _ => none
  | n + 1, l2, who3, free4, i5, o06, kx0_0 =>
    bif (A.lt i5 (A.vlen l2)) then
      bif (A.not free4) then
        bif (A.inb i5 (A.vlen l2)) then
          bif (A.room (A.vlen o06) (A.vlen [[(A.vget l2 i5 0), (A.vget l2 i5 1), (A.vget l2 i5 2)]])) then
            spec_HoldFree_l0 A c_37 n l2 who3 free4 (A.add .i64 i5 1) (A.vapp o06 [[(A.vget l2 i5 0), (A.vget l2 i5 1), (A.vget l2 i5 2)]]) kx0_0
          else
            none
        else
          none
      else
        bif (A.inb i5 (A.vlen l2)) then
          bif (A.not (A.eq (A.vget l2 i5 0) who3)) then
            bif (A.inb i5 (A.vlen l2)) then
              bif (A.room (A.vlen o06) (A.vlen [[(A.vget l2 i5 0), (A.vget l2 i5 1), (A.vget l2 i5 2)]])) then
                spec_HoldFree_l0 A c_37 n l2 who3 free4 (A.add .i64 i5 1) (A.vapp o06 [[(A.vget l2 i5 0), (A.vget l2 i5 1), (A.vget l2 i5 2)]]) kx0_0
              else
                none
            else
              none
          else
            spec_HoldFree_l0 A c_37 n l2 who3 free4 (A.add .i64 i5 1) o06 kx0_0
        else
          none
    else
      kx0_0 o06
noncomputable def spec_HoldFree_f (A : PM.Prims) (c_37 : spec_HoldsOk_T) (l : List (List Int)) (who : Int) (k : (List (List Int)) → PM.R) : PM.R :=
  c_37 l (fun r1 =>
    spec_HoldFree_l0 A c_37 A.fuel l who r1 0 [] (fun o078 =>
      k o078))
noncomputable def spec_HoldFree (A : PM.Prims) : spec_HoldFree_T := spec_HoldFree_f A (spec_HoldsOk A)
noncomputable def spec_HoldFree_L (A : PM.Prims) (c_37 : spec_HoldsOk_T) (n : Nat) : PM.Lam := fun cur σ K =>
  match cur, σ, K with
  | 0, ⟨[(0, .arr (.vecs 73 3 l2)), (1, .int .i64 who3), (5, .sref 0), (6, .bool free4), (7, .int .i64 i5)], [(0, .arr true (.vecs 73 3 o06))]⟩, K => spec_HoldFree_l0 A c_37 n l2 who3 free4 i5 o06 (fun o07 => K (.exit 0) ⟨[(5, .sref 0)], [(0, .arr true (.vecs 73 3 o07))]⟩)
  | _, _, _ => none
noncomputable def spec_HoldFree_E (A : PM.Prims) (c_37 : spec_HoldsOk_T) : PM.Env := ⟨[(37, ⟨[], spec_HoldsOk_w c_37, none⟩)], [], [(0, [0, 1, 5, 6, 7], [4, 5])], [(0, [0, 1]), (1, [0, 1, 5]), (2, [0, 1, 5, 6]), (3, [0, 1, 5, 6, 7]), (4, [0, 1, 5, 6, 7, 14]), (5, [0, 1, 5, 6, 7]), (6, [0, 1, 5, 6, 7, 27]), (7, [0, 1, 5, 6, 7]), (8, [4])], spec_HoldFree_L A c_37 A.fuel⟩
theorem spec_HoldFree_l0_ok (A : PM.Prims) (c_37 : spec_HoldsOk_T) (n : Nat) (l2 : List (List Int)) (who3 : Int) (free4 : Bool) (i5 : Int) (o06 : List (List Int)) (K : Go.Exit → PM.S → PM.R) : spec_HoldFree_L A c_37 (n + 1) 0 ⟨[(0, .arr (.vecs 73 3 l2)), (1, .int .i64 who3), (5, .sref 0), (6, .bool free4), (7, .int .i64 i5)], [(0, .arr true (.vecs 73 3 o06))]⟩ K = PM.roundF A cx (PM.runD A cx (spec_HoldFree_E A c_37).inl (spec_HoldFree_E A c_37).Γ 3) (spec_HoldFree_E A c_37) (spec_HoldFree_L A c_37 n) 0 Go.Proofs.Try.f49 ⟨[(0, .arr (.vecs 73 3 l2)), (1, .int .i64 who3), (5, .sref 0), (6, .bool free4), (7, .int .i64 i5)], [(0, .arr true (.vecs 73 3 o06))]⟩ K := by kernel_rfl
theorem spec_HoldFree_ok (A : PM.Prims) (c_37 : spec_HoldsOk_T) (l : List (List Int)) (who : Int) (k : PM.V → PM.R) : PM.pfun A cx [] (spec_HoldFree_E A c_37) Go.Proofs.Try.f49 [.arr (.vecs 73 3 l), .int .i64 who] k = spec_HoldFree_f A c_37 l who (fun r0 => k (.arr (.vecs 73 3 r0))) := by kernel_rfl

theorem spec_HoldFree_fn : PM.FnIs Try.prog 49 Try.f49 := .of Try.func49 (by kernel_rfl) (by kernel_rfl)
theorem spec_HoldFree_g : PM.GOk Try.prog cx 49 ⟨[], spec_HoldFree_w (spec_HoldFree PM.std), none⟩ := by
  refine ⟨spec_HoldFree_fn.enter, fun _ ds k r h => ?_, fun hm => absurd rfl hm, fun _ e => (by cases e)⟩
  change spec_HoldFree_w (spec_HoldFree PM.std) ds k = some r at h
  unfold spec_HoldFree_w at h
  split at h
  · exact PM.pfun_ok (E := spec_HoldFree_E PM.std (spec_HoldsOk PM.std)) (L := fun n => spec_HoldFree_L PM.std (spec_HoldsOk PM.std) n) (N := PM.std.fuel) cx_ok (.cons spec_HoldsOk_g .nil) mixed .nil spec_HoldFree_fn (by kernel_rfl) ⟨rfl, fun cur σ K => by
      dsimp only [spec_HoldFree_L]
      split <;> rfl, fun n cur σ K r h => by
      dsimp only [spec_HoldFree_L] at h
      split at h
      · exact (spec_HoldFree_l0_ok PM.std (spec_HoldsOk PM.std) n _ _ _ _ _ K).symm.trans h
      · cases h⟩
      ((spec_HoldFree_ok PM.std (spec_HoldsOk PM.std) _ _ k).trans h)
  · cases h

abbrev impl_copyHolds_T := (List (List Int)) → ((List (List Int)) → PM.R) → PM.R
noncomputable def impl_copyHolds_w (c : impl_copyHolds_T) (ds : List PM.V) (k : PM.V → PM.R) : PM.R :=
  match ds with
  | [.arr (.vecs 73 3 l)] => c l (fun r0 => k (.arr (.vecs 73 3 r0)))
  | _ => none
noncomputable def impl_copyHolds_f (A : PM.Prims) (l : List (List Int)) (k : (List (List Int)) → PM.R) : PM.R :=
  bif (A.room (A.vlen []) (A.vlen l)) then
    k (A.vapp [] l)
  else
    none
noncomputable def impl_copyHolds (A : PM.Prims) : impl_copyHolds_T := impl_copyHolds_f A
noncomputable def impl_copyHolds_L (A : PM.Prims) (n : Nat) : PM.Lam := fun cur σ K =>
  match cur, σ, K with
  | _, _, _ => none
noncomputable def impl_copyHolds_E (A : PM.Prims) : PM.Env := ⟨[], [], [], [(0, [0]), (1, [2])], impl_copyHolds_L A A.fuel⟩
theorem impl_copyHolds_ok (A : PM.Prims) (l : List (List Int)) (k : PM.V → PM.R) : PM.pfun A cx [] (impl_copyHolds_E A) Go.Proofs.Try.f113 [.arr (.vecs 73 3 l)] k = impl_copyHolds_f A l (fun r0 => k (.arr (.vecs 73 3 r0))) := by kernel_rfl

theorem impl_copyHolds_fn : PM.FnIs Try.prog 113 Try.f113 := .of Try.func113 (by kernel_rfl) (by kernel_rfl)
theorem impl_copyHolds_g : PM.GOk Try.prog cx 113 ⟨[], impl_copyHolds_w (impl_copyHolds PM.std), none⟩ := by
  refine ⟨impl_copyHolds_fn.enter, fun _ ds k r h => ?_, fun hm => absurd rfl hm, fun _ e => (by cases e)⟩
  change impl_copyHolds_w (impl_copyHolds PM.std) ds k = some r at h
  unfold impl_copyHolds_w at h
  split at h
  · exact PM.pfun_ok (E := impl_copyHolds_E PM.std) (L := fun n => impl_copyHolds_L PM.std n) (N := PM.std.fuel) cx_ok .nil mixed .nil impl_copyHolds_fn (by kernel_rfl) ⟨rfl, fun _ _ _ => rfl, fun n cur σ K r h => by cases h⟩
      ((impl_copyHolds_ok PM.std _ k).trans h)
  · cases h

abbrev impl_HoldFree_T := (List (List Int)) → (Int) → ((List (List Int)) → PM.R) → PM.R
noncomputable def impl_HoldFree_w (c : impl_HoldFree_T) (ds : List PM.V) (k : PM.V → PM.R) : PM.R :=
  match ds with
  | [.arr (.vecs 73 3 l), .int .i64 who] => c l who (fun r0 => k (.arr (.vecs 73 3 r0)))
  | _ => none
noncomputable def impl_HoldFree_f (A : PM.Prims) (c_113 : impl_copyHolds_T) (c_39 : impl_HoldsOk_T) (c_114 : slices_DeleteFunc___impl_Hold_impl_Hold__T) (l : List (List Int)) (who : Int) (k : (List (List Int)) → PM.R) : PM.R :=
  c_113 l (fun r1 =>
    c_39 l (fun r2 =>
      bif (A.not r2) then
        k r1
      else
        c_114 r1 who (fun r3 =>
          k r3)))
noncomputable def impl_HoldFree (A : PM.Prims) : impl_HoldFree_T := impl_HoldFree_f A (impl_copyHolds A) (impl_HoldsOk A) (slices_DeleteFunc___impl_Hold_impl_Hold_ A)
noncomputable def impl_HoldFree_L (A : PM.Prims) (c_113 : impl_copyHolds_T) (c_39 : impl_HoldsOk_T) (c_114 : slices_DeleteFunc___impl_Hold_impl_Hold__T) (n : Nat) : PM.Lam := fun cur σ K =>
  match cur, σ, K with
  | _, _, _ => none
noncomputable def impl_HoldFree_E (A : PM.Prims) (c_113 : impl_copyHolds_T) (c_39 : impl_HoldsOk_T) (c_114 : slices_DeleteFunc___impl_Hold_impl_Hold__T) : PM.Env := ⟨[(113, ⟨[], impl_copyHolds_w c_113, none⟩), (39, ⟨[], impl_HoldsOk_w c_39, none⟩), (114, ⟨[], fun _ _ => none, some (PM.spDel 115 (slices_DeleteFunc___impl_Hold_impl_Hold__w c_114))⟩)], [], [], [(0, [0, 3]), (1, [0, 3, 5]), (2, [3, 5, 10]), (3, [4]), (4, [4])], impl_HoldFree_L A c_113 c_39 c_114 A.fuel⟩
theorem impl_HoldFree_ok (A : PM.Prims) (c_113 : impl_copyHolds_T) (c_39 : impl_HoldsOk_T) (c_114 : slices_DeleteFunc___impl_Hold_impl_Hold__T) (l : List (List Int)) (who : Int) (k : PM.V → PM.R) : PM.pfun A cx [] (impl_HoldFree_E A c_113 c_39 c_114) Go.Proofs.Try.f50 [.arr (.vecs 73 3 l), .int .i64 who] k = impl_HoldFree_f A c_113 c_39 c_114 l who (fun r0 => k (.arr (.vecs 73 3 r0))) := by kernel_rfl

theorem impl_HoldFree_fn : PM.FnIs Try.prog 50 Try.f50 := .of Try.func50 (by kernel_rfl) (by kernel_rfl)
theorem impl_HoldFree_g : PM.GOk Try.prog cx 50 ⟨[], impl_HoldFree_w (impl_HoldFree PM.std), none⟩ := by
  refine ⟨impl_HoldFree_fn.enter, fun _ ds k r h => ?_, fun hm => absurd rfl hm, fun _ e => (by cases e)⟩
  change impl_HoldFree_w (impl_HoldFree PM.std) ds k = some r at h
  unfold impl_HoldFree_w at h
  split at h
  · exact PM.pfun_ok (E := impl_HoldFree_E PM.std (impl_copyHolds PM.std) (impl_HoldsOk PM.std) (slices_DeleteFunc___impl_Hold_impl_Hold_ PM.std)) (L := fun n => impl_HoldFree_L PM.std (impl_copyHolds PM.std) (impl_HoldsOk PM.std) (slices_DeleteFunc___impl_Hold_impl_Hold_ PM.std) n) (N := PM.std.fuel) cx_ok (.cons impl_copyHolds_g (.cons impl_HoldsOk_g (.cons slices_DeleteFunc___impl_Hold_impl_Hold__g .nil))) mixed .nil impl_HoldFree_fn (by kernel_rfl) ⟨rfl, fun _ _ _ => rfl, fun n cur σ K r h => by cases h⟩
      ((impl_HoldFree_ok PM.std (impl_copyHolds PM.std) (impl_HoldsOk PM.std) (slices_DeleteFunc___impl_Hold_impl_Hold_ PM.std) _ _ k).trans h)
  · cases h

abbrev laws_heldHoldS_T := (List (List Int)) → (Int) → ((Int) → PM.R) → PM.R
noncomputable def laws_heldHoldS_w (c : laws_heldHoldS_T) (ds : List PM.V) (k : PM.V → PM.R) : PM.R :=
  match ds with
  | [.arr (.vecs 73 3 a), .int .i64 k_] => c a k_ (fun r0 => k (.int .i64 r0))
  | _ => none
noncomputable def laws_heldHoldS_l0 (A : PM.Prims) : Nat → (List (List Int)) → (Int) → (Int) → ((Int) → PM.R) → ((Int) → PM.R) → PM.R
  | 0, _, _, _, _, _ => none
  | n + 1, a1, k2, i3, kret_0, kx0_0 =>
    bif (A.lt i3 (A.vlen a1)) then
      bif (A.inb i3 (A.vlen a1)) then
        bif (A.not (A.eq (A.vget a1 i3 0) k2)) then
          kret_0 (-1)
        else
          bif (A.inb i3 (A.vlen a1)) then
            bif (A.not (A.eq (A.vget a1 i3 1) (A.add .i64 k2 1))) then
              kret_0 (-1)
            else
              bif (A.inb i3 (A.vlen a1)) then
                bif (A.not (A.eq (A.vget a1 i3 2) (A.add .i64 (A.add .i64 k2 1) 1))) then
                  kret_0 (-1)
                else
                  laws_heldHoldS_l0 A n a1 (A.add .i64 (A.add .i64 (A.add .i64 k2 1) 1) 1) (A.add .i64 i3 1) kret_0 kx0_0
              else
                none
          else
            none
      else
        none
    else
      kx0_0 k2
noncomputable def laws_heldHoldS_f (A : PM.Prims) (a : List (List Int)) (k_ : Int) (k : (Int) → PM.R) : PM.R :=
  laws_heldHoldS_l0 A A.fuel a k_ 0 (fun t446 =>
    k t446) (fun k57 =>
    k k57)
noncomputable def laws_heldHoldS (A : PM.Prims) : laws_heldHoldS_T := laws_heldHoldS_f A
noncomputable def laws_heldHoldS_L (A : PM.Prims) (n : Nat) : PM.Lam := fun cur σ K =>
  match cur, σ, K with
  | 0, ⟨[(0, .arr (.vecs 73 3 a1)), (1, .int .i64 k2), (5, .int .i64 i3)], []⟩, K => laws_heldHoldS_l0 A n a1 k2 i3 (fun t44 => K .ret ⟨[(4, .int .i64 t44)], []⟩) (fun k5 => K (.exit 0) ⟨[(1, .int .i64 k5)], []⟩)
  | _, _, _ => none
noncomputable def laws_heldHoldS_E (A : PM.Prims) : PM.Env := ⟨[], [], [(0, [0, 1, 5], [1, 4])], [(0, [0, 1]), (1, [0, 1, 5]), (2, [0, 1, 5, 9]), (3, [0, 1, 5]), (4, [0, 1, 5, 18]), (5, [4]), (6, [0, 1, 5]), (7, [0, 1, 5, 27]), (8, [4]), (9, [0, 1, 5]), (10, [0, 1, 5, 36]), (11, [4]), (12, [0, 1, 5]), (13, [4])], laws_heldHoldS_L A A.fuel⟩
theorem laws_heldHoldS_l0_ok (A : PM.Prims) (n : Nat) (a1 : List (List Int)) (k2 : Int) (i3 : Int) (K : Go.Exit → PM.S → PM.R) : laws_heldHoldS_L A (n + 1) 0 ⟨[(0, .arr (.vecs 73 3 a1)), (1, .int .i64 k2), (5, .int .i64 i3)], []⟩ K = PM.roundF A cx (PM.runD A cx (laws_heldHoldS_E A).inl (laws_heldHoldS_E A).Γ 3) (laws_heldHoldS_E A) (laws_heldHoldS_L A n) 0 Go.Proofs.Try.f51 ⟨[(0, .arr (.vecs 73 3 a1)), (1, .int .i64 k2), (5, .int .i64 i3)], []⟩ K := by kernel_rfl
theorem laws_heldHoldS_ok (A : PM.Prims) (a : List (List Int)) (k_ : Int) (k : PM.V → PM.R) : PM.pfun A cx [] (laws_heldHoldS_E A) Go.Proofs.Try.f51 [.arr (.vecs 73 3 a), .int .i64 k_] k = laws_heldHoldS_f A a k_ (fun r0 => k (.int .i64 r0)) := by kernel_rfl

theorem laws_heldHoldS_fn : PM.FnIs Try.prog 51 Try.f51 := .of Try.func51 (by kernel_rfl) (by kernel_rfl)
theorem laws_heldHoldS_g : PM.GOk Try.prog cx 51 ⟨[], laws_heldHoldS_w (laws_heldHoldS PM.std), none⟩ := by
  refine ⟨laws_heldHoldS_fn.enter, fun _ ds k r h => ?_, fun hm => absurd rfl hm, fun _ e => (by cases e)⟩
  change laws_heldHoldS_w (laws_heldHoldS PM.std) ds k = some r at h
  unfold laws_heldHoldS_w at h
  split at h
  · exact PM.pfun_ok (E := laws_heldHoldS_E PM.std) (L := fun n => laws_heldHoldS_L PM.std n) (N := PM.std.fuel) cx_ok .nil mixed .nil laws_heldHoldS_fn (by kernel_rfl) ⟨rfl, fun cur σ K => by
      dsimp only [laws_heldHoldS_L]
      split <;> rfl, fun n cur σ K r h => by
      dsimp only [laws_heldHoldS_L] at h
      split at h
      · exact (laws_heldHoldS_l0_ok PM.std n _ _ _ K).symm.trans h
      · cases h⟩
      ((laws_heldHoldS_ok PM.std _ _ k).trans h)
  · cases h

abbrev laws_FnExactHoldFree_T := (List (List Int)) → (Int) → ((Bool) → PM.R) → PM.R
noncomputable def laws_FnExactHoldFree_w (c : laws_FnExactHoldFree_T) (ds : List PM.V) (k : PM.V → PM.R) : PM.R :=
  match ds with
  | [.arr (.vecs 124 3 __), .int .i64 a] => c __ a (fun r0 => k (.bool r0))
  | _ => none
noncomputable def laws_FnExactHoldFree_f (A : PM.Prims) (c_36 : laws_szHoldS_T) (c_38 : laws_toHoldS_T) (c_49 : spec_HoldFree_T) (c_50 : impl_HoldFree_T) (c_40 : laws_eqHoldS_T) (c_46 : laws_markHoldS_T) (c_51 : laws_heldHoldS_T) (__ : List (List Int)) (a : Int) (k : (Bool) → PM.R) : PM.R :=
  c_36 __ 1048576 (fun r1 =>
    bif (A.lt r1 0) then
      k true
    else
      c_38 __ (fun r2 =>
        c_49 r2 a (fun r3 =>
          c_38 __ (fun r4 =>
            c_50 r4 a (fun r5 =>
              c_40 r5 r3 (fun r6 =>
                bif (A.not r6) then
                  k false
                else
                  c_38 __ (fun r7 =>
                    c_40 r4 r7 (fun r8 =>
                      bif (A.not r8) then
                        k false
                      else
                        c_46 r4 1 (fun r9 r10 =>
                          bif (A.lt r9 0) then
                            k false
                          else
                            c_40 r5 r3 (fun r11 =>
                              bif (A.not r11) then
                                k false
                              else
                                c_46 r5 1 (fun r12 r13 =>
                                  c_51 r13 1 (fun r14 =>
                                    bif (A.lt r14 0) then
                                      k false
                                    else
                                      bif (A.not (A.eq r14 r12)) then
                                        k false
                                      else
                                        c_38 __ (fun r15 =>
                                          c_50 r15 a (fun r16 =>
                                            c_40 r16 r3 (fun r17 =>
                                              bif (A.not r17) then
                                                k false
                                              else
                                                c_51 r13 1 (fun r18 =>
                                                  bif (A.lt r18 0) then
                                                    k false
                                                  else
                                                    bif (A.not (A.eq r18 r12)) then
                                                      k false
                                                    else
                                                      k true))))))))))))))))
noncomputable def laws_FnExactHoldFree (A : PM.Prims) : laws_FnExactHoldFree_T := laws_FnExactHoldFree_f A (laws_szHoldS A) (laws_toHoldS A) (spec_HoldFree A) (impl_HoldFree A) (laws_eqHoldS A) (laws_markHoldS A) (laws_heldHoldS A)
noncomputable def laws_FnExactHoldFree_L (A : PM.Prims) (c_36 : laws_szHoldS_T) (c_38 : laws_toHoldS_T) (c_49 : spec_HoldFree_T) (c_50 : impl_HoldFree_T) (c_40 : laws_eqHoldS_T) (c_46 : laws_markHoldS_T) (c_51 : laws_heldHoldS_T) (n : Nat) : PM.Lam := fun cur σ K =>
  match cur, σ, K with
  | _, _, _ => none
noncomputable def laws_FnExactHoldFree_E (A : PM.Prims) (c_36 : laws_szHoldS_T) (c_38 : laws_toHoldS_T) (c_49 : spec_HoldFree_T) (c_50 : impl_HoldFree_T) (c_40 : laws_eqHoldS_T) (c_46 : laws_markHoldS_T) (c_51 : laws_heldHoldS_T) : PM.Env := ⟨[(36, ⟨[], laws_szHoldS_w c_36, none⟩), (38, ⟨[], laws_toHoldS_w c_38, none⟩), (49, ⟨[], spec_HoldFree_w c_49, none⟩), (50, ⟨[], impl_HoldFree_w c_50, none⟩), (40, ⟨[], laws_eqHoldS_w c_40, none⟩), (46, ⟨[true, false], laws_markHoldS_w c_46, none⟩), (51, ⟨[], laws_heldHoldS_w c_51, none⟩)], [], [], [(0, [0, 1]), (1, [0, 1, 5]), (2, [0, 1, 5]), (3, [0, 1, 17]), (4, [4]), (5, [0, 1, 6]), (6, [0, 1, 6, 7]), (7, [0, 1, 6, 7, 8]), (8, [0, 1, 6, 7, 8, 30]), (9, [4]), (10, [0, 1, 6, 7, 8, 35]), (11, [4]), (12, [0, 1, 6, 7, 8, 9]), (13, [0, 1, 6, 8, 9]), (14, [0, 1, 6, 8, 46]), (15, [4]), (16, [0, 1, 6, 8, 10]), (17, [0, 1, 6, 8, 10]), (18, [0, 1, 6, 8, 10, 11]), (19, [0, 1, 6, 8, 10, 11]), (20, [0, 1, 6, 8, 10, 11, 54]), (21, [4]), (22, [0, 1, 6, 8, 10, 57]), (23, [4]), (24, [6, 8, 10, 12]), (25, [8, 10, 65]), (26, [4]), (27, [8, 10, 11]), (28, [10, 11]), (29, [10, 11, 70]), (30, [4]), (31, [73]), (32, [4]), (33, [4])], laws_FnExactHoldFree_L A c_36 c_38 c_49 c_50 c_40 c_46 c_51 A.fuel⟩
theorem laws_FnExactHoldFree_ok (A : PM.Prims) (c_36 : laws_szHoldS_T) (c_38 : laws_toHoldS_T) (c_49 : spec_HoldFree_T) (c_50 : impl_HoldFree_T) (c_40 : laws_eqHoldS_T) (c_46 : laws_markHoldS_T) (c_51 : laws_heldHoldS_T) (__ : List (List Int)) (a : Int) (k : PM.V → PM.R) : PM.pfun A cx [] (laws_FnExactHoldFree_E A c_36 c_38 c_49 c_50 c_40 c_46 c_51) Go.Proofs.Try.f10 [.arr (.vecs 124 3 __), .int .i64 a] k = laws_FnExactHoldFree_f A c_36 c_38 c_49 c_50 c_40 c_46 c_51 __ a (fun r0 => k (.bool r0)) := by kernel_rfl

theorem laws_FnExactHoldFree_fn : PM.FnIs Try.prog 10 Try.f10 := .of Try.func10 (by kernel_rfl) (by kernel_rfl)
theorem laws_FnExactHoldFree_g : PM.GOk Try.prog cx 10 ⟨[], laws_FnExactHoldFree_w (laws_FnExactHoldFree PM.std), none⟩ := by
  refine ⟨laws_FnExactHoldFree_fn.enter, fun _ ds k r h => ?_, fun hm => absurd rfl hm, fun _ e => (by cases e)⟩
  change laws_FnExactHoldFree_w (laws_FnExactHoldFree PM.std) ds k = some r at h
  unfold laws_FnExactHoldFree_w at h
  split at h
  · exact PM.pfun_ok (E := laws_FnExactHoldFree_E PM.std (laws_szHoldS PM.std) (laws_toHoldS PM.std) (spec_HoldFree PM.std) (impl_HoldFree PM.std) (laws_eqHoldS PM.std) (laws_markHoldS PM.std) (laws_heldHoldS PM.std)) (L := fun n => laws_FnExactHoldFree_L PM.std (laws_szHoldS PM.std) (laws_toHoldS PM.std) (spec_HoldFree PM.std) (impl_HoldFree PM.std) (laws_eqHoldS PM.std) (laws_markHoldS PM.std) (laws_heldHoldS PM.std) n) (N := PM.std.fuel) cx_ok (.cons laws_szHoldS_g (.cons laws_toHoldS_g (.cons spec_HoldFree_g (.cons impl_HoldFree_g (.cons laws_eqHoldS_g (.cons laws_markHoldS_g (.cons laws_heldHoldS_g .nil))))))) mixed .nil laws_FnExactHoldFree_fn (by kernel_rfl) ⟨rfl, fun _ _ _ => rfl, fun n cur σ K r h => by cases h⟩
      ((laws_FnExactHoldFree_ok PM.std (laws_szHoldS PM.std) (laws_toHoldS PM.std) (spec_HoldFree PM.std) (impl_HoldFree PM.std) (laws_eqHoldS PM.std) (laws_markHoldS PM.std) (laws_heldHoldS PM.std) _ _ k).trans h)
  · cases h

abbrev spec_HoldsBy_T := (List (List Int)) → (Int) → ((List Int) → PM.R) → PM.R
noncomputable def spec_HoldsBy_w (c : spec_HoldsBy_T) (ds : List PM.V) (k : PM.V → PM.R) : PM.R :=
  match ds with
  | [.arr (.vecs 73 3 l), .int .i64 who] => c l who (fun r0 => k (.arr (.ints 3 .i64 r0)))
  | _ => none
noncomputable def spec_HoldsBy_l0 (A : PM.Prims) (c_41 : spec_HoldOf_T) : Nat → (List (List Int)) → (Int) → (Int) → (List Int) → ((List Int) → PM.R) → PM.R
  | 0, _, _, _, _, _ => none
  | n + 1, l1, who2, w3, o04, kx0_0 =>
    bif (A.lt w3 9) then
      c_41 l1 who2 w3 (fun r5 =>
        bif (A.lt 0 r5) then
          bif (A.room (A.ilen o04) (A.ilen [w3])) then
            spec_HoldsBy_l0 A c_41 n l1 who2 (A.add .i64 w3 1) (A.iapp o04 [w3]) kx0_0
          else
            none
        else
          spec_HoldsBy_l0 A c_41 n l1 who2 (A.add .i64 w3 1) o04 kx0_0)
    else
      kx0_0 o04
noncomputable def spec_HoldsBy_f (A : PM.Prims) (c_41 : spec_HoldOf_T) (l : List (List Int)) (who : Int) (k : (List Int) → PM.R) : PM.R :=
  spec_HoldsBy_l0 A c_41 A.fuel l who 0 [] (fun o067 =>
    k o067)
noncomputable def spec_HoldsBy (A : PM.Prims) : spec_HoldsBy_T := spec_HoldsBy_f A (spec_HoldOf A)
noncomputable def spec_HoldsBy_L (A : PM.Prims) (c_41 : spec_HoldOf_T) (n : Nat) : PM.Lam := fun cur σ K =>
  match cur, σ, K with
  | 0, ⟨[(0, .arr (.vecs 73 3 l1)), (1, .int .i64 who2), (5, .sref 0), (6, .int .i64 w3)], [(0, .arr true (.ints 3 .i64 o04))]⟩, K => spec_HoldsBy_l0 A c_41 n l1 who2 w3 o04 (fun o06 => K (.exit 0) ⟨[(5, .sref 0)], [(0, .arr true (.ints 3 .i64 o06))]⟩)
  | _, _, _ => none
noncomputable def spec_HoldsBy_E (A : PM.Prims) (c_41 : spec_HoldOf_T) : PM.Env := ⟨[(41, ⟨[], spec_HoldOf_w c_41, none⟩)], [], [(0, [0, 1, 5, 6], [4, 5])], [(0, [0, 1]), (1, [0, 1, 5]), (2, [0, 1, 5, 6]), (3, [0, 1, 5, 6, 9]), (4, [0, 1, 5, 6]), (5, [0, 1, 5, 6, 16]), (6, [0, 1, 5, 6]), (7, [4])], spec_HoldsBy_L A c_41 A.fuel⟩
theorem spec_HoldsBy_l0_ok (A : PM.Prims) (c_41 : spec_HoldOf_T) (n : Nat) (l1 : List (List Int)) (who2 : Int) (w3 : Int) (o04 : List Int) (K : Go.Exit → PM.S → PM.R) : spec_HoldsBy_L A c_41 (n + 1) 0 ⟨[(0, .arr (.vecs 73 3 l1)), (1, .int .i64 who2), (5, .sref 0), (6, .int .i64 w3)], [(0, .arr true (.ints 3 .i64 o04))]⟩ K = PM.roundF A cx (PM.runD A cx (spec_HoldsBy_E A c_41).inl (spec_HoldsBy_E A c_41).Γ 3) (spec_HoldsBy_E A c_41) (spec_HoldsBy_L A c_41 n) 0 Go.Proofs.Try.f52 ⟨[(0, .arr (.vecs 73 3 l1)), (1, .int .i64 who2), (5, .sref 0), (6, .int .i64 w3)], [(0, .arr true (.ints 3 .i64 o04))]⟩ K := by kernel_rfl
theorem spec_HoldsBy_ok (A : PM.Prims) (c_41 : spec_HoldOf_T) (l : List (List Int)) (who : Int) (k : PM.V → PM.R) : PM.pfun A cx [] (spec_HoldsBy_E A c_41) Go.Proofs.Try.f52 [.arr (.vecs 73 3 l), .int .i64 who] k = spec_HoldsBy_f A c_41 l who (fun r0 => k (.arr (.ints 3 .i64 r0))) := by kernel_rfl

theorem spec_HoldsBy_fn : PM.FnIs Try.prog 52 Try.f52 := .of Try.func52 (by kernel_rfl) (by kernel_rfl)
theorem spec_HoldsBy_g : PM.GOk Try.prog cx 52 ⟨[], spec_HoldsBy_w (spec_HoldsBy PM.std), none⟩ := by
  refine ⟨spec_HoldsBy_fn.enter, fun _ ds k r h => ?_, fun hm => absurd rfl hm, fun _ e => (by cases e)⟩
  change spec_HoldsBy_w (spec_HoldsBy PM.std) ds k = some r at h
  unfold spec_HoldsBy_w at h
  split at h
  · exact PM.pfun_ok (E := spec_HoldsBy_E PM.std (spec_HoldOf PM.std)) (L := fun n => spec_HoldsBy_L PM.std (spec_HoldOf PM.std) n) (N := PM.std.fuel) cx_ok (.cons spec_HoldOf_g .nil) mixed .nil spec_HoldsBy_fn (by kernel_rfl) ⟨rfl, fun cur σ K => by
      dsimp only [spec_HoldsBy_L]
      split <;> rfl, fun n cur σ K r h => by
      dsimp only [spec_HoldsBy_L] at h
      split at h
      · exact (spec_HoldsBy_l0_ok PM.std (spec_HoldOf PM.std) n _ _ _ _ K).symm.trans h
      · cases h⟩
      ((spec_HoldsBy_ok PM.std (spec_HoldOf PM.std) _ _ k).trans h)
  · cases h

abbrev impl_HoldsBy_T := (List (List Int)) → (Int) → ((List Int) → PM.R) → PM.R
noncomputable def impl_HoldsBy_w (c : impl_HoldsBy_T) (ds : List PM.V) (k : PM.V → PM.R) : PM.R :=
  match ds with
  | [.arr (.vecs 73 3 l), .int .i64 who] => c l who (fun r0 => k (.arr (.ints 3 .i64 r0)))
  | _ => none
noncomputable def impl_HoldsBy_l0 (A : PM.Prims) (c_39 : impl_HoldsOk_T) : Nat → (Int) → (List (List Int)) → (Int) → (Int) → (List Int) → ((List Int) → PM.R) → PM.R
  | 0, _, _, _, _, _, _ => none
  | n + 1, who2, t123, t134, t145, o06, kx0_0 =>
    bif (A.lt t145 t134) then
      bif (A.inb t145 (A.vlen t123)) then
        bif (A.eq (A.vget t123 t145 0) who2) then
          bif (A.room (A.ilen o06) (A.ilen [(A.vget t123 t145 1)])) then
            impl_HoldsBy_l0 A c_39 n who2 t123 t134 (A.add .i64 t145 1) (A.iapp o06 [(A.vget t123 t145 1)]) kx0_0
          else
            none
        else
          impl_HoldsBy_l0 A c_39 n who2 t123 t134 (A.add .i64 t145 1) o06 kx0_0
      else
        none
    else
      kx0_0 o06
noncomputable def impl_HoldsBy_f (A : PM.Prims) (c_39 : impl_HoldsOk_T) (l : List (List Int)) (who : Int) (k : (List Int) → PM.R) : PM.R :=
  c_39 l (fun r1 =>
    bif (A.not r1) then
      k []
    else
      impl_HoldsBy_l0 A c_39 A.fuel who l (A.vlen l) 0 [] (fun o078 =>
        k o078))
noncomputable def impl_HoldsBy (A : PM.Prims) : impl_HoldsBy_T := impl_HoldsBy_f A (impl_HoldsOk A)
noncomputable def impl_HoldsBy_L (A : PM.Prims) (c_39 : impl_HoldsOk_T) (n : Nat) : PM.Lam := fun cur σ K =>
  match cur, σ, K with
  | 0, ⟨[(1, .int .i64 who2), (5, .sref 0), (12, .arr (.vecs 73 3 t123)), (13, .int .i64 t134), (14, .int .i64 t145)], [(0, .arr true (.ints 3 .i64 o06))]⟩, K => impl_HoldsBy_l0 A c_39 n who2 t123 t134 t145 o06 (fun o07 => K (.exit 0) ⟨[(5, .sref 0)], [(0, .arr true (.ints 3 .i64 o07))]⟩)
  | _, _, _ => none
noncomputable def impl_HoldsBy_E (A : PM.Prims) (c_39 : impl_HoldsOk_T) : PM.Env := ⟨[(39, ⟨[], impl_HoldsOk_w c_39, none⟩)], [], [(0, [1, 5, 12, 13, 14], [4, 5])], [(0, [0, 1]), (1, [0, 1, 10]), (2, [4]), (3, [0, 1, 5]), (4, [1, 5, 12, 13, 14]), (5, [1, 5, 12, 13, 14, 15]), (6, [1, 5, 7, 12, 13, 14]), (7, [1, 5, 7, 12, 13, 14, 21]), (8, [1, 5, 12, 13, 14]), (9, [1, 5, 12, 13, 14]), (10, [4])], impl_HoldsBy_L A c_39 A.fuel⟩
theorem impl_HoldsBy_l0_ok (A : PM.Prims) (c_39 : impl_HoldsOk_T) (n : Nat) (who2 : Int) (t123 : List (List Int)) (t134 : Int) (t145 : Int) (o06 : List Int) (K : Go.Exit → PM.S → PM.R) : impl_HoldsBy_L A c_39 (n + 1) 0 ⟨[(1, .int .i64 who2), (5, .sref 0), (12, .arr (.vecs 73 3 t123)), (13, .int .i64 t134), (14, .int .i64 t145)], [(0, .arr true (.ints 3 .i64 o06))]⟩ K = PM.roundF A cx (PM.runD A cx (impl_HoldsBy_E A c_39).inl (impl_HoldsBy_E A c_39).Γ 3) (impl_HoldsBy_E A c_39) (impl_HoldsBy_L A c_39 n) 0 Go.Proofs.Try.f53 ⟨[(1, .int .i64 who2), (5, .sref 0), (12, .arr (.vecs 73 3 t123)), (13, .int .i64 t134), (14, .int .i64 t145)], [(0, .arr true (.ints 3 .i64 o06))]⟩ K := by kernel_rfl
theorem impl_HoldsBy_ok (A : PM.Prims) (c_39 : impl_HoldsOk_T) (l : List (List Int)) (who : Int) (k : PM.V → PM.R) : PM.pfun A cx [] (impl_HoldsBy_E A c_39) Go.Proofs.Try.f53 [.arr (.vecs 73 3 l), .int .i64 who] k = impl_HoldsBy_f A c_39 l who (fun r0 => k (.arr (.ints 3 .i64 r0))) := by kernel_rfl

theorem impl_HoldsBy_fn : PM.FnIs Try.prog 53 Try.f53 := .of Try.func53 (by kernel_rfl) (by kernel_rfl)
theorem impl_HoldsBy_g : PM.GOk Try.prog cx 53 ⟨[], impl_HoldsBy_w (impl_HoldsBy PM.std), none⟩ := by
  refine ⟨impl_HoldsBy_fn.enter, fun _ ds k r h => ?_, fun hm => absurd rfl hm, fun _ e => (by cases e)⟩
  change impl_HoldsBy_w (impl_HoldsBy PM.std) ds k = some r at h
  unfold impl_HoldsBy_w at h
  split at h
  · exact PM.pfun_ok (E := impl_HoldsBy_E PM.std (impl_HoldsOk PM.std)) (L := fun n => impl_HoldsBy_L PM.std (impl_HoldsOk PM.std) n) (N := PM.std.fuel) cx_ok (.cons impl_HoldsOk_g .nil) mixed .nil impl_HoldsBy_fn (by kernel_rfl) ⟨rfl, fun cur σ K => by
      dsimp only [impl_HoldsBy_L]
      split <;> rfl, fun n cur σ K r h => by
      dsimp only [impl_HoldsBy_L] at h
      split at h
      · exact (impl_HoldsBy_l0_ok PM.std (impl_HoldsOk PM.std) n _ _ _ _ _ K).symm.trans h
      · cases h⟩
      ((impl_HoldsBy_ok PM.std (impl_HoldsOk PM.std) _ _ k).trans h)
  · cases h

abbrev laws_FnExactHoldsBy_T := (List (List Int)) → (Int) → ((Bool) → PM.R) → PM.R
noncomputable def laws_FnExactHoldsBy_w (c : laws_FnExactHoldsBy_T) (ds : List PM.V) (k : PM.V → PM.R) : PM.R :=
  match ds with
  | [.arr (.vecs 124 3 __), .int .i64 a] => c __ a (fun r0 => k (.bool r0))
  | _ => none
noncomputable def laws_FnExactHoldsBy_f (A : PM.Prims) (c_36 : laws_szHoldS_T) (c_38 : laws_toHoldS_T) (c_45 : laws_eqIntS_T) (c_40 : laws_eqHoldS_T) (c_46 : laws_markHoldS_T) (c_47 : laws_markIntS_T) (c_48 : laws_heldIntS_T) (c_52 : spec_HoldsBy_T) (c_53 : impl_HoldsBy_T) (__ : List (List Int)) (a : Int) (k : (Bool) → PM.R) : PM.R :=
  c_36 __ 1048576 (fun r1 =>
    bif (A.lt r1 0) then
      k true
    else
      c_38 __ (fun r2 =>
        c_52 r2 a (fun r3 =>
          c_38 __ (fun r4 =>
            c_53 r4 a (fun r5 =>
              c_45 r5 r3 (fun r6 =>
                bif (A.not r6) then
                  k false
                else
                  c_38 __ (fun r7 =>
                    c_40 r4 r7 (fun r8 =>
                      bif (A.not r8) then
                        k false
                      else
                        c_46 r4 1 (fun r9 r10 =>
                          bif (A.lt r9 0) then
                            k false
                          else
                            c_45 r5 r3 (fun r11 =>
                              bif (A.not r11) then
                                k false
                              else
                                c_47 r5 1 (fun r12 r13 =>
                                  c_48 r13 1 (fun r14 =>
                                    bif (A.lt r14 0) then
                                      k false
                                    else
                                      bif (A.not (A.eq r14 r12)) then
                                        k false
                                      else
                                        c_38 __ (fun r15 =>
                                          c_53 r15 a (fun r16 =>
                                            c_45 r16 r3 (fun r17 =>
                                              bif (A.not r17) then
                                                k false
                                              else
                                                c_48 r13 1 (fun r18 =>
                                                  bif (A.lt r18 0) then
                                                    k false
                                                  else
                                                    bif (A.not (A.eq r18 r12)) then
                                                      k false
                                                    else
                                                      k true))))))))))))))))
noncomputable def laws_FnExactHoldsBy (A : PM.Prims) : laws_FnExactHoldsBy_T := laws_FnExactHoldsBy_f A (laws_szHoldS A) (laws_toHoldS A) (laws_eqIntS A) (laws_eqHoldS A) (laws_markHoldS A) (laws_markIntS A) (laws_heldIntS A) (spec_HoldsBy A) (impl_HoldsBy A)
noncomputable def laws_FnExactHoldsBy_L (A : PM.Prims) (c_36 : laws_szHoldS_T) (c_38 : laws_toHoldS_T) (c_45 : laws_eqIntS_T) (c_40 : laws_eqHoldS_T) (c_46 : laws_markHoldS_T) (c_47 : laws_markIntS_T) (c_48 : laws_heldIntS_T) (c_52 : spec_HoldsBy_T) (c_53 : impl_HoldsBy_T) (n : Nat) : PM.Lam := fun cur σ K =>
  match cur, σ, K with
  | _, _, _ => none
noncomputable def laws_FnExactHoldsBy_E (A : PM.Prims) (c_36 : laws_szHoldS_T) (c_38 : laws_toHoldS_T) (c_45 : laws_eqIntS_T) (c_40 : laws_eqHoldS_T) (c_46 : laws_markHoldS_T) (c_47 : laws_markIntS_T) (c_48 : laws_heldIntS_T) (c_52 : spec_HoldsBy_T) (c_53 : impl_HoldsBy_T) : PM.Env := ⟨[(36, ⟨[], laws_szHoldS_w c_36, none⟩), (38, ⟨[], laws_toHoldS_w c_38, none⟩), (45, ⟨[], laws_eqIntS_w c_45, none⟩), (40, ⟨[], laws_eqHoldS_w c_40, none⟩), (46, ⟨[true, false], laws_markHoldS_w c_46, none⟩), (47, ⟨[true, false], laws_markIntS_w c_47, none⟩), (48, ⟨[], laws_heldIntS_w c_48, none⟩), (52, ⟨[], spec_HoldsBy_w c_52, none⟩), (53, ⟨[], impl_HoldsBy_w c_53, none⟩)], [], [], [(0, [0, 1]), (1, [0, 1, 5]), (2, [0, 1, 5]), (3, [0, 1, 17]), (4, [4]), (5, [0, 1, 6]), (6, [0, 1, 6, 7]), (7, [0, 1, 6, 7, 8]), (8, [0, 1, 6, 7, 8, 30]), (9, [4]), (10, [0, 1, 6, 7, 8, 35]), (11, [4]), (12, [0, 1, 6, 7, 8, 9]), (13, [0, 1, 6, 8, 9]), (14, [0, 1, 6, 8, 46]), (15, [4]), (16, [0, 1, 6, 8, 10]), (17, [0, 1, 6, 8, 10]), (18, [0, 1, 6, 8, 10, 11]), (19, [0, 1, 6, 8, 10, 11]), (20, [0, 1, 6, 8, 10, 11, 54]), (21, [4]), (22, [0, 1, 6, 8, 10, 57]), (23, [4]), (24, [6, 8, 10, 12]), (25, [8, 10, 65]), (26, [4]), (27, [8, 10, 11]), (28, [10, 11]), (29, [10, 11, 70]), (30, [4]), (31, [73]), (32, [4]), (33, [4])], laws_FnExactHoldsBy_L A c_36 c_38 c_45 c_40 c_46 c_47 c_48 c_52 c_53 A.fuel⟩
theorem laws_FnExactHoldsBy_ok (A : PM.Prims) (c_36 : laws_szHoldS_T) (c_38 : laws_toHoldS_T) (c_45 : laws_eqIntS_T) (c_40 : laws_eqHoldS_T) (c_46 : laws_markHoldS_T) (c_47 : laws_markIntS_T) (c_48 : laws_heldIntS_T) (c_52 : spec_HoldsBy_T) (c_53 : impl_HoldsBy_T) (__ : List (List Int)) (a : Int) (k : PM.V → PM.R) : PM.pfun A cx [] (laws_FnExactHoldsBy_E A c_36 c_38 c_45 c_40 c_46 c_47 c_48 c_52 c_53) Go.Proofs.Try.f11 [.arr (.vecs 124 3 __), .int .i64 a] k = laws_FnExactHoldsBy_f A c_36 c_38 c_45 c_40 c_46 c_47 c_48 c_52 c_53 __ a (fun r0 => k (.bool r0)) := by kernel_rfl

theorem laws_FnExactHoldsBy_fn : PM.FnIs Try.prog 11 Try.f11 := .of Try.func11 (by kernel_rfl) (by kernel_rfl)
theorem laws_FnExactHoldsBy_g : PM.GOk Try.prog cx 11 ⟨[], laws_FnExactHoldsBy_w (laws_FnExactHoldsBy PM.std), none⟩ := by
  refine ⟨laws_FnExactHoldsBy_fn.enter, fun _ ds k r h => ?_, fun hm => absurd rfl hm, fun _ e => (by cases e)⟩
  change laws_FnExactHoldsBy_w (laws_FnExactHoldsBy PM.std) ds k = some r at h
  unfold laws_FnExactHoldsBy_w at h
  split at h
  · exact PM.pfun_ok (E := laws_FnExactHoldsBy_E PM.std (laws_szHoldS PM.std) (laws_toHoldS PM.std) (laws_eqIntS PM.std) (laws_eqHoldS PM.std) (laws_markHoldS PM.std) (laws_markIntS PM.std) (laws_heldIntS PM.std) (spec_HoldsBy PM.std) (impl_HoldsBy PM.std)) (L := fun n => laws_FnExactHoldsBy_L PM.std (laws_szHoldS PM.std) (laws_toHoldS PM.std) (laws_eqIntS PM.std) (laws_eqHoldS PM.std) (laws_markHoldS PM.std) (laws_markIntS PM.std) (laws_heldIntS PM.std) (spec_HoldsBy PM.std) (impl_HoldsBy PM.std) n) (N := PM.std.fuel) cx_ok (.cons laws_szHoldS_g (.cons laws_toHoldS_g (.cons laws_eqIntS_g (.cons laws_eqHoldS_g (.cons laws_markHoldS_g (.cons laws_markIntS_g (.cons laws_heldIntS_g (.cons spec_HoldsBy_g (.cons impl_HoldsBy_g .nil))))))))) mixed .nil laws_FnExactHoldsBy_fn (by kernel_rfl) ⟨rfl, fun _ _ _ => rfl, fun n cur σ K r h => by cases h⟩
      ((laws_FnExactHoldsBy_ok PM.std (laws_szHoldS PM.std) (laws_toHoldS PM.std) (laws_eqIntS PM.std) (laws_eqHoldS PM.std) (laws_markHoldS PM.std) (laws_markIntS PM.std) (laws_heldIntS PM.std) (spec_HoldsBy PM.std) (impl_HoldsBy PM.std) _ _ k).trans h)
  · cases h

abbrev spec_HoldAsk_T := (List (List Int)) → (Int) → (Int) → (Int) → ((List (List Int)) → (Bool) → PM.R) → PM.R
noncomputable def spec_HoldAsk_w (c : spec_HoldAsk_T) (ds : List PM.V) (k : PM.V → PM.R) : PM.R :=
  match ds with
  | [.arr (.vecs 73 3 __), .int .i64 a, .int .i64 r, .int .i64 r_3] => c __ a r r_3 (fun r0 r1 => k (.tup [.arr (.vecs 73 3 r0), .bool r1]))
  | _ => none
noncomputable def spec_HoldAsk_l0 (A : PM.Prims) (c_94 : spec_l1In_T) (c_37 : spec_HoldsOk_T) (c_43 : spec_Blocks_T) (c_41 : spec_HoldOf_T) : Nat → (List (List Int)) → (Int) → (Int) → (Bool) → (Int) → (Int) → (Int) → (Int) → (List (List Int)) → ((Bool) → (Int) → (Int) → (Int) → (List (List Int)) → PM.R) → PM.R
  | 0, _, _, _, _, _, _, _, _, _, _ => none
  | n + 1, l7, who8, what9, done10, i11, o012, o013, o014, o115, kx0_0 =>
    bif (A.lt i11 (A.vlen l7)) then
      bif (A.inb i11 (A.vlen l7)) then
        bif (A.not done10) then
          bif (A.lt what9 (A.vget l7 i11 1)) then
            bif (A.room (A.vlen o115) (A.vlen [[o012, o013, o014]])) then
              bif (A.not (A.eq (A.vget l7 i11 1) what9)) then
                bif (A.room (A.vlen (A.vapp o115 [[o012, o013, o014]])) (A.vlen [[(A.vget l7 i11 0), (A.vget l7 i11 1), (A.vget l7 i11 2)]])) then
                  spec_HoldAsk_l0 A c_94 c_37 c_43 c_41 n l7 who8 what9 true (A.add .i64 i11 1) o012 o013 o014 (A.vapp (A.vapp o115 [[o012, o013, o014]]) [[(A.vget l7 i11 0), (A.vget l7 i11 1), (A.vget l7 i11 2)]]) kx0_0
                else
                  none
              else
                bif (A.not (A.eq (A.vget l7 i11 0) who8)) then
                  bif (A.room (A.vlen (A.vapp o115 [[o012, o013, o014]])) (A.vlen [[(A.vget l7 i11 0), (A.vget l7 i11 1), (A.vget l7 i11 2)]])) then
                    spec_HoldAsk_l0 A c_94 c_37 c_43 c_41 n l7 who8 what9 true (A.add .i64 i11 1) o012 o013 o014 (A.vapp (A.vapp o115 [[o012, o013, o014]]) [[(A.vget l7 i11 0), (A.vget l7 i11 1), (A.vget l7 i11 2)]]) kx0_0
                  else
                    none
                else
                  spec_HoldAsk_l0 A c_94 c_37 c_43 c_41 n l7 who8 what9 true (A.add .i64 i11 1) o012 o013 o014 (A.vapp o115 [[o012, o013, o014]]) kx0_0
            else
              none
          else
            bif (A.eq (A.vget l7 i11 1) what9) then
              bif (A.le who8 (A.vget l7 i11 0)) then
                bif (A.room (A.vlen o115) (A.vlen [[o012, o013, o014]])) then
                  bif (A.not (A.eq (A.vget l7 i11 1) what9)) then
                    bif (A.room (A.vlen (A.vapp o115 [[o012, o013, o014]])) (A.vlen [[(A.vget l7 i11 0), (A.vget l7 i11 1), (A.vget l7 i11 2)]])) then
                      spec_HoldAsk_l0 A c_94 c_37 c_43 c_41 n l7 who8 what9 true (A.add .i64 i11 1) o012 o013 o014 (A.vapp (A.vapp o115 [[o012, o013, o014]]) [[(A.vget l7 i11 0), (A.vget l7 i11 1), (A.vget l7 i11 2)]]) kx0_0
                    else
                      none
                  else
                    bif (A.not (A.eq (A.vget l7 i11 0) who8)) then
                      bif (A.room (A.vlen (A.vapp o115 [[o012, o013, o014]])) (A.vlen [[(A.vget l7 i11 0), (A.vget l7 i11 1), (A.vget l7 i11 2)]])) then
                        spec_HoldAsk_l0 A c_94 c_37 c_43 c_41 n l7 who8 what9 true (A.add .i64 i11 1) o012 o013 o014 (A.vapp (A.vapp o115 [[o012, o013, o014]]) [[(A.vget l7 i11 0), (A.vget l7 i11 1), (A.vget l7 i11 2)]]) kx0_0
                      else
                        none
                    else
                      spec_HoldAsk_l0 A c_94 c_37 c_43 c_41 n l7 who8 what9 true (A.add .i64 i11 1) o012 o013 o014 (A.vapp o115 [[o012, o013, o014]]) kx0_0
                else
                  none
              else
                bif (A.not (A.eq (A.vget l7 i11 1) what9)) then
                  bif (A.room (A.vlen o115) (A.vlen [[(A.vget l7 i11 0), (A.vget l7 i11 1), (A.vget l7 i11 2)]])) then
                    spec_HoldAsk_l0 A c_94 c_37 c_43 c_41 n l7 who8 what9 done10 (A.add .i64 i11 1) o012 o013 o014 (A.vapp o115 [[(A.vget l7 i11 0), (A.vget l7 i11 1), (A.vget l7 i11 2)]]) kx0_0
                  else
                    none
                else
                  bif (A.not (A.eq (A.vget l7 i11 0) who8)) then
                    bif (A.room (A.vlen o115) (A.vlen [[(A.vget l7 i11 0), (A.vget l7 i11 1), (A.vget l7 i11 2)]])) then
                      spec_HoldAsk_l0 A c_94 c_37 c_43 c_41 n l7 who8 what9 done10 (A.add .i64 i11 1) o012 o013 o014 (A.vapp o115 [[(A.vget l7 i11 0), (A.vget l7 i11 1), (A.vget l7 i11 2)]]) kx0_0
                    else
                      none
                  else
                    spec_HoldAsk_l0 A c_94 c_37 c_43 c_41 n l7 who8 what9 done10 (A.add .i64 i11 1) o012 o013 o014 o115 kx0_0
            else
              bif (A.not (A.eq (A.vget l7 i11 1) what9)) then
                bif (A.room (A.vlen o115) (A.vlen [[(A.vget l7 i11 0), (A.vget l7 i11 1), (A.vget l7 i11 2)]])) then
                  spec_HoldAsk_l0 A c_94 c_37 c_43 c_41 n l7 who8 what9 done10 (A.add .i64 i11 1) o012 o013 o014 (A.vapp o115 [[(A.vget l7 i11 0), (A.vget l7 i11 1), (A.vget l7 i11 2)]]) kx0_0
                else
                  none
              else
                bif (A.not (A.eq (A.vget l7 i11 0) who8)) then
                  bif (A.room (A.vlen o115) (A.vlen [[(A.vget l7 i11 0), (A.vget l7 i11 1), (A.vget l7 i11 2)]])) then
                    spec_HoldAsk_l0 A c_94 c_37 c_43 c_41 n l7 who8 what9 done10 (A.add .i64 i11 1) o012 o013 o014 (A.vapp o115 [[(A.vget l7 i11 0), (A.vget l7 i11 1), (A.vget l7 i11 2)]]) kx0_0
                  else
                    none
                else
                  spec_HoldAsk_l0 A c_94 c_37 c_43 c_41 n l7 who8 what9 done10 (A.add .i64 i11 1) o012 o013 o014 o115 kx0_0
        else
          bif (A.not (A.eq (A.vget l7 i11 1) what9)) then
            bif (A.room (A.vlen o115) (A.vlen [[(A.vget l7 i11 0), (A.vget l7 i11 1), (A.vget l7 i11 2)]])) then
              spec_HoldAsk_l0 A c_94 c_37 c_43 c_41 n l7 who8 what9 done10 (A.add .i64 i11 1) o012 o013 o014 (A.vapp o115 [[(A.vget l7 i11 0), (A.vget l7 i11 1), (A.vget l7 i11 2)]]) kx0_0
            else
              none
          else
            bif (A.not (A.eq (A.vget l7 i11 0) who8)) then
              bif (A.room (A.vlen o115) (A.vlen [[(A.vget l7 i11 0), (A.vget l7 i11 1), (A.vget l7 i11 2)]])) then
                spec_HoldAsk_l0 A c_94 c_37 c_43 c_41 n l7 who8 what9 done10 (A.add .i64 i11 1) o012 o013 o014 (A.vapp o115 [[(A.vget l7 i11 0), (A.vget l7 i11 1), (A.vget l7 i11 2)]]) kx0_0
              else
                none
            else
              spec_HoldAsk_l0 A c_94 c_37 c_43 c_41 n l7 who8 what9 done10 (A.add .i64 i11 1) o012 o013 o014 o115 kx0_0
      else
        none
    else
      kx0_0 done10 o012 o013 o014 o115
noncomputable def spec_HoldAsk_f (A : PM.Prims) (c_94 : spec_l1In_T) (c_37 : spec_HoldsOk_T) (c_43 : spec_Blocks_T) (c_41 : spec_HoldOf_T) (__ : List (List Int)) (a : Int) (r : Int) (r_3 : Int) (k : (List (List Int)) → (Bool) → PM.R) : PM.R :=
  c_37 __ (fun r1 =>
    bif (A.not r1) then
      bif (A.room (A.vlen []) (A.vlen __)) then
        k (A.vapp [] __) false
      else
        none
    else
      c_94 a 1 9 (fun r2 =>
        bif (A.not r2) then
          bif (A.room (A.vlen []) (A.vlen __)) then
            k (A.vapp [] __) false
          else
            none
        else
          c_94 r 0 8 (fun r3 =>
            bif (A.not r3) then
              bif (A.room (A.vlen []) (A.vlen __)) then
                k (A.vapp [] __) false
              else
                none
            else
              c_94 r_3 1 2 (fun r4 =>
                bif (A.not r4) then
                  bif (A.room (A.vlen []) (A.vlen __)) then
                    k (A.vapp [] __) false
                  else
                    none
                else
                  c_43 __ a r r_3 (fun r5 =>
                    bif (A.lt 0 (A.ilen r5)) then
                      bif (A.room (A.vlen []) (A.vlen __)) then
                        k (A.vapp [] __) false
                      else
                        none
                    else
                      c_41 __ a r (fun r6 =>
                        spec_HoldAsk_l0 A c_94 c_37 c_43 c_41 A.fuel __ a r false 0 a r (A.imax r_3 r6) [] (fun done1621 o01722 o01823 o01924 o12025 =>
                          bif (A.not done1621) then
                            bif (A.room (A.vlen o12025) (A.vlen [[o01722, o01823, o01924]])) then
                              k (A.vapp o12025 [[o01722, o01823, o01924]]) true
                            else
                              none
                          else
                            k o12025 true)))))))
noncomputable def spec_HoldAsk (A : PM.Prims) : spec_HoldAsk_T := spec_HoldAsk_f A (spec_l1In A) (spec_HoldsOk A) (spec_Blocks A) (spec_HoldOf A)
noncomputable def spec_HoldAsk_L (A : PM.Prims) (c_94 : spec_l1In_T) (c_37 : spec_HoldsOk_T) (c_43 : spec_Blocks_T) (c_41 : spec_HoldOf_T) (n : Nat) : PM.Lam := fun cur σ K =>
  match cur, σ, K with
  | 0, ⟨[(0, .arr (.vecs 73 3 l7)), (1, .int .i64 who8), (2, .int .i64 what9), (10, .pbox 0 0), (11, .sref 1), (12, .bool done10), (13, .int .i64 i11)], [(0, .box [.int .i64 o012, .int .i64 o013, .int .i64 o014]), (1, .arr true (.vecs 73 3 o115))]⟩, K => spec_HoldAsk_l0 A c_94 c_37 c_43 c_41 n l7 who8 what9 done10 i11 o012 o013 o014 o115 (fun done16 o017 o018 o019 o120 => K (.exit 0) ⟨[(10, .pbox 0 0), (11, .sref 1), (12, .bool done16)], [(0, .box [.int .i64 o017, .int .i64 o018, .int .i64 o019]), (1, .arr true (.vecs 73 3 o120))]⟩)
  | _, _, _ => none
noncomputable def spec_HoldAsk_E (A : PM.Prims) (c_94 : spec_l1In_T) (c_37 : spec_HoldsOk_T) (c_43 : spec_Blocks_T) (c_41 : spec_HoldOf_T) : PM.Env := ⟨[(94, ⟨[], spec_l1In_w c_94, none⟩), (37, ⟨[], spec_HoldsOk_w c_37, none⟩), (43, ⟨[], spec_Blocks_w c_43, none⟩), (41, ⟨[], spec_HoldOf_w c_41, none⟩)], [], [(0, [0, 1, 2, 10, 11, 12, 13], [8, 9, 10, 11, 12])], [(0, [0, 1, 2, 3]), (1, [0, 1, 2, 3, 41]), (2, [8, 9]), (3, [0, 1, 2, 10]), (4, [0, 1, 2, 10, 11]), (5, [0, 1, 2, 10, 11, 12]), (6, [0, 1, 2, 10, 11, 12, 13]), (7, [0, 1, 2, 10, 11, 12, 13, 58]), (8, [0, 1, 2, 10, 11, 12, 13]), (9, [0, 1, 2, 10, 11, 12, 13, 14]), (10, [0, 1, 2, 10, 11, 12, 13, 14, 84]), (11, [0, 1, 2, 10, 11, 13, 14]), (12, [0, 1, 2, 10, 11, 12, 13, 14]), (13, [0, 1, 2, 10, 11, 12, 13, 14, 98]), (14, [0, 1, 2, 10, 11, 12, 13]), (15, [10, 11, 104]), (16, [11]), (17, [8, 9])], spec_HoldAsk_L A c_94 c_37 c_43 c_41 A.fuel⟩
theorem spec_HoldAsk_l0_ok (A : PM.Prims) (c_94 : spec_l1In_T) (c_37 : spec_HoldsOk_T) (c_43 : spec_Blocks_T) (c_41 : spec_HoldOf_T) (n : Nat) (l7 : List (List Int)) (who8 : Int) (what9 : Int) (done10 : Bool) (i11 : Int) (o012 : Int) (o013 : Int) (o014 : Int) (o115 : List (List Int)) (K : Go.Exit → PM.S → PM.R) : spec_HoldAsk_L A c_94 c_37 c_43 c_41 (n + 1) 0 ⟨[(0, .arr (.vecs 73 3 l7)), (1, .int .i64 who8), (2, .int .i64 what9), (10, .pbox 0 0), (11, .sref 1), (12, .bool done10), (13, .int .i64 i11)], [(0, .box [.int .i64 o012, .int .i64 o013, .int .i64 o014]), (1, .arr true (.vecs 73 3 o115))]⟩ K = PM.roundF A cx (PM.runD A cx (spec_HoldAsk_E A c_94 c_37 c_43 c_41).inl (spec_HoldAsk_E A c_94 c_37 c_43 c_41).Γ 3) (spec_HoldAsk_E A c_94 c_37 c_43 c_41) (spec_HoldAsk_L A c_94 c_37 c_43 c_41 n) 0 Go.Proofs.Try.f54 ⟨[(0, .arr (.vecs 73 3 l7)), (1, .int .i64 who8), (2, .int .i64 what9), (10, .pbox 0 0), (11, .sref 1), (12, .bool done10), (13, .int .i64 i11)], [(0, .box [.int .i64 o012, .int .i64 o013, .int .i64 o014]), (1, .arr true (.vecs 73 3 o115))]⟩ K := by kernel_rfl
theorem spec_HoldAsk_ok (A : PM.Prims) (c_94 : spec_l1In_T) (c_37 : spec_HoldsOk_T) (c_43 : spec_Blocks_T) (c_41 : spec_HoldOf_T) (__ : List (List Int)) (a : Int) (r : Int) (r_3 : Int) (k : PM.V → PM.R) : PM.pfun A cx [] (spec_HoldAsk_E A c_94 c_37 c_43 c_41) Go.Proofs.Try.f54 [.arr (.vecs 73 3 __), .int .i64 a, .int .i64 r, .int .i64 r_3] k = spec_HoldAsk_f A c_94 c_37 c_43 c_41 __ a r r_3 (fun r0 r1 => k (.tup [.arr (.vecs 73 3 r0), .bool r1])) := by kernel_rfl

theorem spec_HoldAsk_fn : PM.FnIs Try.prog 54 Try.f54 := .of Try.func54 (by kernel_rfl) (by kernel_rfl)
theorem spec_HoldAsk_g : PM.GOk Try.prog cx 54 ⟨[], spec_HoldAsk_w (spec_HoldAsk PM.std), none⟩ := by
  refine ⟨spec_HoldAsk_fn.enter, fun _ ds k r h => ?_, fun hm => absurd rfl hm, fun _ e => (by cases e)⟩
  change spec_HoldAsk_w (spec_HoldAsk PM.std) ds k = some r at h
  unfold spec_HoldAsk_w at h
  split at h
  · exact PM.pfun_ok (E := spec_HoldAsk_E PM.std (spec_l1In PM.std) (spec_HoldsOk PM.std) (spec_Blocks PM.std) (spec_HoldOf PM.std)) (L := fun n => spec_HoldAsk_L PM.std (spec_l1In PM.std) (spec_HoldsOk PM.std) (spec_Blocks PM.std) (spec_HoldOf PM.std) n) (N := PM.std.fuel) cx_ok (.cons spec_l1In_g (.cons spec_HoldsOk_g (.cons spec_Blocks_g (.cons spec_HoldOf_g .nil)))) mixed .nil spec_HoldAsk_fn (by kernel_rfl) ⟨rfl, fun cur σ K => by
      dsimp only [spec_HoldAsk_L]
      split <;> rfl, fun n cur σ K r h => by
      dsimp only [spec_HoldAsk_L] at h
      split at h
      · exact (spec_HoldAsk_l0_ok PM.std (spec_l1In PM.std) (spec_HoldsOk PM.std) (spec_Blocks PM.std) (spec_HoldOf PM.std) n _ _ _ _ _ _ _ _ _ K).symm.trans h
      · cases h⟩
      ((spec_HoldAsk_ok PM.std (spec_l1In PM.std) (spec_HoldsOk PM.std) (spec_Blocks PM.std) (spec_HoldOf PM.std) _ _ _ _ k).trans h)
  · cases h

abbrev impl_HoldAsk_T := (List (List Int)) → (Int) → (Int) → (Int) → ((List (List Int)) → (Bool) → PM.R) → PM.R
noncomputable def impl_HoldAsk_w (c : impl_HoldAsk_T) (ds : List PM.V) (k : PM.V → PM.R) : PM.R :=
  match ds with
  | [.arr (.vecs 73 3 __), .int .i64 a, .int .i64 r, .int .i64 r_3] => c __ a r r_3 (fun r0 r1 => k (.tup [.arr (.vecs 73 3 r0), .bool r1]))
  | _ => none
noncomputable def impl_HoldAsk_l0 (A : PM.Prims) (c_113 : impl_copyHolds_T) (c_110 : impl_isHold_T) (c_39 : impl_HoldsOk_T) (c_44 : impl_Blocks_T) (c_116 : slices_SortFunc___impl_Hold_impl_Hold__T) : Nat → (Int) → (Int) → (Int) → (Int) → (Int) → (List (List Int)) → ((Bool) → (List (List Int)) → PM.R) → ((Int) → (Int) → (Int) → (List (List Int)) → PM.R) → PM.R
  | 0, _, _, _, _, _, _, _, _ => none
  | n + 1, who5, what6, mode7, t368, t379, o010, kret_0, kx0_0 =>
    bif (A.lt t379 t368) then
      bif (A.inb t379 (A.vlen o010)) then
        bif (A.eq (A.vget o010 t379 0) who5) then
          bif (A.eq (A.vget o010 t379 1) what6) then
            bif (A.inb t379 (A.vlen o010)) then
              kret_0 true (A.vset o010 t379 2 (A.imax (A.vget o010 t379 2) mode7))
            else
              none
          else
            impl_HoldAsk_l0 A c_113 c_110 c_39 c_44 c_116 n who5 what6 mode7 t368 (A.add .i64 t379 1) o010 kret_0 kx0_0
        else
          impl_HoldAsk_l0 A c_113 c_110 c_39 c_44 c_116 n who5 what6 mode7 t368 (A.add .i64 t379 1) o010 kret_0 kx0_0
      else
        none
    else
      kx0_0 who5 what6 mode7 o010
noncomputable def impl_HoldAsk_f (A : PM.Prims) (c_113 : impl_copyHolds_T) (c_110 : impl_isHold_T) (c_39 : impl_HoldsOk_T) (c_44 : impl_Blocks_T) (c_116 : slices_SortFunc___impl_Hold_impl_Hold__T) (__ : List (List Int)) (a : Int) (r : Int) (r_3 : Int) (k : (List (List Int)) → (Bool) → PM.R) : PM.R :=
  c_113 __ (fun r1 =>
    c_39 __ (fun r2 =>
      bif (A.not r2) then
        k r1 false
      else
        c_110 a r r_3 (fun r3 =>
          bif (A.not r3) then
            k r1 false
          else
            c_44 __ a r r_3 (fun r4 =>
              bif (A.lt 0 (A.ilen r4)) then
                k r1 false
              else
                impl_HoldAsk_l0 A c_113 c_110 c_39 c_44 c_116 A.fuel a r r_3 (A.vlen r1) 0 r1 (fun t91117 o01218 =>
                  k o01218 t91117) (fun who1319 what1420 mode1521 o01622 =>
                  bif (A.room (A.vlen o01622) (A.vlen [[who1319, what1420, mode1521]])) then
                    c_116 (A.vapp o01622 [[who1319, what1420, mode1521]]) (fun r23 =>
                      k r23 true)
                  else
                    none)))))
noncomputable def impl_HoldAsk (A : PM.Prims) : impl_HoldAsk_T := impl_HoldAsk_f A (impl_copyHolds A) (impl_isHold A) (impl_HoldsOk A) (impl_Blocks A) (slices_SortFunc___impl_Hold_impl_Hold_ A)
noncomputable def impl_HoldAsk_L (A : PM.Prims) (c_113 : impl_copyHolds_T) (c_110 : impl_isHold_T) (c_39 : impl_HoldsOk_T) (c_44 : impl_Blocks_T) (c_116 : slices_SortFunc___impl_Hold_impl_Hold__T) (n : Nat) : PM.Lam := fun cur σ K =>
  match cur, σ, K with
  | 0, ⟨[(1, .int .i64 who5), (2, .int .i64 what6), (3, .int .i64 mode7), (10, .sref 0), (35, .sref 0), (36, .int .i64 t368), (37, .int .i64 t379)], [(0, .arr true (.vecs 73 3 o010))]⟩, K => impl_HoldAsk_l0 A c_113 c_110 c_39 c_44 c_116 n who5 what6 mode7 t368 t379 o010 (fun t911 o012 => K .ret ⟨[(8, .sref 0), (9, .bool t911)], [(0, .arr true (.vecs 73 3 o012))]⟩) (fun who13 what14 mode15 o016 => K (.exit 0) ⟨[(1, .int .i64 who13), (2, .int .i64 what14), (3, .int .i64 mode15), (10, .sref 0)], [(0, .arr true (.vecs 73 3 o016))]⟩)
  | _, _, _ => none
noncomputable def impl_HoldAsk_E (A : PM.Prims) (c_113 : impl_copyHolds_T) (c_110 : impl_isHold_T) (c_39 : impl_HoldsOk_T) (c_44 : impl_Blocks_T) (c_116 : slices_SortFunc___impl_Hold_impl_Hold__T) : PM.Env := ⟨[(113, ⟨[], impl_copyHolds_w c_113, none⟩), (110, ⟨[], impl_isHold_w c_110, none⟩), (39, ⟨[], impl_HoldsOk_w c_39, none⟩), (44, ⟨[], impl_Blocks_w c_44, none⟩), (116, ⟨[true, false], slices_SortFunc___impl_Hold_impl_Hold__w c_116, none⟩)], [], [(0, [1, 2, 3, 10, 35, 36, 37], [1, 2, 3, 8, 9, 10])], [(0, [0, 1, 2, 3]), (1, [0, 1, 2, 3, 10]), (2, [1, 2, 3, 10, 33]), (3, [8, 9]), (4, [1, 2, 3, 10, 35, 36, 37]), (5, [1, 2, 3, 10, 35, 36, 37, 38]), (6, [1, 2, 3, 10, 11, 12, 35, 36, 37]), (7, [1, 2, 3, 10, 11, 12, 35, 36, 37, 51]), (8, [10]), (9, [8, 9]), (10, [1, 2, 3, 10, 35, 36, 37]), (11, [10]), (12, [10]), (13, [8, 9])], impl_HoldAsk_L A c_113 c_110 c_39 c_44 c_116 A.fuel⟩
theorem impl_HoldAsk_l0_ok (A : PM.Prims) (c_113 : impl_copyHolds_T) (c_110 : impl_isHold_T) (c_39 : impl_HoldsOk_T) (c_44 : impl_Blocks_T) (c_116 : slices_SortFunc___impl_Hold_impl_Hold__T) (n : Nat) (who5 : Int) (what6 : Int) (mode7 : Int) (t368 : Int) (t379 : Int) (o010 : List (List Int)) (K : Go.Exit → PM.S → PM.R) : impl_HoldAsk_L A c_113 c_110 c_39 c_44 c_116 (n + 1) 0 ⟨[(1, .int .i64 who5), (2, .int .i64 what6), (3, .int .i64 mode7), (10, .sref 0), (35, .sref 0), (36, .int .i64 t368), (37, .int .i64 t379)], [(0, .arr true (.vecs 73 3 o010))]⟩ K = PM.roundF A cx (PM.runD A cx (impl_HoldAsk_E A c_113 c_110 c_39 c_44 c_116).inl (impl_HoldAsk_E A c_113 c_110 c_39 c_44 c_116).Γ 3) (impl_HoldAsk_E A c_113 c_110 c_39 c_44 c_116) (impl_HoldAsk_L A c_113 c_110 c_39 c_44 c_116 n) 0 Go.Proofs.Try.f55 ⟨[(1, .int .i64 who5), (2, .int .i64 what6), (3, .int .i64 mode7), (10, .sref 0), (35, .sref 0), (36, .int .i64 t368), (37, .int .i64 t379)], [(0, .arr true (.vecs 73 3 o010))]⟩ K := by kernel_rfl
theorem impl_HoldAsk_ok (A : PM.Prims) (c_113 : impl_copyHolds_T) (c_110 : impl_isHold_T) (c_39 : impl_HoldsOk_T) (c_44 : impl_Blocks_T) (c_116 : slices_SortFunc___impl_Hold_impl_Hold__T) (__ : List (List Int)) (a : Int) (r : Int) (r_3 : Int) (k : PM.V → PM.R) : PM.pfun A cx [] (impl_HoldAsk_E A c_113 c_110 c_39 c_44 c_116) Go.Proofs.Try.f55 [.arr (.vecs 73 3 __), .int .i64 a, .int .i64 r, .int .i64 r_3] k = impl_HoldAsk_f A c_113 c_110 c_39 c_44 c_116 __ a r r_3 (fun r0 r1 => k (.tup [.arr (.vecs 73 3 r0), .bool r1])) := by kernel_rfl

theorem impl_HoldAsk_fn : PM.FnIs Try.prog 55 Try.f55 := .of Try.func55 (by kernel_rfl) (by kernel_rfl)
theorem impl_HoldAsk_g : PM.GOk Try.prog cx 55 ⟨[], impl_HoldAsk_w (impl_HoldAsk PM.std), none⟩ := by
  refine ⟨impl_HoldAsk_fn.enter, fun _ ds k r h => ?_, fun hm => absurd rfl hm, fun _ e => (by cases e)⟩
  change impl_HoldAsk_w (impl_HoldAsk PM.std) ds k = some r at h
  unfold impl_HoldAsk_w at h
  split at h
  · exact PM.pfun_ok (E := impl_HoldAsk_E PM.std (impl_copyHolds PM.std) (impl_isHold PM.std) (impl_HoldsOk PM.std) (impl_Blocks PM.std) (slices_SortFunc___impl_Hold_impl_Hold_ PM.std)) (L := fun n => impl_HoldAsk_L PM.std (impl_copyHolds PM.std) (impl_isHold PM.std) (impl_HoldsOk PM.std) (impl_Blocks PM.std) (slices_SortFunc___impl_Hold_impl_Hold_ PM.std) n) (N := PM.std.fuel) cx_ok (.cons impl_copyHolds_g (.cons impl_isHold_g (.cons impl_HoldsOk_g (.cons impl_Blocks_g (.cons slices_SortFunc___impl_Hold_impl_Hold__g .nil))))) mixed .nil impl_HoldAsk_fn (by kernel_rfl) ⟨rfl, fun cur σ K => by
      dsimp only [impl_HoldAsk_L]
      split <;> rfl, fun n cur σ K r h => by
      dsimp only [impl_HoldAsk_L] at h
      split at h
      · exact (impl_HoldAsk_l0_ok PM.std (impl_copyHolds PM.std) (impl_isHold PM.std) (impl_HoldsOk PM.std) (impl_Blocks PM.std) (slices_SortFunc___impl_Hold_impl_Hold_ PM.std) n _ _ _ _ _ _ K).symm.trans h
      · cases h⟩
      ((impl_HoldAsk_ok PM.std (impl_copyHolds PM.std) (impl_isHold PM.std) (impl_HoldsOk PM.std) (impl_Blocks PM.std) (slices_SortFunc___impl_Hold_impl_Hold_ PM.std) _ _ _ _ k).trans h)
  · cases h

abbrev laws_FnExactHoldAsk_T := (List (List Int)) → (Int) → (Int) → (Int) → ((Bool) → PM.R) → PM.R
noncomputable def laws_FnExactHoldAsk_w (c : laws_FnExactHoldAsk_T) (ds : List PM.V) (k : PM.V → PM.R) : PM.R :=
  match ds with
  | [.arr (.vecs 124 3 __), .int .i64 a, .int .i64 r, .int .i64 r_3] => c __ a r r_3 (fun r0 => k (.bool r0))
  | _ => none
noncomputable def laws_FnExactHoldAsk_f (A : PM.Prims) (c_36 : laws_szHoldS_T) (c_38 : laws_toHoldS_T) (c_40 : laws_eqHoldS_T) (c_46 : laws_markHoldS_T) (c_51 : laws_heldHoldS_T) (c_54 : spec_HoldAsk_T) (c_55 : impl_HoldAsk_T) (__ : List (List Int)) (a : Int) (r : Int) (r_3 : Int) (k : (Bool) → PM.R) : PM.R :=
  c_36 __ 1048576 (fun r1 =>
    bif (A.lt r1 0) then
      k true
    else
      c_38 __ (fun r2 =>
        c_54 r2 a r r_3 (fun r3 r4 =>
          c_38 __ (fun r5 =>
            c_55 r5 a r r_3 (fun r6 r7 =>
              c_40 r6 r3 (fun r8 =>
                bif (A.not r8) then
                  k false
                else
                  bif (A.not (A.beq r7 r4)) then
                    k false
                  else
                    c_38 __ (fun r9 =>
                      c_40 r5 r9 (fun r10 =>
                        bif (A.not r10) then
                          k false
                        else
                          c_46 r5 1 (fun r11 r12 =>
                            bif (A.lt r11 0) then
                              k false
                            else
                              c_40 r6 r3 (fun r13 =>
                                bif (A.not r13) then
                                  k false
                                else
                                  bif (A.not (A.beq r7 r4)) then
                                    k false
                                  else
                                    c_46 r6 1 (fun r14 r15 =>
                                      c_51 r15 1 (fun r16 =>
                                        bif (A.lt r16 0) then
                                          k false
                                        else
                                          bif (A.not (A.eq r16 r14)) then
                                            k false
                                          else
                                            c_38 __ (fun r17 =>
                                              c_55 r17 a r r_3 (fun r18 r19 =>
                                                c_40 r18 r3 (fun r20 =>
                                                  bif (A.not r20) then
                                                    k false
                                                  else
                                                    bif (A.not (A.beq r19 r4)) then
                                                      k false
                                                    else
                                                      c_51 r15 1 (fun r21 =>
                                                        bif (A.lt r21 0) then
                                                          k false
                                                        else
                                                          bif (A.not (A.eq r21 r14)) then
                                                            k false
                                                          else
                                                            k true))))))))))))))))
noncomputable def laws_FnExactHoldAsk (A : PM.Prims) : laws_FnExactHoldAsk_T := laws_FnExactHoldAsk_f A (laws_szHoldS A) (laws_toHoldS A) (laws_eqHoldS A) (laws_markHoldS A) (laws_heldHoldS A) (spec_HoldAsk A) (impl_HoldAsk A)
noncomputable def laws_FnExactHoldAsk_L (A : PM.Prims) (c_36 : laws_szHoldS_T) (c_38 : laws_toHoldS_T) (c_40 : laws_eqHoldS_T) (c_46 : laws_markHoldS_T) (c_51 : laws_heldHoldS_T) (c_54 : spec_HoldAsk_T) (c_55 : impl_HoldAsk_T) (n : Nat) : PM.Lam := fun cur σ K =>
  match cur, σ, K with
  | _, _, _ => none
noncomputable def laws_FnExactHoldAsk_E (A : PM.Prims) (c_36 : laws_szHoldS_T) (c_38 : laws_toHoldS_T) (c_40 : laws_eqHoldS_T) (c_46 : laws_markHoldS_T) (c_51 : laws_heldHoldS_T) (c_54 : spec_HoldAsk_T) (c_55 : impl_HoldAsk_T) : PM.Env := ⟨[(36, ⟨[], laws_szHoldS_w c_36, none⟩), (38, ⟨[], laws_toHoldS_w c_38, none⟩), (40, ⟨[], laws_eqHoldS_w c_40, none⟩), (46, ⟨[true, false], laws_markHoldS_w c_46, none⟩), (51, ⟨[], laws_heldHoldS_w c_51, none⟩), (54, ⟨[], spec_HoldAsk_w c_54, none⟩), (55, ⟨[], impl_HoldAsk_w c_55, none⟩)], [], [], [(0, [0, 1, 2, 3]), (1, [0, 1, 2, 3, 9]), (2, [0, 1, 2, 3, 9]), (3, [0, 1, 2, 3, 24]), (4, [8]), (5, [0, 1, 2, 3, 10, 11]), (6, [0, 1, 2, 3, 10, 11, 12]), (7, [0, 1, 2, 3, 10, 11, 12, 13, 14]), (8, [0, 1, 2, 3, 10, 11, 12, 13, 14, 52]), (9, [8]), (10, [0, 1, 2, 3, 10, 11, 12, 13, 14, 57]), (11, [8]), (12, [0, 1, 2, 3, 10, 11, 12, 13, 14, 15]), (13, [0, 1, 2, 3, 10, 11, 13, 14, 15]), (14, [0, 1, 2, 3, 10, 11, 13, 73]), (15, [8]), (16, [0, 1, 2, 3, 10, 11, 13, 16]), (17, [0, 1, 2, 3, 10, 11, 13, 16]), (18, [0, 1, 2, 3, 10, 11, 13, 16, 17]), (19, [0, 1, 2, 3, 10, 11, 13, 16, 17]), (20, [0, 1, 2, 3, 10, 11, 13, 16, 17, 81]), (21, [8]), (22, [0, 1, 2, 3, 10, 11, 13, 16, 84]), (23, [8]), (24, [10, 11, 13, 16, 18, 19]), (25, [13, 16, 102]), (26, [8]), (27, [13, 16, 17]), (28, [16, 17]), (29, [16, 17, 107]), (30, [8]), (31, [110]), (32, [8]), (33, [8])], laws_FnExactHoldAsk_L A c_36 c_38 c_40 c_46 c_51 c_54 c_55 A.fuel⟩
theorem laws_FnExactHoldAsk_ok (A : PM.Prims) (c_36 : laws_szHoldS_T) (c_38 : laws_toHoldS_T) (c_40 : laws_eqHoldS_T) (c_46 : laws_markHoldS_T) (c_51 : laws_heldHoldS_T) (c_54 : spec_HoldAsk_T) (c_55 : impl_HoldAsk_T) (__ : List (List Int)) (a : Int) (r : Int) (r_3 : Int) (k : PM.V → PM.R) : PM.pfun A cx [] (laws_FnExactHoldAsk_E A c_36 c_38 c_40 c_46 c_51 c_54 c_55) Go.Proofs.Try.f12 [.arr (.vecs 124 3 __), .int .i64 a, .int .i64 r, .int .i64 r_3] k = laws_FnExactHoldAsk_f A c_36 c_38 c_40 c_46 c_51 c_54 c_55 __ a r r_3 (fun r0 => k (.bool r0)) := by kernel_rfl

theorem laws_FnExactHoldAsk_fn : PM.FnIs Try.prog 12 Try.f12 := .of Try.func12 (by kernel_rfl) (by kernel_rfl)
theorem laws_FnExactHoldAsk_g : PM.GOk Try.prog cx 12 ⟨[], laws_FnExactHoldAsk_w (laws_FnExactHoldAsk PM.std), none⟩ := by
  refine ⟨laws_FnExactHoldAsk_fn.enter, fun _ ds k r h => ?_, fun hm => absurd rfl hm, fun _ e => (by cases e)⟩
  change laws_FnExactHoldAsk_w (laws_FnExactHoldAsk PM.std) ds k = some r at h
  unfold laws_FnExactHoldAsk_w at h
  split at h
  · exact PM.pfun_ok (E := laws_FnExactHoldAsk_E PM.std (laws_szHoldS PM.std) (laws_toHoldS PM.std) (laws_eqHoldS PM.std) (laws_markHoldS PM.std) (laws_heldHoldS PM.std) (spec_HoldAsk PM.std) (impl_HoldAsk PM.std)) (L := fun n => laws_FnExactHoldAsk_L PM.std (laws_szHoldS PM.std) (laws_toHoldS PM.std) (laws_eqHoldS PM.std) (laws_markHoldS PM.std) (laws_heldHoldS PM.std) (spec_HoldAsk PM.std) (impl_HoldAsk PM.std) n) (N := PM.std.fuel) cx_ok (.cons laws_szHoldS_g (.cons laws_toHoldS_g (.cons laws_eqHoldS_g (.cons laws_markHoldS_g (.cons laws_heldHoldS_g (.cons spec_HoldAsk_g (.cons impl_HoldAsk_g .nil))))))) mixed .nil laws_FnExactHoldAsk_fn (by kernel_rfl) ⟨rfl, fun _ _ _ => rfl, fun n cur σ K r h => by cases h⟩
      ((laws_FnExactHoldAsk_ok PM.std (laws_szHoldS PM.std) (laws_toHoldS PM.std) (laws_eqHoldS PM.std) (laws_markHoldS PM.std) (laws_heldHoldS PM.std) (spec_HoldAsk PM.std) (impl_HoldAsk PM.std) _ _ _ _ k).trans h)
  · cases h

abbrev spec_l14Some_T := (List Int) → (Int) → (Int) → ((List (List Int)) → (List Int) → (Int) → (Int) → PM.R) → PM.R
noncomputable def spec_l14Some_w (c : spec_l14Some_T) (ds : List PM.V) (k : PM.V → PM.R) : PM.R :=
  match ds with
  | [.tup [.arr (.ints 5 .u8 c_b), .int .i64 c_i, .int .i64 c_h]] => c c_b c_i c_h (fun r0 bx_b bx_i bx_h => k (.tup [.arr (.vecs 73 3 r0), .tup [.arr (.ints 5 .u8 bx_b), .int .i64 bx_i, .int .i64 bx_h]]))
  | _ => none
noncomputable def spec_l14Some_l0 (A : PM.Prims) (c_54 : spec_HoldAsk_T) (c_108 : spec_l1Below_T) : Nat → (Int) → (List Int) → (Int) → (Int) → (List (List Int)) → ((List Int) → (Int) → (Int) → (List (List Int)) → PM.R) → PM.R
  | 0, _, _, _, _, _, _ => none
  | n + 1, n5, o06, o07, o08, o19, kx0_0 =>
    bif (A.lt 0 n5) then
      c_108 o06 o07 o08 3 (fun r10 r11 r12 r13 =>
        c_108 r11 r12 r13 (A.ilen [0, 1, 4, 8, 8]) (fun r14 r15 r16 r17 =>
          bif (A.inb r14 (A.ilen [0, 1, 4, 8, 8])) then
            c_108 r15 r16 r17 2 (fun r18 r19 r20 r21 =>
              c_54 o19 (A.add .i64 1 r10) (A.iget [0, 1, 4, 8, 8] r14) (A.add .i64 1 r18) (fun r22 r23 =>
                bif r23 then
                  spec_l14Some_l0 A c_54 c_108 n (A.sub .i64 n5 1) r19 r20 r21 r22 kx0_0
                else
                  spec_l14Some_l0 A c_54 c_108 n (A.sub .i64 n5 1) r19 r20 r21 o19 kx0_0))
          else
            none))
    else
      kx0_0 o06 o07 o08 o19
noncomputable def spec_l14Some_f (A : PM.Prims) (c_54 : spec_HoldAsk_T) (c_108 : spec_l1Below_T) (c_b : List Int) (c_i : Int) (c_h : Int) (k : (List (List Int)) → (List Int) → (Int) → (Int) → PM.R) : PM.R :=
  c_108 c_b c_i c_h 8 (fun r1 r2 r3 r4 =>
    spec_l14Some_l0 A c_54 c_108 A.fuel r1 r2 r3 r4 [] (fun o02428 o02529 o02630 o12731 =>
      k o12731 o02428 o02529 o02630))
noncomputable def spec_l14Some (A : PM.Prims) : spec_l14Some_T := spec_l14Some_f A (spec_HoldAsk A) (spec_l1Below A)
noncomputable def spec_l14Some_L (A : PM.Prims) (c_54 : spec_HoldAsk_T) (c_108 : spec_l1Below_T) (n : Nat) : PM.Lam := fun cur σ K =>
  match cur, σ, K with
  | 0, ⟨[(0, .pbox 0 0), (3, .sref 1), (4, .int .i64 n5)], [(0, .box [.arr (.ints 5 .u8 o06), .int .i64 o07, .int .i64 o08]), (1, .arr true (.vecs 73 3 o19))]⟩, K => spec_l14Some_l0 A c_54 c_108 n n5 o06 o07 o08 o19 (fun o024 o025 o026 o127 => K (.exit 0) ⟨[(0, .pbox 0 0), (3, .sref 1)], [(0, .box [.arr (.ints 5 .u8 o024), .int .i64 o025, .int .i64 o026]), (1, .arr true (.vecs 73 3 o127))]⟩)
  | _, _, _ => none
noncomputable def spec_l14Some_E (A : PM.Prims) (c_54 : spec_HoldAsk_T) (c_108 : spec_l1Below_T) : PM.Env := ⟨[(54, ⟨[], spec_HoldAsk_w c_54, none⟩), (108, ⟨[], fun _ _ => none, some (PM.spBox (spec_l1Below_w c_108))⟩)], [(118, Go.Proofs.Try.f118)], [(0, [0, 3, 4], [0, 2, 3])], [(0, [0]), (1, [0, 3]), (2, [0, 3, 4]), (3, [0, 3, 4, 11]), (4, [0, 3, 4]), (5, [0, 3, 4, 5, 6]), (6, [0, 3, 4, 5, 28]), (7, [0, 3, 4]), (8, [0, 2])], spec_l14Some_L A c_54 c_108 A.fuel⟩
theorem spec_l14Some_l0_ok (A : PM.Prims) (c_54 : spec_HoldAsk_T) (c_108 : spec_l1Below_T) (n : Nat) (n5 : Int) (o06 : List Int) (o07 : Int) (o08 : Int) (o19 : List (List Int)) (K : Go.Exit → PM.S → PM.R) : spec_l14Some_L A c_54 c_108 (n + 1) 0 ⟨[(0, .pbox 0 0), (3, .sref 1), (4, .int .i64 n5)], [(0, .box [.arr (.ints 5 .u8 o06), .int .i64 o07, .int .i64 o08]), (1, .arr true (.vecs 73 3 o19))]⟩ K = PM.roundF A cx (PM.runD A cx (spec_l14Some_E A c_54 c_108).inl (spec_l14Some_E A c_54 c_108).Γ 3) (spec_l14Some_E A c_54 c_108) (spec_l14Some_L A c_54 c_108 n) 0 Go.Proofs.Try.f163 ⟨[(0, .pbox 0 0), (3, .sref 1), (4, .int .i64 n5)], [(0, .box [.arr (.ints 5 .u8 o06), .int .i64 o07, .int .i64 o08]), (1, .arr true (.vecs 73 3 o19))]⟩ K := by kernel_rfl
theorem spec_l14Some_ok (A : PM.Prims) (c_54 : spec_HoldAsk_T) (c_108 : spec_l1Below_T) (c_b : List Int) (c_i : Int) (c_h : Int) (k : PM.V → PM.R) : PM.pfunB A cx (spec_l14Some_E A c_54 c_108) Go.Proofs.Try.f163 [.tup [.arr (.ints 5 .u8 c_b), .int .i64 c_i, .int .i64 c_h]] k = spec_l14Some_f A c_54 c_108 c_b c_i c_h (fun r0 bx_b bx_i bx_h => k (.tup [.arr (.vecs 73 3 r0), .tup [.arr (.ints 5 .u8 bx_b), .int .i64 bx_i, .int .i64 bx_h]])) := by kernel_rfl

theorem spec_l14Some_fn : PM.FnIs Try.prog 163 Try.f163 := .of Try.func163 (by kernel_rfl) (by kernel_rfl)
theorem spec_l14Some_g : PM.GOk Try.prog cx 163 ⟨[], fun _ _ => none, some (PM.spBox (spec_l14Some_w (spec_l14Some PM.std)))⟩ := by
  refine PM.GOk.ofS spec_l14Some_fn.enter (PM.spBox_ok fun ds k r h => ?_)
  change spec_l14Some_w (spec_l14Some PM.std) ds k = some r at h
  unfold spec_l14Some_w at h
  split at h
  · exact PM.pfunB_ok (E := spec_l14Some_E PM.std (spec_HoldAsk PM.std) (spec_l1Below PM.std)) (L := fun n => spec_l14Some_L PM.std (spec_HoldAsk PM.std) (spec_l1Below PM.std) n) (N := PM.std.fuel) cx_ok (.cons spec_HoldAsk_g (.cons spec_l1Below_g .nil)) mixed (.cons (.of Try.func118 (by kernel_rfl) (by kernel_rfl)) (by kernel_rfl) .nil) spec_l14Some_fn (by kernel_rfl) ⟨rfl, fun cur σ K => by
      dsimp only [spec_l14Some_L]
      split <;> rfl, fun n cur σ K r h => by
      dsimp only [spec_l14Some_L] at h
      split at h
      · exact (spec_l14Some_l0_ok PM.std (spec_HoldAsk PM.std) (spec_l1Below PM.std) n _ _ _ _ _ K).symm.trans h
      · cases h⟩
      ((spec_l14Some_ok PM.std (spec_HoldAsk PM.std) (spec_l1Below PM.std) _ _ _ k).trans h)
  · cases h

abbrev spec_l14Any_T := (List Int) → (Int) → (Int) → ((List (List Int)) → (List Int) → (Int) → (Int) → PM.R) → PM.R
noncomputable def spec_l14Any_w (c : spec_l14Any_T) (ds : List PM.V) (k : PM.V → PM.R) : PM.R :=
  match ds with
  | [.tup [.arr (.ints 5 .u8 c_b), .int .i64 c_i, .int .i64 c_h]] => c c_b c_i c_h (fun r0 bx_b bx_i bx_h => k (.tup [.arr (.vecs 73 3 r0), .tup [.arr (.ints 5 .u8 bx_b), .int .i64 bx_i, .int .i64 bx_h]]))
  | _ => none
noncomputable def spec_l14Any_f (A : PM.Prims) (c_108 : spec_l1Below_T) (c_163 : spec_l14Some_T) (c_b : List Int) (c_i : Int) (c_h : Int) (k : (List (List Int)) → (List Int) → (Int) → (Int) → PM.R) : PM.R :=
  c_163 c_b c_i c_h (fun r1 r2 r3 r4 =>
    bif (A.eq (A.vlen r1) 0) then
      k r1 r2 r3 r4
    else
      c_108 r2 r3 r4 (A.vlen r1) (fun r5 r6 r7 r8 =>
        c_108 r6 r7 r8 20 (fun r9 r10 r11 r12 =>
          bif (A.eq r9 0) then
            c_108 r10 r11 r12 (A.ilen [0, 2, 3]) (fun r13 r14 r15 r16 =>
              bif (A.inb r13 (A.ilen [0, 2, 3])) then
                bif (A.inb r5 (A.vlen r1)) then
                  k (A.vset r1 r5 2 (A.iget [0, 2, 3] r13)) r14 r15 r16
                else
                  none
              else
                none)
          else
            bif (A.eq r9 1) then
              bif (A.inb r5 (A.vlen r1)) then
                k (A.vset r1 r5 1 9) r10 r11 r12
              else
                none
            else
              bif (A.eq r9 2) then
                c_108 r10 r11 r12 (A.ilen [0, 10]) (fun r17 r18 r19 r20 =>
                  bif (A.inb r17 (A.ilen [0, 10])) then
                    bif (A.inb r5 (A.vlen r1)) then
                      k (A.vset r1 r5 0 (A.iget [0, 10] r17)) r18 r19 r20
                    else
                      none
                  else
                    none)
              else
                bif (A.eq r9 3) then
                  bif (A.inb 0 (A.vlen r1)) then
                    bif (A.room (A.vlen r1) (A.vlen [[(A.vget r1 0 0), (A.vget r1 0 1), (A.vget r1 0 2)]])) then
                      k (A.vapp r1 [[(A.vget r1 0 0), (A.vget r1 0 1), (A.vget r1 0 2)]]) r10 r11 r12
                    else
                      none
                  else
                    none
                else
                  k r1 r10 r11 r12)))
noncomputable def spec_l14Any (A : PM.Prims) : spec_l14Any_T := spec_l14Any_f A (spec_l1Below A) (spec_l14Some A)
noncomputable def spec_l14Any_L (A : PM.Prims) (c_108 : spec_l1Below_T) (c_163 : spec_l14Some_T) (n : Nat) : PM.Lam := fun cur σ K =>
  match cur, σ, K with
  | _, _, _ => none
noncomputable def spec_l14Any_E (A : PM.Prims) (c_108 : spec_l1Below_T) (c_163 : spec_l14Some_T) : PM.Env := ⟨[(108, ⟨[], fun _ _ => none, some (PM.spBox (spec_l1Below_w c_108))⟩), (163, ⟨[], fun _ _ => none, some (PM.spBox (spec_l14Some_w c_163))⟩)], [(118, Go.Proofs.Try.f118)], [], [(0, [0]), (1, [0, 3]), (2, [0, 3, 9]), (3, [0, 2]), (4, [0, 3, 4]), (5, [0, 3, 4, 16]), (6, [0, 3, 4, 16, 17]), (7, [0, 3]), (8, [0, 3, 4, 16, 26]), (9, [0, 3]), (10, [0, 3, 4, 16, 32]), (11, [0, 3]), (12, [0, 3, 41]), (13, [0, 3]), (14, [0, 2])], spec_l14Any_L A c_108 c_163 A.fuel⟩
theorem spec_l14Any_ok (A : PM.Prims) (c_108 : spec_l1Below_T) (c_163 : spec_l14Some_T) (c_b : List Int) (c_i : Int) (c_h : Int) (k : PM.V → PM.R) : PM.pfunB A cx (spec_l14Any_E A c_108 c_163) Go.Proofs.Try.f117 [.tup [.arr (.ints 5 .u8 c_b), .int .i64 c_i, .int .i64 c_h]] k = spec_l14Any_f A c_108 c_163 c_b c_i c_h (fun r0 bx_b bx_i bx_h => k (.tup [.arr (.vecs 73 3 r0), .tup [.arr (.ints 5 .u8 bx_b), .int .i64 bx_i, .int .i64 bx_h]])) := by kernel_rfl

theorem spec_l14Any_fn : PM.FnIs Try.prog 117 Try.f117 := .of Try.func117 (by kernel_rfl) (by kernel_rfl)
theorem spec_l14Any_g : PM.GOk Try.prog cx 117 ⟨[], fun _ _ => none, some (PM.spBox (spec_l14Any_w (spec_l14Any PM.std)))⟩ := by
  refine PM.GOk.ofS spec_l14Any_fn.enter (PM.spBox_ok fun ds k r h => ?_)
  change spec_l14Any_w (spec_l14Any PM.std) ds k = some r at h
  unfold spec_l14Any_w at h
  split at h
  · exact PM.pfunB_ok (E := spec_l14Any_E PM.std (spec_l1Below PM.std) (spec_l14Some PM.std)) (L := fun n => spec_l14Any_L PM.std (spec_l1Below PM.std) (spec_l14Some PM.std) n) (N := PM.std.fuel) cx_ok (.cons spec_l1Below_g (.cons spec_l14Some_g .nil)) mixed (.cons (.of Try.func118 (by kernel_rfl) (by kernel_rfl)) (by kernel_rfl) .nil) spec_l14Any_fn (by kernel_rfl) ⟨rfl, fun _ _ _ => rfl, fun n cur σ K r h => by cases h⟩
      ((spec_l14Any_ok PM.std (spec_l1Below PM.std) (spec_l14Some PM.std) _ _ _ k).trans h)
  · cases h

abbrev spec_DrawHoldAsk_T := (List Int) → ((List (List Int)) → (Int) → (Int) → (Int) → PM.R) → PM.R
noncomputable def spec_DrawHoldAsk_w (c : spec_DrawHoldAsk_T) (ds : List PM.V) (k : PM.V → PM.R) : PM.R :=
  match ds with
  | [.arr (.ints 5 .u8 code)] => c code (fun r0 r1 r2 r3 => k (.tup [.arr (.vecs 73 3 r0), .int .i64 r1, .int .i64 r2, .int .i64 r3]))
  | _ => none
noncomputable def spec_DrawHoldAsk_f (A : PM.Prims) (c_103 : spec_l1New_T) (c_108 : spec_l1Below_T) (c_117 : spec_l14Any_T) (code : List Int) (k : (List (List Int)) → (Int) → (Int) → (Int) → PM.R) : PM.R :=
  c_103 code (fun r1 r2 r3 =>
    c_117 r1 r2 r3 (fun r4 r5 r6 r7 =>
      c_108 r5 r6 r7 (A.ilen [1, 2, 3, 1, 2, 9, 10, 0]) (fun r8 r9 r10 r11 =>
        bif (A.inb r8 (A.ilen [1, 2, 3, 1, 2, 9, 10, 0])) then
          c_108 r9 r10 r11 (A.ilen [0, 1, 4, 8, 8, 7, 9, (-1)]) (fun r12 r13 r14 r15 =>
            bif (A.inb r12 (A.ilen [0, 1, 4, 8, 8, 7, 9, (-1)])) then
              c_108 r13 r14 r15 (A.ilen [1, 2, 1, 2, 1, 2, 3, 0]) (fun r16 r17 r18 r19 =>
                bif (A.inb r16 (A.ilen [1, 2, 1, 2, 1, 2, 3, 0])) then
                  k r4 (A.iget [1, 2, 3, 1, 2, 9, 10, 0] r8) (A.iget [0, 1, 4, 8, 8, 7, 9, (-1)] r12) (A.iget [1, 2, 1, 2, 1, 2, 3, 0] r16)
                else
                  none)
            else
              none)
        else
          none)))
noncomputable def spec_DrawHoldAsk (A : PM.Prims) : spec_DrawHoldAsk_T := spec_DrawHoldAsk_f A (spec_l1New A) (spec_l1Below A) (spec_l14Any A)
noncomputable def spec_DrawHoldAsk_L (A : PM.Prims) (c_103 : spec_l1New_T) (c_108 : spec_l1Below_T) (c_117 : spec_l14Any_T) (n : Nat) : PM.Lam := fun cur σ K =>
  match cur, σ, K with
  | _, _, _ => none
noncomputable def spec_DrawHoldAsk_E (A : PM.Prims) (c_103 : spec_l1New_T) (c_108 : spec_l1Below_T) (c_117 : spec_l14Any_T) : PM.Env := ⟨[(103, ⟨[], fun _ _ => none, some (PM.spNew (spec_l1New_w c_103))⟩), (108, ⟨[], fun _ _ => none, some (PM.spBox (spec_l1Below_w c_108))⟩), (117, ⟨[], fun _ _ => none, some (PM.spBox (spec_l14Any_w c_117))⟩)], [(118, Go.Proofs.Try.f118)], [], [(0, [0]), (1, [6]), (2, [6, 7]), (3, [2, 3, 4, 5])], spec_DrawHoldAsk_L A c_103 c_108 c_117 A.fuel⟩
theorem spec_DrawHoldAsk_ok (A : PM.Prims) (c_103 : spec_l1New_T) (c_108 : spec_l1Below_T) (c_117 : spec_l14Any_T) (code : List Int) (k : PM.V → PM.R) : PM.pfun A cx [] (spec_DrawHoldAsk_E A c_103 c_108 c_117) Go.Proofs.Try.f56 [.arr (.ints 5 .u8 code)] k = spec_DrawHoldAsk_f A c_103 c_108 c_117 code (fun r0 r1 r2 r3 => k (.tup [.arr (.vecs 73 3 r0), .int .i64 r1, .int .i64 r2, .int .i64 r3])) := by kernel_rfl

theorem spec_DrawHoldAsk_fn : PM.FnIs Try.prog 56 Try.f56 := .of Try.func56 (by kernel_rfl) (by kernel_rfl)
theorem spec_DrawHoldAsk_g : PM.GOk Try.prog cx 56 ⟨[], spec_DrawHoldAsk_w (spec_DrawHoldAsk PM.std), none⟩ := by
  refine ⟨spec_DrawHoldAsk_fn.enter, fun _ ds k r h => ?_, fun hm => absurd rfl hm, fun _ e => (by cases e)⟩
  change spec_DrawHoldAsk_w (spec_DrawHoldAsk PM.std) ds k = some r at h
  unfold spec_DrawHoldAsk_w at h
  split at h
  · exact PM.pfun_ok (E := spec_DrawHoldAsk_E PM.std (spec_l1New PM.std) (spec_l1Below PM.std) (spec_l14Any PM.std)) (L := fun n => spec_DrawHoldAsk_L PM.std (spec_l1New PM.std) (spec_l1Below PM.std) (spec_l14Any PM.std) n) (N := PM.std.fuel) cx_ok (.cons spec_l1New_g (.cons spec_l1Below_g (.cons spec_l14Any_g .nil))) mixed (.cons (.of Try.func118 (by kernel_rfl) (by kernel_rfl)) (by kernel_rfl) .nil) spec_DrawHoldAsk_fn (by kernel_rfl) ⟨rfl, fun _ _ _ => rfl, fun n cur σ K r h => by cases h⟩
      ((spec_DrawHoldAsk_ok PM.std (spec_l1New PM.std) (spec_l1Below PM.std) (spec_l14Any PM.std) _ k).trans h)
  · cases h

abbrev laws_sameHolds_T := (List (List Int)) → (List (List Int)) → ((Bool) → PM.R) → PM.R
noncomputable def laws_sameHolds_w (c : laws_sameHolds_T) (ds : List PM.V) (k : PM.V → PM.R) : PM.R :=
  match ds with
  | [.arr (.vecs 73 3 a), .arr (.vecs 73 3 b)] => c a b (fun r0 => k (.bool r0))
  | _ => none
noncomputable def laws_sameHolds_l0 (A : PM.Prims) : Nat → (List (List Int)) → (List (List Int)) → (Int) → ((Bool) → PM.R) → (Unit → PM.R) → PM.R
  | 0, _, _, _, _, _ => none
  | n + 1, a1, b2, i3, kret_0, kx0_0 =>
    bif (A.lt i3 (A.vlen a1)) then
      bif (A.inb i3 (A.vlen a1)) then
        bif (A.inb i3 (A.vlen b2)) then
          bif (A.not (A.and (A.eq (A.vget a1 i3 0) (A.vget b2 i3 0)) (A.and (A.eq (A.vget a1 i3 1) (A.vget b2 i3 1)) (A.eq (A.vget a1 i3 2) (A.vget b2 i3 2))))) then
            kret_0 false
          else
            laws_sameHolds_l0 A n a1 b2 (A.add .i64 i3 1) kret_0 kx0_0
        else
          none
      else
        none
    else
      kx0_0 ()
noncomputable def laws_sameHolds_f (A : PM.Prims) (a : List (List Int)) (b : List (List Int)) (k : (Bool) → PM.R) : PM.R :=
  bif (A.not (A.eq (A.vlen a) (A.vlen b))) then
    k false
  else
    laws_sameHolds_l0 A A.fuel a b 0 (fun t445 =>
      k t445) (fun _ =>
      k true)
noncomputable def laws_sameHolds (A : PM.Prims) : laws_sameHolds_T := laws_sameHolds_f A
noncomputable def laws_sameHolds_L (A : PM.Prims) (n : Nat) : PM.Lam := fun cur σ K =>
  match cur, σ, K with
  | 0, ⟨[(0, .arr (.vecs 73 3 a1)), (1, .arr (.vecs 73 3 b2)), (5, .int .i64 i3)], []⟩, K => laws_sameHolds_l0 A n a1 b2 i3 (fun t44 => K .ret ⟨[(4, .bool t44)], []⟩) (fun _ => K (.exit 0) ⟨[], []⟩)
  | _, _, _ => none
noncomputable def laws_sameHolds_E (A : PM.Prims) : PM.Env := ⟨[], [], [(0, [0, 1, 5], [4])], [(0, [0, 1]), (1, [0, 1, 10]), (2, [4]), (3, [0, 1, 5]), (4, [0, 1, 5, 14]), (5, [0, 1, 5]), (6, [0, 1, 5, 25]), (7, [4]), (8, [4])], laws_sameHolds_L A A.fuel⟩
theorem laws_sameHolds_l0_ok (A : PM.Prims) (n : Nat) (a1 : List (List Int)) (b2 : List (List Int)) (i3 : Int) (K : Go.Exit → PM.S → PM.R) : laws_sameHolds_L A (n + 1) 0 ⟨[(0, .arr (.vecs 73 3 a1)), (1, .arr (.vecs 73 3 b2)), (5, .int .i64 i3)], []⟩ K = PM.roundF A cx (PM.runD A cx (laws_sameHolds_E A).inl (laws_sameHolds_E A).Γ 3) (laws_sameHolds_E A) (laws_sameHolds_L A n) 0 Go.Proofs.Try.f57 ⟨[(0, .arr (.vecs 73 3 a1)), (1, .arr (.vecs 73 3 b2)), (5, .int .i64 i3)], []⟩ K := by kernel_rfl
theorem laws_sameHolds_ok (A : PM.Prims) (a : List (List Int)) (b : List (List Int)) (k : PM.V → PM.R) : PM.pfun A cx [] (laws_sameHolds_E A) Go.Proofs.Try.f57 [.arr (.vecs 73 3 a), .arr (.vecs 73 3 b)] k = laws_sameHolds_f A a b (fun r0 => k (.bool r0)) := by kernel_rfl

theorem laws_sameHolds_fn : PM.FnIs Try.prog 57 Try.f57 := .of Try.func57 (by kernel_rfl) (by kernel_rfl)
theorem laws_sameHolds_g : PM.GOk Try.prog cx 57 ⟨[], laws_sameHolds_w (laws_sameHolds PM.std), none⟩ := by
  refine ⟨laws_sameHolds_fn.enter, fun _ ds k r h => ?_, fun hm => absurd rfl hm, fun _ e => (by cases e)⟩
  change laws_sameHolds_w (laws_sameHolds PM.std) ds k = some r at h
  unfold laws_sameHolds_w at h
  split at h
  · exact PM.pfun_ok (E := laws_sameHolds_E PM.std) (L := fun n => laws_sameHolds_L PM.std n) (N := PM.std.fuel) cx_ok .nil mixed .nil laws_sameHolds_fn (by kernel_rfl) ⟨rfl, fun cur σ K => by
      dsimp only [laws_sameHolds_L]
      split <;> rfl, fun n cur σ K r h => by
      dsimp only [laws_sameHolds_L] at h
      split at h
      · exact (laws_sameHolds_l0_ok PM.std n _ _ _ K).symm.trans h
      · cases h⟩
      ((laws_sameHolds_ok PM.std _ _ k).trans h)
  · cases h

abbrev laws_has_T := (List Int) → (Int) → ((Bool) → PM.R) → PM.R
noncomputable def laws_has_w (c : laws_has_T) (ds : List PM.V) (k : PM.V → PM.R) : PM.R :=
  match ds with
  | [.arr (.ints 3 .i64 l), .int .i64 x] => c l x (fun r0 => k (.bool r0))
  | _ => none
noncomputable def laws_has_l0 (A : PM.Prims) : Nat → (List Int) → (Int) → (Int) → ((Bool) → PM.R) → (Unit → PM.R) → PM.R
  | 0, _, _, _, _, _ => none
  | n + 1, l1, x2, i3, kret_0, kx0_0 =>
    bif (A.lt i3 (A.ilen l1)) then
      bif (A.inb i3 (A.ilen l1)) then
        bif (A.eq (A.iget l1 i3) x2) then
          kret_0 true
        else
          laws_has_l0 A n l1 x2 (A.add .i64 i3 1) kret_0 kx0_0
      else
        none
    else
      kx0_0 ()
noncomputable def laws_has_f (A : PM.Prims) (l : List Int) (x : Int) (k : (Bool) → PM.R) : PM.R :=
  laws_has_l0 A A.fuel l x 0 (fun t445 =>
    k t445) (fun _ =>
    k false)
noncomputable def laws_has (A : PM.Prims) : laws_has_T := laws_has_f A
noncomputable def laws_has_L (A : PM.Prims) (n : Nat) : PM.Lam := fun cur σ K =>
  match cur, σ, K with
  | 0, ⟨[(0, .arr (.ints 3 .i64 l1)), (1, .int .i64 x2), (5, .int .i64 i3)], []⟩, K => laws_has_l0 A n l1 x2 i3 (fun t44 => K .ret ⟨[(4, .bool t44)], []⟩) (fun _ => K (.exit 0) ⟨[], []⟩)
  | _, _, _ => none
noncomputable def laws_has_E (A : PM.Prims) : PM.Env := ⟨[], [], [(0, [0, 1, 5], [4])], [(0, [0, 1]), (1, [0, 1, 5]), (2, [0, 1, 5, 9]), (3, [0, 1, 5]), (4, [0, 1, 5, 17]), (5, [4]), (6, [4])], laws_has_L A A.fuel⟩
theorem laws_has_l0_ok (A : PM.Prims) (n : Nat) (l1 : List Int) (x2 : Int) (i3 : Int) (K : Go.Exit → PM.S → PM.R) : laws_has_L A (n + 1) 0 ⟨[(0, .arr (.ints 3 .i64 l1)), (1, .int .i64 x2), (5, .int .i64 i3)], []⟩ K = PM.roundF A cx (PM.runD A cx (laws_has_E A).inl (laws_has_E A).Γ 3) (laws_has_E A) (laws_has_L A n) 0 Go.Proofs.Try.f58 ⟨[(0, .arr (.ints 3 .i64 l1)), (1, .int .i64 x2), (5, .int .i64 i3)], []⟩ K := by kernel_rfl
theorem laws_has_ok (A : PM.Prims) (l : List Int) (x : Int) (k : PM.V → PM.R) : PM.pfun A cx [] (laws_has_E A) Go.Proofs.Try.f58 [.arr (.ints 3 .i64 l), .int .i64 x] k = laws_has_f A l x (fun r0 => k (.bool r0)) := by kernel_rfl

theorem laws_has_fn : PM.FnIs Try.prog 58 Try.f58 := .of Try.func58 (by kernel_rfl) (by kernel_rfl)
theorem laws_has_g : PM.GOk Try.prog cx 58 ⟨[], laws_has_w (laws_has PM.std), none⟩ := by
  refine ⟨laws_has_fn.enter, fun _ ds k r h => ?_, fun hm => absurd rfl hm, fun _ e => (by cases e)⟩
  change laws_has_w (laws_has PM.std) ds k = some r at h
  unfold laws_has_w at h
  split at h
  · exact PM.pfun_ok (E := laws_has_E PM.std) (L := fun n => laws_has_L PM.std n) (N := PM.std.fuel) cx_ok .nil mixed .nil laws_has_fn (by kernel_rfl) ⟨rfl, fun cur σ K => by
      dsimp only [laws_has_L]
      split <;> rfl, fun n cur σ K r h => by
      dsimp only [laws_has_L] at h
      split at h
      · exact (laws_has_l0_ok PM.std n _ _ _ K).symm.trans h
      · cases h⟩
      ((laws_has_ok PM.std _ _ k).trans h)
  · cases h

abbrev laws_FnHolds_T := (List Int) → ((Bool) → PM.R) → PM.R
noncomputable def laws_FnHolds_w (c : laws_FnHolds_T) (ds : List PM.V) (k : PM.V → PM.R) : PM.R :=
  match ds with
  | [.arr (.ints 5 .u8 __)] => c __ (fun r0 => k (.bool r0))
  | _ => none
noncomputable def laws_FnHolds_l4 (A : PM.Prims) (c_37 : spec_HoldsOk_T) (c_50 : impl_HoldFree_T) (c_54 : spec_HoldAsk_T) (c_44 : impl_Blocks_T) (c_55 : impl_HoldAsk_T) (c_33 : laws_big_T) (c_56 : spec_DrawHoldAsk_T) (c_57 : laws_sameHolds_T) (c_42 : impl_HoldOf_T) (c_53 : impl_HoldsBy_T) (c_58 : laws_has_T) : Nat → (List (List Int)) → (Int) → (Int) → (Int) → (List (List Int)) → (List (List Int)) → (Int) → (Int) → ((Bool) → PM.R) → ((List (List Int)) → (Int) → (Int) → (Int) → (List (List Int)) → (List (List Int)) → (Int) → PM.R) → PM.R
  | 0, _, _, _, _, _, _, _, _, _, _ => none
  | n + 1, l42, who43, what44, mode45, x46, y47, i48, k49, kret_4, kx4_4 =>
    bif (A.lt k49 i48) then
      bif (A.inb i48 (A.vlen x46)) then
        bif (A.inb k49 (A.vlen x46)) then
          bif (A.eq (A.vget x46 i48 1) (A.vget x46 k49 1)) then
            bif (A.inb i48 (A.vlen x46)) then
              bif (A.eq (A.vget x46 i48 2) 2) then
                kret_4 false
              else
                bif (A.inb k49 (A.vlen x46)) then
                  bif (A.eq (A.vget x46 k49 2) 2) then
                    kret_4 false
                  else
                    laws_FnHolds_l4 A c_37 c_50 c_54 c_44 c_55 c_33 c_56 c_57 c_42 c_53 c_58 n l42 who43 what44 mode45 x46 y47 i48 (A.add .i64 k49 1) kret_4 kx4_4
                else
                  none
            else
              none
          else
            laws_FnHolds_l4 A c_37 c_50 c_54 c_44 c_55 c_33 c_56 c_57 c_42 c_53 c_58 n l42 who43 what44 mode45 x46 y47 i48 (A.add .i64 k49 1) kret_4 kx4_4
        else
          none
      else
        none
    else
      kx4_4 l42 who43 what44 mode45 x46 y47 i48
noncomputable def laws_FnHolds_l2 (A : PM.Prims) (c_37 : spec_HoldsOk_T) (c_50 : impl_HoldFree_T) (c_54 : spec_HoldAsk_T) (c_44 : impl_Blocks_T) (c_55 : impl_HoldAsk_T) (c_33 : laws_big_T) (c_56 : spec_DrawHoldAsk_T) (c_57 : laws_sameHolds_T) (c_42 : impl_HoldOf_T) (c_53 : impl_HoldsBy_T) (c_58 : laws_has_T) : Nat → (List (List Int)) → (Int) → (Int) → (Int) → (List (List Int)) → (List (List Int)) → (Int) → ((Bool) → PM.R) → ((List (List Int)) → (Int) → (Int) → (Int) → (List (List Int)) → (List (List Int)) → PM.R) → PM.R
  | 0, _, _, _, _, _, _, _, _, _ => none
  | n + 1, l35, who36, what37, mode38, x39, y40, i41, kret_2, kx2_2 =>
    bif (A.lt i41 (A.vlen x39)) then
      laws_FnHolds_l4 A c_37 c_50 c_54 c_44 c_55 c_33 c_56 c_57 c_42 c_53 c_58 A.fuel l35 who36 what37 mode38 x39 y40 i41 0 (fun t25058 =>
        kret_2 t25058) (fun l5160 who5261 what5362 mode5463 x5564 y5665 i5766 =>
        laws_FnHolds_l2 A c_37 c_50 c_54 c_44 c_55 c_33 c_56 c_57 c_42 c_53 c_58 n l5160 who5261 what5362 mode5463 x5564 y5665 (A.add .i64 i5766 1) kret_2 kx2_2)
    else
      kx2_2 l35 who36 what37 mode38 x39 y40
noncomputable def laws_FnHolds_l0 (A : PM.Prims) (c_37 : spec_HoldsOk_T) (c_50 : impl_HoldFree_T) (c_54 : spec_HoldAsk_T) (c_44 : impl_Blocks_T) (c_55 : impl_HoldAsk_T) (c_33 : laws_big_T) (c_56 : spec_DrawHoldAsk_T) (c_57 : laws_sameHolds_T) (c_42 : impl_HoldOf_T) (c_53 : impl_HoldsBy_T) (c_58 : laws_has_T) : Nat → (List (List Int)) → (Int) → (Int) → (Int) → (List (List Int)) → (List (List Int)) → (Int) → ((Bool) → PM.R) → ((List (List Int)) → (Int) → (Int) → (Int) → (List (List Int)) → (List (List Int)) → PM.R) → PM.R
  | 0, _, _, _, _, _, _, _, _, _ => none
  | n + 1, l14, who15, what16, mode17, x18, y19, i20, kret_0, kx0_0 =>
    bif (A.lt i20 (A.vlen y19)) then
      bif (A.inb i20 (A.vlen y19)) then
        bif (A.eq (A.vget y19 i20 0) who15) then
          kret_0 false
        else
          laws_FnHolds_l0 A c_37 c_50 c_54 c_44 c_55 c_33 c_56 c_57 c_42 c_53 c_58 n l14 who15 what16 mode17 x18 y19 (A.add .i64 i20 1) kret_0 kx0_0
      else
        none
    else
      kx0_0 l14 who15 what16 mode17 x18 y19
noncomputable def laws_FnHolds_f (A : PM.Prims) (c_37 : spec_HoldsOk_T) (c_50 : impl_HoldFree_T) (c_54 : spec_HoldAsk_T) (c_44 : impl_Blocks_T) (c_55 : impl_HoldAsk_T) (c_33 : laws_big_T) (c_56 : spec_DrawHoldAsk_T) (c_57 : laws_sameHolds_T) (c_42 : impl_HoldOf_T) (c_53 : impl_HoldsBy_T) (c_58 : laws_has_T) (__ : List Int) (k : (Bool) → PM.R) : PM.R :=
  c_33 __ (fun r1 =>
    bif r1 then
      k true
    else
      c_56 __ (fun r2 r3 r4 r5 =>
        c_55 r2 r3 r4 r5 (fun r6 r7 =>
          c_54 r2 r3 r4 r5 (fun r8 r9 =>
            bif (A.not (A.beq r7 r9)) then
              k false
            else
              bif (A.not r7) then
                c_57 r6 r2 (fun r10 =>
                  bif (A.not r10) then
                    k false
                  else
                    bif (A.not r7) then
                      c_37 r2 (fun r11 =>
                        bif (A.not r11) then
                          k true
                        else
                          bif (A.lt r3 1) then
                            k true
                          else
                            bif (A.lt 9 r3) then
                              k true
                            else
                              bif (A.lt r4 0) then
                                k true
                              else
                                bif (A.le 9 r4) then
                                  k true
                                else
                                  bif (A.lt r5 1) then
                                    k true
                                  else
                                    bif (A.lt 2 r5) then
                                      k true
                                    else
                                      c_44 r2 r3 r4 r5 (fun r12 =>
                                        k (A.lt 0 (A.ilen r12))))
                    else
                      c_50 r6 r3 (fun r13 =>
                        laws_FnHolds_l0 A c_37 c_50 c_54 c_44 c_55 c_33 c_56 c_57 c_42 c_53 c_58 A.fuel r2 r3 r4 r5 r6 r13 0 (fun t22128 =>
                          k t22128) (fun l2229 who2330 what2431 mode2532 x2633 y2734 =>
                          laws_FnHolds_l2 A c_37 c_50 c_54 c_44 c_55 c_33 c_56 c_57 c_42 c_53 c_58 A.fuel l2229 who2330 what2431 mode2532 x2633 y2734 0 (fun t25973 =>
                            k t25973) (fun l6774 who6875 what6976 mode7077 x7178 y7279 =>
                            c_37 x7178 (fun r80 =>
                              bif r80 then
                                c_37 y7279 (fun r81 =>
                                  bif r81 then
                                    c_42 x7178 who6875 what6976 (fun r82 =>
                                      bif (A.le mode7077 r82) then
                                        c_53 x7178 who6875 (fun r83 =>
                                          c_58 r83 what6976 (fun r84 =>
                                            bif r84 then
                                              c_44 l6774 who6875 what6976 mode7077 (fun r85 =>
                                                bif (A.eq (A.ilen r85) 0) then
                                                  c_53 y7279 who6875 (fun r86 =>
                                                    k (A.eq (A.ilen r86) 0))
                                                else
                                                  k false)
                                            else
                                              k false))
                                      else
                                        k false)
                                  else
                                    k false)
                              else
                                k false)))))
              else
                bif (A.not r7) then
                  c_37 r2 (fun r87 =>
                    bif (A.not r87) then
                      k true
                    else
                      bif (A.lt r3 1) then
                        k true
                      else
                        bif (A.lt 9 r3) then
                          k true
                        else
                          bif (A.lt r4 0) then
                            k true
                          else
                            bif (A.le 9 r4) then
                              k true
                            else
                              bif (A.lt r5 1) then
                                k true
                              else
                                bif (A.lt 2 r5) then
                                  k true
                                else
                                  c_44 r2 r3 r4 r5 (fun r88 =>
                                    k (A.lt 0 (A.ilen r88))))
                else
                  c_50 r6 r3 (fun r89 =>
                    laws_FnHolds_l0 A c_37 c_50 c_54 c_44 c_55 c_33 c_56 c_57 c_42 c_53 c_58 A.fuel r2 r3 r4 r5 r6 r89 0 (fun t22197 =>
                      k t22197) (fun l2298 who2399 what24100 mode25101 x26102 y27103 =>
                      laws_FnHolds_l2 A c_37 c_50 c_54 c_44 c_55 c_33 c_56 c_57 c_42 c_53 c_58 A.fuel l2298 who2399 what24100 mode25101 x26102 y27103 0 (fun t259111 =>
                        k t259111) (fun l67112 who68113 what69114 mode70115 x71116 y72117 =>
                        c_37 x71116 (fun r118 =>
                          bif r118 then
                            c_37 y72117 (fun r119 =>
                              bif r119 then
                                c_42 x71116 who68113 what69114 (fun r120 =>
                                  bif (A.le mode70115 r120) then
                                    c_53 x71116 who68113 (fun r121 =>
                                      c_58 r121 what69114 (fun r122 =>
                                        bif r122 then
                                          c_44 l67112 who68113 what69114 mode70115 (fun r123 =>
                                            bif (A.eq (A.ilen r123) 0) then
                                              c_53 y72117 who68113 (fun r124 =>
                                                k (A.eq (A.ilen r124) 0))
                                            else
                                              k false)
                                        else
                                          k false))
                                  else
                                    k false)
                              else
                                k false)
                          else
                            k false))))))))
noncomputable def laws_FnHolds (A : PM.Prims) : laws_FnHolds_T := laws_FnHolds_f A (spec_HoldsOk A) (impl_HoldFree A) (spec_HoldAsk A) (impl_Blocks A) (impl_HoldAsk A) (laws_big A) (spec_DrawHoldAsk A) (laws_sameHolds A) (impl_HoldOf A) (impl_HoldsBy A) (laws_has A)
noncomputable def laws_FnHolds_L (A : PM.Prims) (c_37 : spec_HoldsOk_T) (c_50 : impl_HoldFree_T) (c_54 : spec_HoldAsk_T) (c_44 : impl_Blocks_T) (c_55 : impl_HoldAsk_T) (c_33 : laws_big_T) (c_56 : spec_DrawHoldAsk_T) (c_57 : laws_sameHolds_T) (c_42 : impl_HoldOf_T) (c_53 : impl_HoldsBy_T) (c_58 : laws_has_T) (n : Nat) : PM.Lam := fun cur σ K =>
  match cur, σ, K with
  | 0, ⟨[(3, .arr (.vecs 73 3 l14)), (4, .int .i64 who15), (5, .int .i64 what16), (6, .int .i64 mode17), (7, .arr (.vecs 73 3 x18)), (11, .arr (.vecs 73 3 y19)), (12, .int .i64 i20)], []⟩, K => laws_FnHolds_l0 A c_37 c_50 c_54 c_44 c_55 c_33 c_56 c_57 c_42 c_53 c_58 n l14 who15 what16 mode17 x18 y19 i20 (fun t221 => K .ret ⟨[(2, .bool t221)], []⟩) (fun l22 who23 what24 mode25 x26 y27 => K (.exit 0) ⟨[(3, .arr (.vecs 73 3 l22)), (4, .int .i64 who23), (5, .int .i64 what24), (6, .int .i64 mode25), (7, .arr (.vecs 73 3 x26)), (11, .arr (.vecs 73 3 y27))], []⟩)
  | 2, ⟨[(3, .arr (.vecs 73 3 l35)), (4, .int .i64 who36), (5, .int .i64 what37), (6, .int .i64 mode38), (7, .arr (.vecs 73 3 x39)), (11, .arr (.vecs 73 3 y40)), (13, .int .i64 i41)], []⟩, K => laws_FnHolds_l2 A c_37 c_50 c_54 c_44 c_55 c_33 c_56 c_57 c_42 c_53 c_58 n l35 who36 what37 mode38 x39 y40 i41 (fun t259 => K .ret ⟨[(2, .bool t259)], []⟩) (fun l67 who68 what69 mode70 x71 y72 => K (.exit 2) ⟨[(3, .arr (.vecs 73 3 l67)), (4, .int .i64 who68), (5, .int .i64 what69), (6, .int .i64 mode70), (7, .arr (.vecs 73 3 x71)), (11, .arr (.vecs 73 3 y72))], []⟩)
  | 4, ⟨[(3, .arr (.vecs 73 3 l42)), (4, .int .i64 who43), (5, .int .i64 what44), (6, .int .i64 mode45), (7, .arr (.vecs 73 3 x46)), (11, .arr (.vecs 73 3 y47)), (13, .int .i64 i48), (14, .int .i64 k49)], []⟩, K => laws_FnHolds_l4 A c_37 c_50 c_54 c_44 c_55 c_33 c_56 c_57 c_42 c_53 c_58 n l42 who43 what44 mode45 x46 y47 i48 k49 (fun t250 => K .ret ⟨[(2, .bool t250)], []⟩) (fun l51 who52 what53 mode54 x55 y56 i57 => K (.exit 4) ⟨[(3, .arr (.vecs 73 3 l51)), (4, .int .i64 who52), (5, .int .i64 what53), (6, .int .i64 mode54), (7, .arr (.vecs 73 3 x55)), (11, .arr (.vecs 73 3 y56)), (13, .int .i64 i57)], []⟩)
  | _, _, _ => none
noncomputable def laws_FnHolds_E (A : PM.Prims) (c_37 : spec_HoldsOk_T) (c_50 : impl_HoldFree_T) (c_54 : spec_HoldAsk_T) (c_44 : impl_Blocks_T) (c_55 : impl_HoldAsk_T) (c_33 : laws_big_T) (c_56 : spec_DrawHoldAsk_T) (c_57 : laws_sameHolds_T) (c_42 : impl_HoldOf_T) (c_53 : impl_HoldsBy_T) (c_58 : laws_has_T) : PM.Env := ⟨[(37, ⟨[], fun _ _ => none, some (PM.spImm (spec_HoldsOk_w c_37))⟩), (50, ⟨[], fun _ _ => none, some (PM.spImm (impl_HoldFree_w c_50))⟩), (54, ⟨[], fun _ _ => none, some (PM.spImm (spec_HoldAsk_w c_54))⟩), (44, ⟨[], fun _ _ => none, some (PM.spImm (impl_Blocks_w c_44))⟩), (55, ⟨[], fun _ _ => none, some (PM.spImm (impl_HoldAsk_w c_55))⟩), (33, ⟨[], fun _ _ => none, some (PM.spImm (laws_big_w c_33))⟩), (56, ⟨[], fun _ _ => none, some (PM.spImm (spec_DrawHoldAsk_w c_56))⟩), (57, ⟨[], fun _ _ => none, some (PM.spImm (laws_sameHolds_w c_57))⟩), (42, ⟨[], fun _ _ => none, some (PM.spImm (impl_HoldOf_w c_42))⟩), (53, ⟨[], fun _ _ => none, some (PM.spImm (impl_HoldsBy_w c_53))⟩), (58, ⟨[], fun _ _ => none, some (PM.spImm (laws_has_w c_58))⟩)], [], [(0, [3, 4, 5, 6, 7, 11, 12], [2, 3, 4, 5, 6, 7, 11]), (2, [3, 4, 5, 6, 7, 11, 13], [2, 3, 4, 5, 6, 7, 11]), (4, [3, 4, 5, 6, 7, 11, 13, 14], [2, 3, 4, 5, 6, 7, 11, 13])], [(0, [0]), (1, [0, 16]), (2, [2]), (3, [3, 4, 5, 6]), (4, [3, 4, 5, 6, 7, 8]), (5, [3, 4, 5, 6, 7, 8, 10]), (6, [3, 4, 5, 6, 7, 8, 52]), (7, [2]), (8, [3, 4, 5, 6, 7, 54]), (9, [2]), (10, [3, 4, 5, 6, 7, 11]), (11, [3, 4, 5, 6, 7, 11, 12]), (12, [3, 4, 5, 6, 7, 11, 12, 97]), (13, [3, 4, 5, 6, 7, 11, 12]), (14, [3, 4, 5, 6, 7, 11, 12, 106]), (15, [2]), (16, [3, 4, 5, 6, 7, 11, 13]), (17, [3, 4, 5, 6, 7, 11, 13, 110]), (18, [3, 4, 5, 6, 7, 11, 13]), (19, [3, 4, 5, 6, 7, 11, 13, 14]), (20, [3, 4, 5, 6, 7, 11, 13, 14, 115]), (21, [3, 4, 5, 6, 7, 11, 13, 14]), (22, [3, 4, 5, 6, 7, 11, 13, 14, 144]), (23, [2]), (24, [2])], laws_FnHolds_L A c_37 c_50 c_54 c_44 c_55 c_33 c_56 c_57 c_42 c_53 c_58 A.fuel⟩
theorem laws_FnHolds_l0_ok (A : PM.Prims) (c_37 : spec_HoldsOk_T) (c_50 : impl_HoldFree_T) (c_54 : spec_HoldAsk_T) (c_44 : impl_Blocks_T) (c_55 : impl_HoldAsk_T) (c_33 : laws_big_T) (c_56 : spec_DrawHoldAsk_T) (c_57 : laws_sameHolds_T) (c_42 : impl_HoldOf_T) (c_53 : impl_HoldsBy_T) (c_58 : laws_has_T) (n : Nat) (l14 : List (List Int)) (who15 : Int) (what16 : Int) (mode17 : Int) (x18 : List (List Int)) (y19 : List (List Int)) (i20 : Int) (K : Go.Exit → PM.S → PM.R) : laws_FnHolds_L A c_37 c_50 c_54 c_44 c_55 c_33 c_56 c_57 c_42 c_53 c_58 (n + 1) 0 ⟨[(3, .arr (.vecs 73 3 l14)), (4, .int .i64 who15), (5, .int .i64 what16), (6, .int .i64 mode17), (7, .arr (.vecs 73 3 x18)), (11, .arr (.vecs 73 3 y19)), (12, .int .i64 i20)], []⟩ K = PM.roundF A cx (PM.runD A cx (laws_FnHolds_E A c_37 c_50 c_54 c_44 c_55 c_33 c_56 c_57 c_42 c_53 c_58).inl (laws_FnHolds_E A c_37 c_50 c_54 c_44 c_55 c_33 c_56 c_57 c_42 c_53 c_58).Γ 3) (laws_FnHolds_E A c_37 c_50 c_54 c_44 c_55 c_33 c_56 c_57 c_42 c_53 c_58) (laws_FnHolds_L A c_37 c_50 c_54 c_44 c_55 c_33 c_56 c_57 c_42 c_53 c_58 n) 0 Go.Proofs.Try.f13 ⟨[(3, .arr (.vecs 73 3 l14)), (4, .int .i64 who15), (5, .int .i64 what16), (6, .int .i64 mode17), (7, .arr (.vecs 73 3 x18)), (11, .arr (.vecs 73 3 y19)), (12, .int .i64 i20)], []⟩ K := by kernel_rfl
theorem laws_FnHolds_l2_ok (A : PM.Prims) (c_37 : spec_HoldsOk_T) (c_50 : impl_HoldFree_T) (c_54 : spec_HoldAsk_T) (c_44 : impl_Blocks_T) (c_55 : impl_HoldAsk_T) (c_33 : laws_big_T) (c_56 : spec_DrawHoldAsk_T) (c_57 : laws_sameHolds_T) (c_42 : impl_HoldOf_T) (c_53 : impl_HoldsBy_T) (c_58 : laws_has_T) (n : Nat) (l35 : List (List Int)) (who36 : Int) (what37 : Int) (mode38 : Int) (x39 : List (List Int)) (y40 : List (List Int)) (i41 : Int) (K : Go.Exit → PM.S → PM.R) : laws_FnHolds_L A c_37 c_50 c_54 c_44 c_55 c_33 c_56 c_57 c_42 c_53 c_58 (n + 1) 2 ⟨[(3, .arr (.vecs 73 3 l35)), (4, .int .i64 who36), (5, .int .i64 what37), (6, .int .i64 mode38), (7, .arr (.vecs 73 3 x39)), (11, .arr (.vecs 73 3 y40)), (13, .int .i64 i41)], []⟩ K = PM.roundF A cx (PM.runD A cx (laws_FnHolds_E A c_37 c_50 c_54 c_44 c_55 c_33 c_56 c_57 c_42 c_53 c_58).inl (laws_FnHolds_E A c_37 c_50 c_54 c_44 c_55 c_33 c_56 c_57 c_42 c_53 c_58).Γ 3) (laws_FnHolds_E A c_37 c_50 c_54 c_44 c_55 c_33 c_56 c_57 c_42 c_53 c_58) (laws_FnHolds_L A c_37 c_50 c_54 c_44 c_55 c_33 c_56 c_57 c_42 c_53 c_58 n) 2 Go.Proofs.Try.f13 ⟨[(3, .arr (.vecs 73 3 l35)), (4, .int .i64 who36), (5, .int .i64 what37), (6, .int .i64 mode38), (7, .arr (.vecs 73 3 x39)), (11, .arr (.vecs 73 3 y40)), (13, .int .i64 i41)], []⟩ K := by kernel_rfl
theorem laws_FnHolds_l4_ok (A : PM.Prims) (c_37 : spec_HoldsOk_T) (c_50 : impl_HoldFree_T) (c_54 : spec_HoldAsk_T) (c_44 : impl_Blocks_T) (c_55 : impl_HoldAsk_T) (c_33 : laws_big_T) (c_56 : spec_DrawHoldAsk_T) (c_57 : laws_sameHolds_T) (c_42 : impl_HoldOf_T) (c_53 : impl_HoldsBy_T) (c_58 : laws_has_T) (n : Nat) (l42 : List (List Int)) (who43 : Int) (what44 : Int) (mode45 : Int) (x46 : List (List Int)) (y47 : List (List Int)) (i48 : Int) (k49 : Int) (K : Go.Exit → PM.S → PM.R) : laws_FnHolds_L A c_37 c_50 c_54 c_44 c_55 c_33 c_56 c_57 c_42 c_53 c_58 (n + 1) 4 ⟨[(3, .arr (.vecs 73 3 l42)), (4, .int .i64 who43), (5, .int .i64 what44), (6, .int .i64 mode45), (7, .arr (.vecs 73 3 x46)), (11, .arr (.vecs 73 3 y47)), (13, .int .i64 i48), (14, .int .i64 k49)], []⟩ K = PM.roundF A cx (PM.runD A cx (laws_FnHolds_E A c_37 c_50 c_54 c_44 c_55 c_33 c_56 c_57 c_42 c_53 c_58).inl (laws_FnHolds_E A c_37 c_50 c_54 c_44 c_55 c_33 c_56 c_57 c_42 c_53 c_58).Γ 3) (laws_FnHolds_E A c_37 c_50 c_54 c_44 c_55 c_33 c_56 c_57 c_42 c_53 c_58) (laws_FnHolds_L A c_37 c_50 c_54 c_44 c_55 c_33 c_56 c_57 c_42 c_53 c_58 n) 4 Go.Proofs.Try.f13 ⟨[(3, .arr (.vecs 73 3 l42)), (4, .int .i64 who43), (5, .int .i64 what44), (6, .int .i64 mode45), (7, .arr (.vecs 73 3 x46)), (11, .arr (.vecs 73 3 y47)), (13, .int .i64 i48), (14, .int .i64 k49)], []⟩ K := by kernel_rfl
theorem laws_FnHolds_ok (A : PM.Prims) (c_37 : spec_HoldsOk_T) (c_50 : impl_HoldFree_T) (c_54 : spec_HoldAsk_T) (c_44 : impl_Blocks_T) (c_55 : impl_HoldAsk_T) (c_33 : laws_big_T) (c_56 : spec_DrawHoldAsk_T) (c_57 : laws_sameHolds_T) (c_42 : impl_HoldOf_T) (c_53 : impl_HoldsBy_T) (c_58 : laws_has_T) (__ : List Int) (k : PM.V → PM.R) : PM.pfun A cx [] (laws_FnHolds_E A c_37 c_50 c_54 c_44 c_55 c_33 c_56 c_57 c_42 c_53 c_58) Go.Proofs.Try.f13 [.arr (.ints 5 .u8 __)] k = laws_FnHolds_f A c_37 c_50 c_54 c_44 c_55 c_33 c_56 c_57 c_42 c_53 c_58 __ (fun r0 => k (.bool r0)) := by kernel_rfl

theorem laws_FnHolds_fn : PM.FnIs Try.prog 13 Try.f13 := .of Try.func13 (by kernel_rfl) (by kernel_rfl)
theorem laws_FnHolds_g : PM.GOk Try.prog cx 13 ⟨[], laws_FnHolds_w (laws_FnHolds PM.std), none⟩ := by
  refine ⟨laws_FnHolds_fn.enter, fun _ ds k r h => ?_, fun hm => absurd rfl hm, fun _ e => (by cases e)⟩
  change laws_FnHolds_w (laws_FnHolds PM.std) ds k = some r at h
  unfold laws_FnHolds_w at h
  split at h
  · exact PM.pfun_ok (E := laws_FnHolds_E PM.std (spec_HoldsOk PM.std) (impl_HoldFree PM.std) (spec_HoldAsk PM.std) (impl_Blocks PM.std) (impl_HoldAsk PM.std) (laws_big PM.std) (spec_DrawHoldAsk PM.std) (laws_sameHolds PM.std) (impl_HoldOf PM.std) (impl_HoldsBy PM.std) (laws_has PM.std)) (L := fun n => laws_FnHolds_L PM.std (spec_HoldsOk PM.std) (impl_HoldFree PM.std) (spec_HoldAsk PM.std) (impl_Blocks PM.std) (impl_HoldAsk PM.std) (laws_big PM.std) (spec_DrawHoldAsk PM.std) (laws_sameHolds PM.std) (impl_HoldOf PM.std) (impl_HoldsBy PM.std) (laws_has PM.std) n) (N := PM.std.fuel) cx_ok (.cons (PM.GOk.imm spec_HoldsOk_g) (.cons (PM.GOk.imm impl_HoldFree_g) (.cons (PM.GOk.imm spec_HoldAsk_g) (.cons (PM.GOk.imm impl_Blocks_g) (.cons (PM.GOk.imm impl_HoldAsk_g) (.cons (PM.GOk.imm laws_big_g) (.cons (PM.GOk.imm spec_DrawHoldAsk_g) (.cons (PM.GOk.imm laws_sameHolds_g) (.cons (PM.GOk.imm impl_HoldOf_g) (.cons (PM.GOk.imm impl_HoldsBy_g) (.cons (PM.GOk.imm laws_has_g) .nil))))))))))) mixed .nil laws_FnHolds_fn (by kernel_rfl) ⟨rfl, fun cur σ K => by
      dsimp only [laws_FnHolds_L]
      split <;> rfl, fun n cur σ K r h => by
      dsimp only [laws_FnHolds_L] at h
      split at h
      · exact (laws_FnHolds_l0_ok PM.std (spec_HoldsOk PM.std) (impl_HoldFree PM.std) (spec_HoldAsk PM.std) (impl_Blocks PM.std) (impl_HoldAsk PM.std) (laws_big PM.std) (spec_DrawHoldAsk PM.std) (laws_sameHolds PM.std) (impl_HoldOf PM.std) (impl_HoldsBy PM.std) (laws_has PM.std) n _ _ _ _ _ _ _ K).symm.trans h
      · exact (laws_FnHolds_l2_ok PM.std (spec_HoldsOk PM.std) (impl_HoldFree PM.std) (spec_HoldAsk PM.std) (impl_Blocks PM.std) (impl_HoldAsk PM.std) (laws_big PM.std) (spec_DrawHoldAsk PM.std) (laws_sameHolds PM.std) (impl_HoldOf PM.std) (impl_HoldsBy PM.std) (laws_has PM.std) n _ _ _ _ _ _ _ K).symm.trans h
      · exact (laws_FnHolds_l4_ok PM.std (spec_HoldsOk PM.std) (impl_HoldFree PM.std) (spec_HoldAsk PM.std) (impl_Blocks PM.std) (impl_HoldAsk PM.std) (laws_big PM.std) (spec_DrawHoldAsk PM.std) (laws_sameHolds PM.std) (impl_HoldOf PM.std) (impl_HoldsBy PM.std) (laws_has PM.std) n _ _ _ _ _ _ _ _ K).symm.trans h
      · cases h⟩
      ((laws_FnHolds_ok PM.std (spec_HoldsOk PM.std) (impl_HoldFree PM.std) (spec_HoldAsk PM.std) (impl_Blocks PM.std) (impl_HoldAsk PM.std) (laws_big PM.std) (spec_DrawHoldAsk PM.std) (laws_sameHolds PM.std) (impl_HoldOf PM.std) (impl_HoldsBy PM.std) (laws_has PM.std) _ k).trans h)
  · cases h

abbrev laws_szRowS_T := (List (List Int)) → (Int) → ((Int) → PM.R) → PM.R
noncomputable def laws_szRowS_w (c : laws_szRowS_T) (ds : List PM.V) (k : PM.V → PM.R) : PM.R :=
  match ds with
  | [.arr (.vecs 139 2 a), .int .i64 left] => c a left (fun r0 => k (.int .i64 r0))
  | _ => none
noncomputable def laws_szRowS_f (A : PM.Prims) (a : List (List Int)) (left : Int) (k : (Int) → PM.R) : PM.R :=
  bif (A.lt (A.sub .i64 left (A.vlen a)) 0) then
    k (-1)
  else
    k (A.sub .i64 left (A.vlen a))
noncomputable def laws_szRowS (A : PM.Prims) : laws_szRowS_T := laws_szRowS_f A
noncomputable def laws_szRowS_L (A : PM.Prims) (n : Nat) : PM.Lam := fun cur σ K =>
  match cur, σ, K with
  | _, _, _ => none
noncomputable def laws_szRowS_E (A : PM.Prims) : PM.Env := ⟨[], [], [], [(0, [0, 1]), (1, [1]), (2, [1, 10]), (3, [4]), (4, [4])], laws_szRowS_L A A.fuel⟩
theorem laws_szRowS_ok (A : PM.Prims) (a : List (List Int)) (left : Int) (k : PM.V → PM.R) : PM.pfun A cx [] (laws_szRowS_E A) Go.Proofs.Try.f66 [.arr (.vecs 139 2 a), .int .i64 left] k = laws_szRowS_f A a left (fun r0 => k (.int .i64 r0)) := by kernel_rfl

theorem laws_szRowS_fn : PM.FnIs Try.prog 66 Try.f66 := .of Try.func66 (by kernel_rfl) (by kernel_rfl)
theorem laws_szRowS_g : PM.GOk Try.prog cx 66 ⟨[], laws_szRowS_w (laws_szRowS PM.std), none⟩ := by
  refine ⟨laws_szRowS_fn.enter, fun _ ds k r h => ?_, fun hm => absurd rfl hm, fun _ e => (by cases e)⟩
  change laws_szRowS_w (laws_szRowS PM.std) ds k = some r at h
  unfold laws_szRowS_w at h
  split at h
  · exact PM.pfun_ok (E := laws_szRowS_E PM.std) (L := fun n => laws_szRowS_L PM.std n) (N := PM.std.fuel) cx_ok .nil mixed .nil laws_szRowS_fn (by kernel_rfl) ⟨rfl, fun _ _ _ => rfl, fun n cur σ K r h => by cases h⟩
      ((laws_szRowS_ok PM.std _ _ k).trans h)
  · cases h

abbrev laws_toRow_T := (Int) → (Int) → ((Int) → (Int) → PM.R) → PM.R
noncomputable def laws_toRow_w (c : laws_toRow_T) (ds : List PM.V) (k : PM.V → PM.R) : PM.R :=
  match ds with
  | [.agg [.int .i64 a_Cell, .int .i64 a_Val]] => c a_Cell a_Val (fun r0_Cell r0_Val => k (.agg [.int .i64 r0_Cell, .int .i64 r0_Val]))
  | _ => none
noncomputable def laws_toRow_f (A : PM.Prims) (a_Cell : Int) (a_Val : Int) (k : (Int) → (Int) → PM.R) : PM.R :=
  k a_Cell a_Val
noncomputable def laws_toRow (A : PM.Prims) : laws_toRow_T := laws_toRow_f A
noncomputable def laws_toRow_L (A : PM.Prims) (n : Nat) : PM.Lam := fun cur σ K =>
  match cur, σ, K with
  | _, _, _ => none
noncomputable def laws_toRow_E (A : PM.Prims) : PM.Env := ⟨[], [], [], [(0, [1, 2]), (1, [1, 2, 3]), (2, [1, 2, 3]), (3, [2, 3]), (4, [2])], laws_toRow_L A A.fuel⟩
theorem laws_toRow_ok (A : PM.Prims) (a_Cell : Int) (a_Val : Int) (k : PM.V → PM.R) : PM.pfun A cx [] (laws_toRow_E A) Go.Proofs.Try.f128 [.agg [.int .i64 a_Cell, .int .i64 a_Val]] k = laws_toRow_f A a_Cell a_Val (fun r0_Cell r0_Val => k (.agg [.int .i64 r0_Cell, .int .i64 r0_Val])) := by kernel_rfl

theorem laws_toRow_fn : PM.FnIs Try.prog 128 Try.f128 := .of Try.func128 (by kernel_rfl) (by kernel_rfl)
theorem laws_toRow_g : PM.GOk Try.prog cx 128 ⟨[], laws_toRow_w (laws_toRow PM.std), none⟩ := by
  refine ⟨laws_toRow_fn.enter, fun _ ds k r h => ?_, fun hm => absurd rfl hm, fun _ e => (by cases e)⟩
  change laws_toRow_w (laws_toRow PM.std) ds k = some r at h
  unfold laws_toRow_w at h
  split at h
  · exact PM.pfun_ok (E := laws_toRow_E PM.std) (L := fun n => laws_toRow_L PM.std n) (N := PM.std.fuel) cx_ok .nil mixed .nil laws_toRow_fn (by kernel_rfl) ⟨rfl, fun _ _ _ => rfl, fun n cur σ K r h => by cases h⟩
      ((laws_toRow_ok PM.std _ _ k).trans h)
  · cases h

abbrev laws_toRowS_T := (List (List Int)) → ((List (List Int)) → PM.R) → PM.R
noncomputable def laws_toRowS_w (c : laws_toRowS_T) (ds : List PM.V) (k : PM.V → PM.R) : PM.R :=
  match ds with
  | [.arr (.vecs 139 2 a)] => c a (fun r0 => k (.arr (.vecs 135 2 r0)))
  | _ => none
noncomputable def laws_toRowS_l0 (A : PM.Prims) (c_128 : laws_toRow_T) : Nat → (List (List Int)) → (Int) → (List (List Int)) → ((List (List Int)) → PM.R) → PM.R
  | 0, _, _, _, _ => none
  | n + 1, a1, i2, o03, kx0_0 =>
    bif (A.lt i2 (A.vlen a1)) then
      bif (A.inb i2 (A.vlen a1)) then
        c_128 (A.vget a1 i2 0) (A.vget a1 i2 1) (fun r4 r5 =>
          bif (A.inb i2 (A.vlen o03)) then
            laws_toRowS_l0 A c_128 n a1 (A.add .i64 i2 1) (A.vput o03 i2 [r4, r5]) kx0_0
          else
            none)
      else
        none
    else
      kx0_0 o03
noncomputable def laws_toRowS_f (A : PM.Prims) (c_128 : laws_toRow_T) (a : List (List Int)) (k : (List (List Int)) → PM.R) : PM.R :=
  bif (A.mkOk (A.vlen a)) then
    bif (A.le (A.vlen a) (A.vlen a)) then
      bif (A.mkOk (A.vlen a)) then
        laws_toRowS_l0 A c_128 A.fuel a 0 (A.vzero 2 (A.vlen a)) (fun o067 =>
          k o067)
      else
        none
    else
      none
  else
    none
noncomputable def laws_toRowS (A : PM.Prims) : laws_toRowS_T := laws_toRowS_f A (laws_toRow A)
noncomputable def laws_toRowS_L (A : PM.Prims) (c_128 : laws_toRow_T) (n : Nat) : PM.Lam := fun cur σ K =>
  match cur, σ, K with
  | 0, ⟨[(0, .arr (.vecs 139 2 a1)), (3, .sref 0), (4, .int .i64 i2)], [(0, .arr true (.vecs 135 2 o03))]⟩, K => laws_toRowS_l0 A c_128 n a1 i2 o03 (fun o06 => K (.exit 0) ⟨[(3, .sref 0)], [(0, .arr true (.vecs 135 2 o06))]⟩)
  | _, _, _ => none
noncomputable def laws_toRowS_E (A : PM.Prims) (c_128 : laws_toRow_T) : PM.Env := ⟨[(128, ⟨[], laws_toRow_w c_128, none⟩)], [], [(0, [0, 3, 4], [2, 3])], [(0, [0]), (1, [0, 3]), (2, [0, 3, 4]), (3, [0, 3, 4, 11]), (4, [0, 3, 4]), (5, [0, 3, 4]), (6, [2])], laws_toRowS_L A c_128 A.fuel⟩
theorem laws_toRowS_l0_ok (A : PM.Prims) (c_128 : laws_toRow_T) (n : Nat) (a1 : List (List Int)) (i2 : Int) (o03 : List (List Int)) (K : Go.Exit → PM.S → PM.R) : laws_toRowS_L A c_128 (n + 1) 0 ⟨[(0, .arr (.vecs 139 2 a1)), (3, .sref 0), (4, .int .i64 i2)], [(0, .arr true (.vecs 135 2 o03))]⟩ K = PM.roundF A cx (PM.runD A cx (laws_toRowS_E A c_128).inl (laws_toRowS_E A c_128).Γ 3) (laws_toRowS_E A c_128) (laws_toRowS_L A c_128 n) 0 Go.Proofs.Try.f68 ⟨[(0, .arr (.vecs 139 2 a1)), (3, .sref 0), (4, .int .i64 i2)], [(0, .arr true (.vecs 135 2 o03))]⟩ K := by kernel_rfl
theorem laws_toRowS_ok (A : PM.Prims) (c_128 : laws_toRow_T) (a : List (List Int)) (k : PM.V → PM.R) : PM.pfun A cx [] (laws_toRowS_E A c_128) Go.Proofs.Try.f68 [.arr (.vecs 139 2 a)] k = laws_toRowS_f A c_128 a (fun r0 => k (.arr (.vecs 135 2 r0))) := by kernel_rfl

theorem laws_toRowS_fn : PM.FnIs Try.prog 68 Try.f68 := .of Try.func68 (by kernel_rfl) (by kernel_rfl)
theorem laws_toRowS_g : PM.GOk Try.prog cx 68 ⟨[], laws_toRowS_w (laws_toRowS PM.std), none⟩ := by
  refine ⟨laws_toRowS_fn.enter, fun _ ds k r h => ?_, fun hm => absurd rfl hm, fun _ e => (by cases e)⟩
  change laws_toRowS_w (laws_toRowS PM.std) ds k = some r at h
  unfold laws_toRowS_w at h
  split at h
  · exact PM.pfun_ok (E := laws_toRowS_E PM.std (laws_toRow PM.std)) (L := fun n => laws_toRowS_L PM.std (laws_toRow PM.std) n) (N := PM.std.fuel) cx_ok (.cons laws_toRow_g .nil) mixed .nil laws_toRowS_fn (by kernel_rfl) ⟨rfl, fun cur σ K => by
      dsimp only [laws_toRowS_L]
      split <;> rfl, fun n cur σ K r h => by
      dsimp only [laws_toRowS_L] at h
      split at h
      · exact (laws_toRowS_l0_ok PM.std (laws_toRow PM.std) n _ _ _ K).symm.trans h
      · cases h⟩
      ((laws_toRowS_ok PM.std (laws_toRow PM.std) _ k).trans h)
  · cases h

abbrev laws_toIntS_T := (List Int) → ((List Int) → PM.R) → PM.R
noncomputable def laws_toIntS_w (c : laws_toIntS_T) (ds : List PM.V) (k : PM.V → PM.R) : PM.R :=
  match ds with
  | [.arr (.ints 3 .i64 a)] => c a (fun r0 => k (.arr (.ints 3 .i64 r0)))
  | _ => none
noncomputable def laws_toIntS_l0 (A : PM.Prims) : Nat → (List Int) → (Int) → (List Int) → ((List Int) → PM.R) → PM.R
  | 0, _, _, _, _ => none
  | n + 1, a1, i2, o03, kx0_0 =>
    bif (A.lt i2 (A.ilen a1)) then
      bif (A.inb i2 (A.ilen a1)) then
        bif (A.inb i2 (A.ilen o03)) then
          laws_toIntS_l0 A n a1 (A.add .i64 i2 1) (A.iset o03 i2 (A.iget a1 i2)) kx0_0
        else
          none
      else
        none
    else
      kx0_0 o03
noncomputable def laws_toIntS_f (A : PM.Prims) (a : List Int) (k : (List Int) → PM.R) : PM.R :=
  bif (A.mkOk (A.ilen a)) then
    bif (A.le (A.ilen a) (A.ilen a)) then
      bif (A.mkOk (A.ilen a)) then
        laws_toIntS_l0 A A.fuel a 0 (A.izero (A.ilen a)) (fun o045 =>
          k o045)
      else
        none
    else
      none
  else
    none
noncomputable def laws_toIntS (A : PM.Prims) : laws_toIntS_T := laws_toIntS_f A
noncomputable def laws_toIntS_L (A : PM.Prims) (n : Nat) : PM.Lam := fun cur σ K =>
  match cur, σ, K with
  | 0, ⟨[(0, .arr (.ints 3 .i64 a1)), (3, .sref 0), (4, .int .i64 i2)], [(0, .arr true (.ints 3 .i64 o03))]⟩, K => laws_toIntS_l0 A n a1 i2 o03 (fun o04 => K (.exit 0) ⟨[(3, .sref 0)], [(0, .arr true (.ints 3 .i64 o04))]⟩)
  | _, _, _ => none
noncomputable def laws_toIntS_E (A : PM.Prims) : PM.Env := ⟨[], [], [(0, [0, 3, 4], [2, 3])], [(0, [0]), (1, [0, 3]), (2, [0, 3, 4]), (3, [0, 3, 4, 11]), (4, [0, 3, 4]), (5, [0, 3, 4]), (6, [2])], laws_toIntS_L A A.fuel⟩
theorem laws_toIntS_l0_ok (A : PM.Prims) (n : Nat) (a1 : List Int) (i2 : Int) (o03 : List Int) (K : Go.Exit → PM.S → PM.R) : laws_toIntS_L A (n + 1) 0 ⟨[(0, .arr (.ints 3 .i64 a1)), (3, .sref 0), (4, .int .i64 i2)], [(0, .arr true (.ints 3 .i64 o03))]⟩ K = PM.roundF A cx (PM.runD A cx (laws_toIntS_E A).inl (laws_toIntS_E A).Γ 3) (laws_toIntS_E A) (laws_toIntS_L A n) 0 Go.Proofs.Try.f122 ⟨[(0, .arr (.ints 3 .i64 a1)), (3, .sref 0), (4, .int .i64 i2)], [(0, .arr true (.ints 3 .i64 o03))]⟩ K := by kernel_rfl
theorem laws_toIntS_ok (A : PM.Prims) (a : List Int) (k : PM.V → PM.R) : PM.pfun A cx [] (laws_toIntS_E A) Go.Proofs.Try.f122 [.arr (.ints 3 .i64 a)] k = laws_toIntS_f A a (fun r0 => k (.arr (.ints 3 .i64 r0))) := by kernel_rfl

theorem laws_toIntS_fn : PM.FnIs Try.prog 122 Try.f122 := .of Try.func122 (by kernel_rfl) (by kernel_rfl)
theorem laws_toIntS_g : PM.GOk Try.prog cx 122 ⟨[], laws_toIntS_w (laws_toIntS PM.std), none⟩ := by
  refine ⟨laws_toIntS_fn.enter, fun _ ds k r h => ?_, fun hm => absurd rfl hm, fun _ e => (by cases e)⟩
  change laws_toIntS_w (laws_toIntS PM.std) ds k = some r at h
  unfold laws_toIntS_w at h
  split at h
  · exact PM.pfun_ok (E := laws_toIntS_E PM.std) (L := fun n => laws_toIntS_L PM.std n) (N := PM.std.fuel) cx_ok .nil mixed .nil laws_toIntS_fn (by kernel_rfl) ⟨rfl, fun cur σ K => by
      dsimp only [laws_toIntS_L]
      split <;> rfl, fun n cur σ K r h => by
      dsimp only [laws_toIntS_L] at h
      split at h
      · exact (laws_toIntS_l0_ok PM.std n _ _ _ K).symm.trans h
      · cases h⟩
      ((laws_toIntS_ok PM.std _ k).trans h)
  · cases h

abbrev laws_eqRow_T := (Int) → (Int) → (Int) → (Int) → ((Bool) → PM.R) → PM.R
noncomputable def laws_eqRow_w (c : laws_eqRow_T) (ds : List PM.V) (k : PM.V → PM.R) : PM.R :=
  match ds with
  | [.agg [.int .i64 a_Cell, .int .i64 a_Val], .agg [.int .i64 b_Cell, .int .i64 b_Val]] => c a_Cell a_Val b_Cell b_Val (fun r0 => k (.bool r0))
  | _ => none
noncomputable def laws_eqRow_f (A : PM.Prims) (a_Cell : Int) (a_Val : Int) (b_Cell : Int) (b_Val : Int) (k : (Bool) → PM.R) : PM.R :=
  bif (A.not (A.eq a_Cell b_Cell)) then
    k false
  else
    bif (A.not (A.eq a_Val b_Val)) then
      k false
    else
      k true
noncomputable def laws_eqRow (A : PM.Prims) : laws_eqRow_T := laws_eqRow_f A
noncomputable def laws_eqRow_L (A : PM.Prims) (n : Nat) : PM.Lam := fun cur σ K =>
  match cur, σ, K with
  | _, _, _ => none
noncomputable def laws_eqRow_E (A : PM.Prims) : PM.Env := ⟨[], [], [], [(0, [2, 3]), (1, [2, 3, 9]), (2, [4]), (3, [14]), (4, [4]), (5, [4])], laws_eqRow_L A A.fuel⟩
theorem laws_eqRow_ok (A : PM.Prims) (a_Cell : Int) (a_Val : Int) (b_Cell : Int) (b_Val : Int) (k : PM.V → PM.R) : PM.pfun A cx [] (laws_eqRow_E A) Go.Proofs.Try.f129 [.agg [.int .i64 a_Cell, .int .i64 a_Val], .agg [.int .i64 b_Cell, .int .i64 b_Val]] k = laws_eqRow_f A a_Cell a_Val b_Cell b_Val (fun r0 => k (.bool r0)) := by kernel_rfl

theorem laws_eqRow_fn : PM.FnIs Try.prog 129 Try.f129 := .of Try.func129 (by kernel_rfl) (by kernel_rfl)
theorem laws_eqRow_g : PM.GOk Try.prog cx 129 ⟨[], laws_eqRow_w (laws_eqRow PM.std), none⟩ := by
  refine ⟨laws_eqRow_fn.enter, fun _ ds k r h => ?_, fun hm => absurd rfl hm, fun _ e => (by cases e)⟩
  change laws_eqRow_w (laws_eqRow PM.std) ds k = some r at h
  unfold laws_eqRow_w at h
  split at h
  · exact PM.pfun_ok (E := laws_eqRow_E PM.std) (L := fun n => laws_eqRow_L PM.std n) (N := PM.std.fuel) cx_ok .nil mixed .nil laws_eqRow_fn (by kernel_rfl) ⟨rfl, fun _ _ _ => rfl, fun n cur σ K r h => by cases h⟩
      ((laws_eqRow_ok PM.std _ _ _ _ k).trans h)
  · cases h

abbrev laws_eqRowS_T := (List (List Int)) → (List (List Int)) → ((Bool) → PM.R) → PM.R
noncomputable def laws_eqRowS_w (c : laws_eqRowS_T) (ds : List PM.V) (k : PM.V → PM.R) : PM.R :=
  match ds with
  | [.arr (.vecs 135 2 a), .arr (.vecs 135 2 b)] => c a b (fun r0 => k (.bool r0))
  | _ => none
noncomputable def laws_eqRowS_l0 (A : PM.Prims) (c_129 : laws_eqRow_T) : Nat → (List (List Int)) → (List (List Int)) → (Int) → ((Bool) → PM.R) → (Unit → PM.R) → PM.R
  | 0, _, _, _, _, _ => none
  | n + 1, a1, b2, i3, kret_0, kx0_0 =>
    bif (A.lt i3 (A.vlen a1)) then
      bif (A.inb i3 (A.vlen a1)) then
        bif (A.inb i3 (A.vlen b2)) then
          c_129 (A.vget a1 i3 0) (A.vget a1 i3 1) (A.vget b2 i3 0) (A.vget b2 i3 1) (fun r4 =>
            bif (A.not r4) then
              kret_0 false
            else
              laws_eqRowS_l0 A c_129 n a1 b2 (A.add .i64 i3 1) kret_0 kx0_0)
        else
          none
      else
        none
    else
      kx0_0 ()
noncomputable def laws_eqRowS_f (A : PM.Prims) (c_129 : laws_eqRow_T) (a : List (List Int)) (b : List (List Int)) (k : (Bool) → PM.R) : PM.R :=
  bif (A.not (A.eq (A.vlen a) (A.vlen b))) then
    k false
  else
    laws_eqRowS_l0 A c_129 A.fuel a b 0 (fun t456 =>
      k t456) (fun _ =>
      k true)
noncomputable def laws_eqRowS (A : PM.Prims) : laws_eqRowS_T := laws_eqRowS_f A (laws_eqRow A)
noncomputable def laws_eqRowS_L (A : PM.Prims) (c_129 : laws_eqRow_T) (n : Nat) : PM.Lam := fun cur σ K =>
  match cur, σ, K with
  | 0, ⟨[(0, .arr (.vecs 135 2 a1)), (1, .arr (.vecs 135 2 b2)), (5, .int .i64 i3)], []⟩, K => laws_eqRowS_l0 A c_129 n a1 b2 i3 (fun t45 => K .ret ⟨[(4, .bool t45)], []⟩) (fun _ => K (.exit 0) ⟨[], []⟩)
  | _, _, _ => none
noncomputable def laws_eqRowS_E (A : PM.Prims) (c_129 : laws_eqRow_T) : PM.Env := ⟨[(129, ⟨[], laws_eqRow_w c_129, none⟩)], [], [(0, [0, 1, 5], [4])], [(0, [0, 1]), (1, [0, 1, 10]), (2, [4]), (3, [0, 1, 5]), (4, [0, 1, 5, 14]), (5, [0, 1, 5]), (6, [0, 1, 5, 26]), (7, [4]), (8, [4])], laws_eqRowS_L A c_129 A.fuel⟩
theorem laws_eqRowS_l0_ok (A : PM.Prims) (c_129 : laws_eqRow_T) (n : Nat) (a1 : List (List Int)) (b2 : List (List Int)) (i3 : Int) (K : Go.Exit → PM.S → PM.R) : laws_eqRowS_L A c_129 (n + 1) 0 ⟨[(0, .arr (.vecs 135 2 a1)), (1, .arr (.vecs 135 2 b2)), (5, .int .i64 i3)], []⟩ K = PM.roundF A cx (PM.runD A cx (laws_eqRowS_E A c_129).inl (laws_eqRowS_E A c_129).Γ 3) (laws_eqRowS_E A c_129) (laws_eqRowS_L A c_129 n) 0 Go.Proofs.Try.f70 ⟨[(0, .arr (.vecs 135 2 a1)), (1, .arr (.vecs 135 2 b2)), (5, .int .i64 i3)], []⟩ K := by kernel_rfl
theorem laws_eqRowS_ok (A : PM.Prims) (c_129 : laws_eqRow_T) (a : List (List Int)) (b : List (List Int)) (k : PM.V → PM.R) : PM.pfun A cx [] (laws_eqRowS_E A c_129) Go.Proofs.Try.f70 [.arr (.vecs 135 2 a), .arr (.vecs 135 2 b)] k = laws_eqRowS_f A c_129 a b (fun r0 => k (.bool r0)) := by kernel_rfl

theorem laws_eqRowS_fn : PM.FnIs Try.prog 70 Try.f70 := .of Try.func70 (by kernel_rfl) (by kernel_rfl)
theorem laws_eqRowS_g : PM.GOk Try.prog cx 70 ⟨[], laws_eqRowS_w (laws_eqRowS PM.std), none⟩ := by
  refine ⟨laws_eqRowS_fn.enter, fun _ ds k r h => ?_, fun hm => absurd rfl hm, fun _ e => (by cases e)⟩
  change laws_eqRowS_w (laws_eqRowS PM.std) ds k = some r at h
  unfold laws_eqRowS_w at h
  split at h
  · exact PM.pfun_ok (E := laws_eqRowS_E PM.std (laws_eqRow PM.std)) (L := fun n => laws_eqRowS_L PM.std (laws_eqRow PM.std) n) (N := PM.std.fuel) cx_ok (.cons laws_eqRow_g .nil) mixed .nil laws_eqRowS_fn (by kernel_rfl) ⟨rfl, fun cur σ K => by
      dsimp only [laws_eqRowS_L]
      split <;> rfl, fun n cur σ K r h => by
      dsimp only [laws_eqRowS_L] at h
      split at h
      · exact (laws_eqRowS_l0_ok PM.std (laws_eqRow PM.std) n _ _ _ K).symm.trans h
      · cases h⟩
      ((laws_eqRowS_ok PM.std (laws_eqRow PM.std) _ _ k).trans h)
  · cases h

abbrev laws_markRowS_T := (List (List Int)) → (Int) → ((Int) → (List (List Int)) → PM.R) → PM.R
noncomputable def laws_markRowS_w (c : laws_markRowS_T) (ds : List PM.V) (k : PM.V → PM.R) : PM.R :=
  match ds with
  | [.arr (.vecs 135 2 a), .int .i64 k_] => c a k_ (fun r0 o0 => k (.tup [.int .i64 r0, .arr (.vecs 135 2 o0)]))
  | _ => none
noncomputable def laws_markRowS_l0 (A : PM.Prims) : Nat → (Int) → (Int) → (List (List Int)) → ((Int) → (List (List Int)) → PM.R) → PM.R
  | 0, _, _, _, _ => none
  | n + 1, k1, i2, o03, kx0_0 =>
    bif (A.lt i2 (A.vlen o03)) then
      bif (A.inb i2 (A.vlen o03)) then
        bif (A.inb i2 (A.vlen (A.vset o03 i2 0 k1))) then
          laws_markRowS_l0 A n (A.add .i64 (A.add .i64 k1 1) 1) (A.add .i64 i2 1) (A.vset (A.vset o03 i2 0 k1) i2 1 (A.add .i64 k1 1)) kx0_0
        else
          none
      else
        none
    else
      kx0_0 k1 o03
noncomputable def laws_markRowS_f (A : PM.Prims) (a : List (List Int)) (k_ : Int) (k : (Int) → (List (List Int)) → PM.R) : PM.R :=
  laws_markRowS_l0 A A.fuel k_ 0 a (fun k46 o057 =>
    k k46 o057)
noncomputable def laws_markRowS (A : PM.Prims) : laws_markRowS_T := laws_markRowS_f A
noncomputable def laws_markRowS_L (A : PM.Prims) (n : Nat) : PM.Lam := fun cur σ K =>
  match cur, σ, K with
  | 0, ⟨[(0, .sref 0), (1, .int .i64 k1), (5, .int .i64 i2)], [(0, .arr false (.vecs 135 2 o03))]⟩, K => laws_markRowS_l0 A n k1 i2 o03 (fun k4 o05 => K (.exit 0) ⟨[(0, .sref 0), (1, .int .i64 k4)], [(0, .arr false (.vecs 135 2 o05))]⟩)
  | _, _, _ => none
noncomputable def laws_markRowS_E (A : PM.Prims) : PM.Env := ⟨[], [], [(0, [0, 1, 5], [0, 1, 4])], [(0, [0, 1]), (1, [0, 1, 5]), (2, [0, 1, 5, 9]), (3, [0, 1, 5]), (4, [0, 1, 5]), (5, [0, 1, 5]), (6, [0, 1, 5]), (7, [0, 1, 5]), (8, [0, 4])], laws_markRowS_L A A.fuel⟩
theorem laws_markRowS_l0_ok (A : PM.Prims) (n : Nat) (k1 : Int) (i2 : Int) (o03 : List (List Int)) (K : Go.Exit → PM.S → PM.R) : laws_markRowS_L A (n + 1) 0 ⟨[(0, .sref 0), (1, .int .i64 k1), (5, .int .i64 i2)], [(0, .arr false (.vecs 135 2 o03))]⟩ K = PM.roundF A cx (PM.runD A cx (laws_markRowS_E A).inl (laws_markRowS_E A).Γ 3) (laws_markRowS_E A) (laws_markRowS_L A n) 0 Go.Proofs.Try.f71 ⟨[(0, .sref 0), (1, .int .i64 k1), (5, .int .i64 i2)], [(0, .arr false (.vecs 135 2 o03))]⟩ K := by kernel_rfl
theorem laws_markRowS_ok (A : PM.Prims) (a : List (List Int)) (k_ : Int) (k : PM.V → PM.R) : PM.pfun A cx [true, false] (laws_markRowS_E A) Go.Proofs.Try.f71 [.arr (.vecs 135 2 a), .int .i64 k_] k = laws_markRowS_f A a k_ (fun r0 o0 => k (.tup [.int .i64 r0, .arr (.vecs 135 2 o0)])) := by kernel_rfl

theorem laws_markRowS_fn : PM.FnIs Try.prog 71 Try.f71 := .of Try.func71 (by kernel_rfl) (by kernel_rfl)
theorem laws_markRowS_g : PM.GOk Try.prog cx 71 ⟨[true, false], laws_markRowS_w (laws_markRowS PM.std), none⟩ := by
  refine ⟨laws_markRowS_fn.enter, fun hm => (by cases hm), fun _ ds k r h => ?_, fun _ e => (by cases e)⟩
  change laws_markRowS_w (laws_markRowS PM.std) ds k = some r at h
  unfold laws_markRowS_w at h
  split at h
  · exact PM.pfun_okM (List.cons_ne_nil _ _) (E := laws_markRowS_E PM.std) (L := fun n => laws_markRowS_L PM.std n) (N := PM.std.fuel) cx_ok .nil mixed .nil laws_markRowS_fn (by kernel_rfl) ⟨rfl, fun cur σ K => by
      dsimp only [laws_markRowS_L]
      split <;> rfl, fun n cur σ K r h => by
      dsimp only [laws_markRowS_L] at h
      split at h
      · exact (laws_markRowS_l0_ok PM.std n _ _ _ K).symm.trans h
      · cases h⟩
      ((laws_markRowS_ok PM.std _ _ k).trans h)
  · cases h

abbrev laws_heldRowS_T := (List (List Int)) → (Int) → ((Int) → PM.R) → PM.R
noncomputable def laws_heldRowS_w (c : laws_heldRowS_T) (ds : List PM.V) (k : PM.V → PM.R) : PM.R :=
  match ds with
  | [.arr (.vecs 135 2 a), .int .i64 k_] => c a k_ (fun r0 => k (.int .i64 r0))
  | _ => none
noncomputable def laws_heldRowS_l0 (A : PM.Prims) : Nat → (List (List Int)) → (Int) → (Int) → ((Int) → PM.R) → ((Int) → PM.R) → PM.R
  | 0, _, _, _, _, _ => none
  | n + 1, a1, k2, i3, kret_0, kx0_0 =>
    bif (A.lt i3 (A.vlen a1)) then
      bif (A.inb i3 (A.vlen a1)) then
        bif (A.not (A.eq (A.vget a1 i3 0) k2)) then
          kret_0 (-1)
        else
          bif (A.inb i3 (A.vlen a1)) then
            bif (A.not (A.eq (A.vget a1 i3 1) (A.add .i64 k2 1))) then
              kret_0 (-1)
            else
              laws_heldRowS_l0 A n a1 (A.add .i64 (A.add .i64 k2 1) 1) (A.add .i64 i3 1) kret_0 kx0_0
          else
            none
      else
        none
    else
      kx0_0 k2
noncomputable def laws_heldRowS_f (A : PM.Prims) (a : List (List Int)) (k_ : Int) (k : (Int) → PM.R) : PM.R :=
  laws_heldRowS_l0 A A.fuel a k_ 0 (fun t446 =>
    k t446) (fun k57 =>
    k k57)
noncomputable def laws_heldRowS (A : PM.Prims) : laws_heldRowS_T := laws_heldRowS_f A
noncomputable def laws_heldRowS_L (A : PM.Prims) (n : Nat) : PM.Lam := fun cur σ K =>
  match cur, σ, K with
  | 0, ⟨[(0, .arr (.vecs 135 2 a1)), (1, .int .i64 k2), (5, .int .i64 i3)], []⟩, K => laws_heldRowS_l0 A n a1 k2 i3 (fun t44 => K .ret ⟨[(4, .int .i64 t44)], []⟩) (fun k5 => K (.exit 0) ⟨[(1, .int .i64 k5)], []⟩)
  | _, _, _ => none
noncomputable def laws_heldRowS_E (A : PM.Prims) : PM.Env := ⟨[], [], [(0, [0, 1, 5], [1, 4])], [(0, [0, 1]), (1, [0, 1, 5]), (2, [0, 1, 5, 9]), (3, [0, 1, 5]), (4, [0, 1, 5, 18]), (5, [4]), (6, [0, 1, 5]), (7, [0, 1, 5, 27]), (8, [4]), (9, [0, 1, 5]), (10, [4])], laws_heldRowS_L A A.fuel⟩
theorem laws_heldRowS_l0_ok (A : PM.Prims) (n : Nat) (a1 : List (List Int)) (k2 : Int) (i3 : Int) (K : Go.Exit → PM.S → PM.R) : laws_heldRowS_L A (n + 1) 0 ⟨[(0, .arr (.vecs 135 2 a1)), (1, .int .i64 k2), (5, .int .i64 i3)], []⟩ K = PM.roundF A cx (PM.runD A cx (laws_heldRowS_E A).inl (laws_heldRowS_E A).Γ 3) (laws_heldRowS_E A) (laws_heldRowS_L A n) 0 Go.Proofs.Try.f130 ⟨[(0, .arr (.vecs 135 2 a1)), (1, .int .i64 k2), (5, .int .i64 i3)], []⟩ K := by kernel_rfl
theorem laws_heldRowS_ok (A : PM.Prims) (a : List (List Int)) (k_ : Int) (k : PM.V → PM.R) : PM.pfun A cx [] (laws_heldRowS_E A) Go.Proofs.Try.f130 [.arr (.vecs 135 2 a), .int .i64 k_] k = laws_heldRowS_f A a k_ (fun r0 => k (.int .i64 r0)) := by kernel_rfl

theorem laws_heldRowS_fn : PM.FnIs Try.prog 130 Try.f130 := .of Try.func130 (by kernel_rfl) (by kernel_rfl)
theorem laws_heldRowS_g : PM.GOk Try.prog cx 130 ⟨[], laws_heldRowS_w (laws_heldRowS PM.std), none⟩ := by
  refine ⟨laws_heldRowS_fn.enter, fun _ ds k r h => ?_, fun hm => absurd rfl hm, fun _ e => (by cases e)⟩
  change laws_heldRowS_w (laws_heldRowS PM.std) ds k = some r at h
  unfold laws_heldRowS_w at h
  split at h
  · exact PM.pfun_ok (E := laws_heldRowS_E PM.std) (L := fun n => laws_heldRowS_L PM.std n) (N := PM.std.fuel) cx_ok .nil mixed .nil laws_heldRowS_fn (by kernel_rfl) ⟨rfl, fun cur σ K => by
      dsimp only [laws_heldRowS_L]
      split <;> rfl, fun n cur σ K r h => by
      dsimp only [laws_heldRowS_L] at h
      split at h
      · exact (laws_heldRowS_l0_ok PM.std n _ _ _ K).symm.trans h
      · cases h⟩
      ((laws_heldRowS_ok PM.std _ _ k).trans h)
  · cases h

end X
