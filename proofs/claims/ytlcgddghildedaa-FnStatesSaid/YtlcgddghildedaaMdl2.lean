/- Models of the functions, or plain laws about them; each theorem states its own conditions. -/
import Derived.Test.YtlcgddghildedaaMdlA
import Derived.Test.YtlcgddghildedaaL3
import Derived.Test.YtlcgddghildedaaMKA
import Derived.Test.YtlcgddghildedaaW5
import Derived.Test.YtlcgddghildedaaW6
import Derived.Test.YtlcgddghildedaaW7
import Derived.Test.YtlcgddghildedaaDq
import Derived.Test.YtlcgddghildedaaProg
import Derived.KernelRfl
set_option linter.unusedVariables false
set_option linter.unusedSimpArgs false
open Go.Proofs
namespace X
open PM
set_option maxRecDepth 100000
set_option maxHeartbeats 4000000
abbrev laws_toWroteS_T := (List (List PM.C)) → ((List (List PM.C)) → PM.R) → PM.R
noncomputable def laws_toWroteS_w (c : laws_toWroteS_T) (ds : List PM.V) (k : PM.V → PM.R) : PM.R :=
  match ds with
  | [.arr (.rows 195 a)] => c a (fun r0 => k (.arr (.rows 33 r0)))
  | _ => none
noncomputable def laws_toWroteS_l0 (A : PM.Prims) (c_133 : laws_toWrote_T) : Nat → (List (List C)) → (Int) → (List (List C)) → ((List (List C)) → PM.R) → PM.R
  | 0, _, _, _, _ => none
  | n + 1, a1, i2, o03, kx0_0 =>
    bif (A.lt i2 (A.rlen a1)) then
      bif (A.inb i2 (A.rlen a1)) then
        c_133 (A.rint a1 i2 0) (A.rint a1 i2 1) (A.rsv 2 a1 i2 2) (fun r4 r5 r6 =>
          bif (A.inb i2 (A.rlen o03)) then
            laws_toWroteS_l0 A c_133 n a1 (A.add .i64 i2 1) (A.rput o03 i2 [(.i r4), (.i r5), (.s (A.ofv r6))]) kx0_0
          else
            none)
      else
        none
    else
      kx0_0 o03
noncomputable def laws_toWroteS_f (A : PM.Prims) (c_133 : laws_toWrote_T) (a : List (List PM.C)) (k : (List (List PM.C)) → PM.R) : PM.R :=
  bif (A.mkOk (A.rlen a)) then
    bif (A.le (A.rlen a) (A.rlen a)) then
      bif (A.mkOk (A.rlen a)) then
        laws_toWroteS_l0 A c_133 A.fuel a 0 (A.rzero [(.i 0), (.i 0), (.s (A.ofv []))] (A.rlen a)) (fun o078 =>
          k o078)
      else
        none
    else
      none
  else
    none
noncomputable def laws_toWroteS (A : PM.Prims) : laws_toWroteS_T := laws_toWroteS_f A (laws_toWrote A)
noncomputable def laws_toWroteS_L (A : PM.Prims) (c_133 : laws_toWrote_T) (n : Nat) : PM.Lam := fun cur σ K =>
  match cur, σ, K with
  | 0, ⟨[(0, .arr (.rows 195 a1)), (3, .sref 0), (4, .int .i64 i2)], [(0, .arr true (.rows 33 o03))]⟩, K => laws_toWroteS_l0 A c_133 n a1 i2 o03 (fun o07 => K (.exit 0) ⟨[(3, .sref 0)], [(0, .arr true (.rows 33 o07))]⟩)
  | _, _, _ => none
noncomputable def laws_toWroteS_E (A : PM.Prims) (c_133 : laws_toWrote_T) : PM.Env := ⟨[(133, ⟨[], laws_toWrote_w c_133, none⟩)], [], [(0, [0, 3, 4], [2, 3])], [(0, [0]), (1, [0, 3]), (2, [0, 3, 4]), (3, [0, 3, 4, 11]), (4, [0, 3, 4]), (5, [0, 3, 4]), (6, [2])], laws_toWroteS_L A c_133 A.fuel⟩
theorem laws_toWroteS_l0_ok (A : PM.Prims) (c_133 : laws_toWrote_T) (n : Nat) (a1 : List (List C)) (i2 : Int) (o03 : List (List C)) (K : Go.Exit → PM.S → PM.R) : laws_toWroteS_L A c_133 (n + 1) 0 ⟨[(0, .arr (.rows 195 a1)), (3, .sref 0), (4, .int .i64 i2)], [(0, .arr true (.rows 33 o03))]⟩ K = PM.roundF A cx (PM.runD A cx (laws_toWroteS_E A c_133).inl (laws_toWroteS_E A c_133).Γ 3) (laws_toWroteS_E A c_133) (laws_toWroteS_L A c_133 n) 0 Go.Proofs.Try.f43 ⟨[(0, .arr (.rows 195 a1)), (3, .sref 0), (4, .int .i64 i2)], [(0, .arr true (.rows 33 o03))]⟩ K := by kernel_rfl
theorem laws_toWroteS_ok (A : PM.Prims) (c_133 : laws_toWrote_T) (a : List (List PM.C)) (k : PM.V → PM.R) : PM.pfun A cx [] (laws_toWroteS_E A c_133) Go.Proofs.Try.f43 [.arr (.rows 195 a)] k = laws_toWroteS_f A c_133 a (fun r0 => k (.arr (.rows 33 r0))) := by kernel_rfl

theorem laws_toWroteS_fn : PM.FnIs Try.prog 43 Try.f43 := .of Try.func43 (by kernel_rfl) (by kernel_rfl)
theorem laws_toWroteS_g : PM.GOk Try.prog cx 43 ⟨[], laws_toWroteS_w (laws_toWroteS PM.std), none⟩ := by
  refine ⟨laws_toWroteS_fn.enter, fun _ ds k r h => ?_, fun hm => absurd rfl hm, fun _ e => (by cases e)⟩
  change laws_toWroteS_w (laws_toWroteS PM.std) ds k = some r at h
  unfold laws_toWroteS_w at h
  split at h
  · exact PM.pfun_ok (E := laws_toWroteS_E PM.std (laws_toWrote PM.std)) (L := fun n => laws_toWroteS_L PM.std (laws_toWrote PM.std) n) (N := PM.std.fuel) cx_ok (.cons laws_toWrote_g .nil) mixed .nil laws_toWroteS_fn (by kernel_rfl) ⟨rfl, fun cur σ K => by
      dsimp only [laws_toWroteS_L]
      split <;> rfl, fun n cur σ K r h => by
      dsimp only [laws_toWroteS_L] at h
      split at h
      · exact (laws_toWroteS_l0_ok PM.std (laws_toWrote PM.std) n _ _ _ K).symm.trans h
      · cases h⟩
      ((laws_toWroteS_ok PM.std (laws_toWrote PM.std) _ k).trans h)
  · cases h

abbrev spec_HistOk_T := (List (List PM.C)) → ((Bool) → PM.R) → PM.R
noncomputable def spec_HistOk_w (c : spec_HistOk_T) (ds : List PM.V) (k : PM.V → PM.R) : PM.R :=
  match ds with
  | [.arr (.rows 33 l)] => c l (fun r0 => k (.bool r0))
  | _ => none
noncomputable def spec_HistOk_l2 (A : PM.Prims) (c_103 : spec_l1In_T) (c_104 : spec_RowsOk_T) : Nat → (List (List C)) → (Int) → (Int) → ((Bool) → PM.R) → ((List (List C)) → (Int) → PM.R) → PM.R
  | 0, _, _, _, _, _ => none
  | n + 1, l7, i8, k9, kret_2, kx2_2 =>
    bif (A.lt k9 i8) then
      bif (A.inb k9 (A.rlen l7)) then
        bif (A.inb i8 (A.rlen l7)) then
          bif (A.eq (A.rint l7 k9 0) (A.rint l7 i8 0)) then
            kret_2 false
          else
            spec_HistOk_l2 A c_103 c_104 n l7 i8 (A.add .i64 k9 1) kret_2 kx2_2
        else
          none
      else
        none
    else
      kx2_2 l7 i8
noncomputable def spec_HistOk_l0 (A : PM.Prims) (c_103 : spec_l1In_T) (c_104 : spec_RowsOk_T) : Nat → (List (List C)) → (Int) → ((Bool) → PM.R) → (Unit → PM.R) → PM.R
  | 0, _, _, _, _ => none
  | n + 1, l1, i2, kret_0, kx0_0 =>
    bif (A.lt i2 (A.rlen l1)) then
      bif (A.inb i2 (A.rlen l1)) then
        c_103 (A.rint l1 i2 0) 1 1000000 (fun r3 =>
          bif (A.not r3) then
            kret_0 false
          else
            bif (A.inb i2 (A.rlen l1)) then
              c_103 (A.rint l1 i2 1) 1 99 (fun r5 =>
                bif (A.not r5) then
                  kret_0 false
                else
                  bif (A.inb i2 (A.rlen l1)) then
                    c_104 (A.rsv 2 l1 i2 2) (fun r6 =>
                      bif (A.not r6) then
                        kret_0 false
                      else
                        spec_HistOk_l2 A c_103 c_104 A.fuel l1 i2 0 (fun t21013 =>
                          kret_0 t21013) (fun l1114 i1215 =>
                          spec_HistOk_l0 A c_103 c_104 n l1114 (A.add .i64 i1215 1) kret_0 kx0_0))
                  else
                    none)
            else
              none)
      else
        none
    else
      kx0_0 ()
noncomputable def spec_HistOk_f (A : PM.Prims) (c_103 : spec_l1In_T) (c_104 : spec_RowsOk_T) (l : List (List PM.C)) (k : (Bool) → PM.R) : PM.R :=
  bif (A.lt 200 (A.rlen l)) then
    k false
  else
    spec_HistOk_l0 A c_103 c_104 A.fuel l 0 (fun t2416 =>
      k t2416) (fun _ =>
      k true)
noncomputable def spec_HistOk (A : PM.Prims) : spec_HistOk_T := spec_HistOk_f A (spec_l1In A) (spec_RowsOk A)
noncomputable def spec_HistOk_L (A : PM.Prims) (c_103 : spec_l1In_T) (c_104 : spec_RowsOk_T) (n : Nat) : PM.Lam := fun cur σ K =>
  match cur, σ, K with
  | 0, ⟨[(0, .arr (.rows 33 l1)), (3, .int .i64 i2)], []⟩, K => spec_HistOk_l0 A c_103 c_104 n l1 i2 (fun t24 => K .ret ⟨[(2, .bool t24)], []⟩) (fun _ => K (.exit 0) ⟨[], []⟩)
  | 2, ⟨[(0, .arr (.rows 33 l7)), (3, .int .i64 i8), (4, .int .i64 k9)], []⟩, K => spec_HistOk_l2 A c_103 c_104 n l7 i8 k9 (fun t210 => K .ret ⟨[(2, .bool t210)], []⟩) (fun l11 i12 => K (.exit 2) ⟨[(0, .arr (.rows 33 l11)), (3, .int .i64 i12)], []⟩)
  | _, _, _ => none
noncomputable def spec_HistOk_E (A : PM.Prims) (c_103 : spec_l1In_T) (c_104 : spec_RowsOk_T) : PM.Env := ⟨[(103, ⟨[], spec_l1In_w c_103, none⟩), (104, ⟨[], spec_RowsOk_w c_104, none⟩)], [], [(0, [0, 3], [2]), (2, [0, 3, 4], [0, 2, 3])], [(0, [0]), (1, [0, 7]), (2, [2]), (3, [0, 3]), (4, [0, 3, 11]), (5, [0, 3]), (6, [0, 3, 38]), (7, [2]), (8, [0, 3, 4]), (9, [0, 3, 4, 41]), (10, [0, 3, 4]), (11, [0, 3, 4, 54]), (12, [2]), (13, [2])], spec_HistOk_L A c_103 c_104 A.fuel⟩
theorem spec_HistOk_l0_ok (A : PM.Prims) (c_103 : spec_l1In_T) (c_104 : spec_RowsOk_T) (n : Nat) (l1 : List (List C)) (i2 : Int) (K : Go.Exit → PM.S → PM.R) : spec_HistOk_L A c_103 c_104 (n + 1) 0 ⟨[(0, .arr (.rows 33 l1)), (3, .int .i64 i2)], []⟩ K = PM.roundF A cx (PM.runD A cx (spec_HistOk_E A c_103 c_104).inl (spec_HistOk_E A c_103 c_104).Γ 3) (spec_HistOk_E A c_103 c_104) (spec_HistOk_L A c_103 c_104 n) 0 Go.Proofs.Try.f24 ⟨[(0, .arr (.rows 33 l1)), (3, .int .i64 i2)], []⟩ K := by kernel_rfl
theorem spec_HistOk_l2_ok (A : PM.Prims) (c_103 : spec_l1In_T) (c_104 : spec_RowsOk_T) (n : Nat) (l7 : List (List C)) (i8 : Int) (k9 : Int) (K : Go.Exit → PM.S → PM.R) : spec_HistOk_L A c_103 c_104 (n + 1) 2 ⟨[(0, .arr (.rows 33 l7)), (3, .int .i64 i8), (4, .int .i64 k9)], []⟩ K = PM.roundF A cx (PM.runD A cx (spec_HistOk_E A c_103 c_104).inl (spec_HistOk_E A c_103 c_104).Γ 3) (spec_HistOk_E A c_103 c_104) (spec_HistOk_L A c_103 c_104 n) 2 Go.Proofs.Try.f24 ⟨[(0, .arr (.rows 33 l7)), (3, .int .i64 i8), (4, .int .i64 k9)], []⟩ K := by kernel_rfl
theorem spec_HistOk_ok (A : PM.Prims) (c_103 : spec_l1In_T) (c_104 : spec_RowsOk_T) (l : List (List PM.C)) (k : PM.V → PM.R) : PM.pfun A cx [] (spec_HistOk_E A c_103 c_104) Go.Proofs.Try.f24 [.arr (.rows 33 l)] k = spec_HistOk_f A c_103 c_104 l (fun r0 => k (.bool r0)) := by kernel_rfl

theorem spec_HistOk_fn : PM.FnIs Try.prog 24 Try.f24 := .of Try.func24 (by kernel_rfl) (by kernel_rfl)
theorem spec_HistOk_g : PM.GOk Try.prog cx 24 ⟨[], spec_HistOk_w (spec_HistOk PM.std), none⟩ := by
  refine ⟨spec_HistOk_fn.enter, fun _ ds k r h => ?_, fun hm => absurd rfl hm, fun _ e => (by cases e)⟩
  change spec_HistOk_w (spec_HistOk PM.std) ds k = some r at h
  unfold spec_HistOk_w at h
  split at h
  · exact PM.pfun_ok (E := spec_HistOk_E PM.std (spec_l1In PM.std) (spec_RowsOk PM.std)) (L := fun n => spec_HistOk_L PM.std (spec_l1In PM.std) (spec_RowsOk PM.std) n) (N := PM.std.fuel) cx_ok (.cons spec_l1In_g (.cons spec_RowsOk_g .nil)) mixed .nil spec_HistOk_fn (by kernel_rfl) ⟨rfl, fun cur σ K => by
      dsimp only [spec_HistOk_L]
      split <;> rfl, fun n cur σ K r h => by
      dsimp only [spec_HistOk_L] at h
      split at h
      · exact (spec_HistOk_l0_ok PM.std (spec_l1In PM.std) (spec_RowsOk PM.std) n _ _ K).symm.trans h
      · exact (spec_HistOk_l2_ok PM.std (spec_l1In PM.std) (spec_RowsOk PM.std) n _ _ _ K).symm.trans h
      · cases h⟩
      ((spec_HistOk_ok PM.std (spec_l1In PM.std) (spec_RowsOk PM.std) _ k).trans h)
  · cases h

abbrev spec_Stamps_T := (List (List PM.C)) → ((List Int) → PM.R) → PM.R
noncomputable def spec_Stamps_w (c : spec_Stamps_T) (ds : List PM.V) (k : PM.V → PM.R) : PM.R :=
  match ds with
  | [.arr (.rows 33 l)] => c l (fun r0 => k (.arr (.ints 3 .i64 r0)))
  | _ => none
noncomputable def spec_Stamps_l2 (A : PM.Prims) (c_24 : spec_HistOk_T) : Nat → (List (List C)) → (Int) → (Int) → (Int) → (List Int) → ((List (List C)) → (Int) → (List Int) → PM.R) → PM.R
  | 0, _, _, _, _, _, _ => none
  | n + 1, l5, last6, best7, i8, o09, kx2_2 =>
    bif (A.lt i8 (A.rlen l5)) then
      bif (A.inb i8 (A.rlen l5)) then
        bif (A.lt last6 (A.rint l5 i8 0)) then
          bif (A.inb i8 (A.rlen l5)) then
            bif (A.lt (A.rint l5 i8 0) best7) then
              bif (A.inb i8 (A.rlen l5)) then
                spec_Stamps_l2 A c_24 n l5 last6 (A.rint l5 i8 0) (A.add .i64 i8 1) o09 kx2_2
              else
                none
            else
              spec_Stamps_l2 A c_24 n l5 last6 best7 (A.add .i64 i8 1) o09 kx2_2
          else
            none
        else
          spec_Stamps_l2 A c_24 n l5 last6 best7 (A.add .i64 i8 1) o09 kx2_2
      else
        none
    else
      kx2_2 l5 best7 o09
noncomputable def spec_Stamps_l0 (A : PM.Prims) (c_24 : spec_HistOk_T) : Nat → (List (List C)) → (Int) → (List Int) → ((List Int) → PM.R) → PM.R
  | 0, _, _, _, _ => none
  | n + 1, l2, last3, o04, kx0_0 =>
    bif (A.lt (A.ilen o04) (A.rlen l2)) then
      spec_Stamps_l2 A c_24 A.fuel l2 last3 1000001 0 o04 (fun l1013 best1114 o01215 =>
        bif (A.room (A.ilen o01215) (A.ilen [best1114])) then
          spec_Stamps_l0 A c_24 n l1013 best1114 (A.iapp o01215 [best1114]) kx0_0
        else
          none)
    else
      kx0_0 o04
noncomputable def spec_Stamps_f (A : PM.Prims) (c_24 : spec_HistOk_T) (l : List (List PM.C)) (k : (List Int) → PM.R) : PM.R :=
  c_24 l (fun r1 =>
    bif (A.not r1) then
      k []
    else
      spec_Stamps_l0 A c_24 A.fuel l 0 [] (fun o01617 =>
        k o01617))
noncomputable def spec_Stamps (A : PM.Prims) : spec_Stamps_T := spec_Stamps_f A (spec_HistOk A)
noncomputable def spec_Stamps_L (A : PM.Prims) (c_24 : spec_HistOk_T) (n : Nat) : PM.Lam := fun cur σ K =>
  match cur, σ, K with
  | 0, ⟨[(0, .arr (.rows 33 l2)), (3, .sref 0), (4, .int .i64 last3)], [(0, .arr true (.ints 3 .i64 o04))]⟩, K => spec_Stamps_l0 A c_24 n l2 last3 o04 (fun o016 => K (.exit 0) ⟨[(3, .sref 0)], [(0, .arr true (.ints 3 .i64 o016))]⟩)
  | 2, ⟨[(0, .arr (.rows 33 l5)), (3, .sref 0), (4, .int .i64 last6), (5, .int .i64 best7), (6, .int .i64 i8)], [(0, .arr true (.ints 3 .i64 o09))]⟩, K => spec_Stamps_l2 A c_24 n l5 last6 best7 i8 o09 (fun l10 best11 o012 => K (.exit 2) ⟨[(0, .arr (.rows 33 l10)), (3, .sref 0), (5, .int .i64 best11)], [(0, .arr true (.ints 3 .i64 o012))]⟩)
  | _, _, _ => none
noncomputable def spec_Stamps_E (A : PM.Prims) (c_24 : spec_HistOk_T) : PM.Env := ⟨[(24, ⟨[], spec_HistOk_w c_24, none⟩)], [], [(0, [0, 3, 4], [2, 3]), (2, [0, 3, 4, 5, 6], [0, 2, 3, 5])], [(0, [0]), (1, [0, 3]), (2, [0, 3, 10]), (3, [2]), (4, [0, 3, 4]), (5, [0, 3, 4, 16]), (6, [0, 3, 4, 5]), (7, [0, 3, 4, 5, 6]), (8, [0, 3, 4, 5, 6, 20]), (9, [0, 3, 4, 5, 6]), (10, [0, 3, 4, 5, 6, 38]), (11, [0, 3, 4, 5, 6]), (12, [0, 3, 5]), (13, [0, 3, 4]), (14, [2])], spec_Stamps_L A c_24 A.fuel⟩
theorem spec_Stamps_l0_ok (A : PM.Prims) (c_24 : spec_HistOk_T) (n : Nat) (l2 : List (List C)) (last3 : Int) (o04 : List Int) (K : Go.Exit → PM.S → PM.R) : spec_Stamps_L A c_24 (n + 1) 0 ⟨[(0, .arr (.rows 33 l2)), (3, .sref 0), (4, .int .i64 last3)], [(0, .arr true (.ints 3 .i64 o04))]⟩ K = PM.roundF A cx (PM.runD A cx (spec_Stamps_E A c_24).inl (spec_Stamps_E A c_24).Γ 3) (spec_Stamps_E A c_24) (spec_Stamps_L A c_24 n) 0 Go.Proofs.Try.f81 ⟨[(0, .arr (.rows 33 l2)), (3, .sref 0), (4, .int .i64 last3)], [(0, .arr true (.ints 3 .i64 o04))]⟩ K := by kernel_rfl
theorem spec_Stamps_l2_ok (A : PM.Prims) (c_24 : spec_HistOk_T) (n : Nat) (l5 : List (List C)) (last6 : Int) (best7 : Int) (i8 : Int) (o09 : List Int) (K : Go.Exit → PM.S → PM.R) : spec_Stamps_L A c_24 (n + 1) 2 ⟨[(0, .arr (.rows 33 l5)), (3, .sref 0), (4, .int .i64 last6), (5, .int .i64 best7), (6, .int .i64 i8)], [(0, .arr true (.ints 3 .i64 o09))]⟩ K = PM.roundF A cx (PM.runD A cx (spec_Stamps_E A c_24).inl (spec_Stamps_E A c_24).Γ 3) (spec_Stamps_E A c_24) (spec_Stamps_L A c_24 n) 2 Go.Proofs.Try.f81 ⟨[(0, .arr (.rows 33 l5)), (3, .sref 0), (4, .int .i64 last6), (5, .int .i64 best7), (6, .int .i64 i8)], [(0, .arr true (.ints 3 .i64 o09))]⟩ K := by kernel_rfl
theorem spec_Stamps_ok (A : PM.Prims) (c_24 : spec_HistOk_T) (l : List (List PM.C)) (k : PM.V → PM.R) : PM.pfun A cx [] (spec_Stamps_E A c_24) Go.Proofs.Try.f81 [.arr (.rows 33 l)] k = spec_Stamps_f A c_24 l (fun r0 => k (.arr (.ints 3 .i64 r0))) := by kernel_rfl

theorem spec_Stamps_fn : PM.FnIs Try.prog 81 Try.f81 := .of Try.func81 (by kernel_rfl) (by kernel_rfl)
theorem spec_Stamps_g : PM.GOk Try.prog cx 81 ⟨[], spec_Stamps_w (spec_Stamps PM.std), none⟩ := by
  refine ⟨spec_Stamps_fn.enter, fun _ ds k r h => ?_, fun hm => absurd rfl hm, fun _ e => (by cases e)⟩
  change spec_Stamps_w (spec_Stamps PM.std) ds k = some r at h
  unfold spec_Stamps_w at h
  split at h
  · exact PM.pfun_ok (E := spec_Stamps_E PM.std (spec_HistOk PM.std)) (L := fun n => spec_Stamps_L PM.std (spec_HistOk PM.std) n) (N := PM.std.fuel) cx_ok (.cons spec_HistOk_g .nil) mixed .nil spec_Stamps_fn (by kernel_rfl) ⟨rfl, fun cur σ K => by
      dsimp only [spec_Stamps_L]
      split <;> rfl, fun n cur σ K r h => by
      dsimp only [spec_Stamps_L] at h
      split at h
      · exact (spec_Stamps_l0_ok PM.std (spec_HistOk PM.std) n _ _ _ K).symm.trans h
      · exact (spec_Stamps_l2_ok PM.std (spec_HistOk PM.std) n _ _ _ _ _ K).symm.trans h
      · cases h⟩
      ((spec_Stamps_ok PM.std (spec_HistOk PM.std) _ k).trans h)
  · cases h

abbrev impl_isOwner_T := (Int) → ((Bool) → PM.R) → PM.R
noncomputable def impl_isOwner_w (c : impl_isOwner_T) (ds : List PM.V) (k : PM.V → PM.R) : PM.R :=
  match ds with
  | [.int .i64 who] => c who (fun r0 => k (.bool r0))
  | _ => none
noncomputable def impl_isOwner_f (A : PM.Prims) (c_134 : impl_within_T) (who : Int) (k : (Bool) → PM.R) : PM.R :=
  c_134 who 1 99 (fun r1 =>
    k r1)
noncomputable def impl_isOwner (A : PM.Prims) : impl_isOwner_T := impl_isOwner_f A (impl_within A)
noncomputable def impl_isOwner_L (A : PM.Prims) (c_134 : impl_within_T) (n : Nat) : PM.Lam := fun cur σ K =>
  match cur, σ, K with
  | _, _, _ => none
noncomputable def impl_isOwner_E (A : PM.Prims) (c_134 : impl_within_T) : PM.Env := ⟨[(134, ⟨[], impl_within_w c_134, none⟩)], [], [], [(0, [0]), (1, [2])], impl_isOwner_L A c_134 A.fuel⟩
theorem impl_isOwner_ok (A : PM.Prims) (c_134 : impl_within_T) (who : Int) (k : PM.V → PM.R) : PM.pfun A cx [] (impl_isOwner_E A c_134) Go.Proofs.Try.f135 [.int .i64 who] k = impl_isOwner_f A c_134 who (fun r0 => k (.bool r0)) := by kernel_rfl

theorem impl_isOwner_fn : PM.FnIs Try.prog 135 Try.f135 := .of Try.func135 (by kernel_rfl) (by kernel_rfl)
theorem impl_isOwner_g : PM.GOk Try.prog cx 135 ⟨[], impl_isOwner_w (impl_isOwner PM.std), none⟩ := by
  refine ⟨impl_isOwner_fn.enter, fun _ ds k r h => ?_, fun hm => absurd rfl hm, fun _ e => (by cases e)⟩
  change impl_isOwner_w (impl_isOwner PM.std) ds k = some r at h
  unfold impl_isOwner_w at h
  split at h
  · exact PM.pfun_ok (E := impl_isOwner_E PM.std (impl_within PM.std)) (L := fun n => impl_isOwner_L PM.std (impl_within PM.std) n) (N := PM.std.fuel) cx_ok (.cons impl_within_g .nil) mixed .nil impl_isOwner_fn (by kernel_rfl) ⟨rfl, fun _ _ _ => rfl, fun n cur σ K r h => by cases h⟩
      ((impl_isOwner_ok PM.std (impl_within PM.std) _ k).trans h)
  · cases h

abbrev impl_HistOk_T := (List (List PM.C)) → ((Bool) → PM.R) → PM.R
noncomputable def impl_HistOk_w (c : impl_HistOk_T) (ds : List PM.V) (k : PM.V → PM.R) : PM.R :=
  match ds with
  | [.arr (.rows 33 l)] => c l (fun r0 => k (.bool r0))
  | _ => none
noncomputable def impl_HistOk_l0 (A : PM.Prims) (c_134 : impl_within_T) (c_135 : impl_isOwner_T) (c_128 : impl_RowsOk_T) (c_136 : slices_ContainsFunc___impl_Wrote_impl_Wrote__T) : Nat → (List (List C)) → (List (List C)) → (Int) → (Int) → ((Bool) → PM.R) → ((List (List C)) → PM.R) → PM.R
  | 0, _, _, _, _, _, _ => none
  | n + 1, l1, t52, t63, t74, kret_0, kx0_0 =>
    bif (A.lt t74 t63) then
      bif (A.inb t74 (A.rlen t52)) then
        c_134 (A.rint t52 t74 0) 1 1000000 (fun r5 =>
          bif (A.not r5) then
            kret_0 false
          else
            c_135 (A.rint t52 t74 1) (fun r7 =>
              bif (A.not r7) then
                kret_0 false
              else
                c_128 (A.rsv 2 t52 t74 2) (fun r8 =>
                  bif (A.not r8) then
                    kret_0 false
                  else
                    bif (A.subb 0 t74 (A.rlen l1)) then
                      c_136 (A.rsub l1 0 t74) (A.rint t52 t74 0) (fun r9 =>
                        bif r9 then
                          kret_0 false
                        else
                          impl_HistOk_l0 A c_134 c_135 c_128 c_136 n l1 t52 t63 (A.add .i64 t74 1) kret_0 kx0_0)
                    else
                      none)))
      else
        none
    else
      kx0_0 l1
noncomputable def impl_HistOk_f (A : PM.Prims) (c_134 : impl_within_T) (c_135 : impl_isOwner_T) (c_128 : impl_RowsOk_T) (c_136 : slices_ContainsFunc___impl_Wrote_impl_Wrote__T) (l : List (List PM.C)) (k : (Bool) → PM.R) : PM.R :=
  impl_HistOk_l0 A c_134 c_135 c_128 c_136 A.fuel l l (A.rlen l) 0 (fun t2611 =>
    k t2611) (fun l1012 =>
    k (A.le (A.rlen l1012) 200))
noncomputable def impl_HistOk (A : PM.Prims) : impl_HistOk_T := impl_HistOk_f A (impl_within A) (impl_isOwner A) (impl_RowsOk A) (slices_ContainsFunc___impl_Wrote_impl_Wrote_ A)
noncomputable def impl_HistOk_L (A : PM.Prims) (c_134 : impl_within_T) (c_135 : impl_isOwner_T) (c_128 : impl_RowsOk_T) (c_136 : slices_ContainsFunc___impl_Wrote_impl_Wrote__T) (n : Nat) : PM.Lam := fun cur σ K =>
  match cur, σ, K with
  | 0, ⟨[(0, .arr (.rows 33 l1)), (5, .arr (.rows 33 t52)), (6, .int .i64 t63), (7, .int .i64 t74)], []⟩, K => impl_HistOk_l0 A c_134 c_135 c_128 c_136 n l1 t52 t63 t74 (fun t26 => K .ret ⟨[(2, .bool t26)], []⟩) (fun l10 => K (.exit 0) ⟨[(0, .arr (.rows 33 l10))], []⟩)
  | _, _, _ => none
noncomputable def impl_HistOk_E (A : PM.Prims) (c_134 : impl_within_T) (c_135 : impl_isOwner_T) (c_128 : impl_RowsOk_T) (c_136 : slices_ContainsFunc___impl_Wrote_impl_Wrote__T) : PM.Env := ⟨[(134, ⟨[], impl_within_w c_134, none⟩), (135, ⟨[], impl_isOwner_w c_135, none⟩), (128, ⟨[], impl_RowsOk_w c_128, none⟩), (136, ⟨[], fun _ _ => none, some (PM.spCon 137 (slices_ContainsFunc___impl_Wrote_impl_Wrote__w c_136))⟩)], [], [(0, [0, 5, 6, 7], [0, 2])], [(0, [0]), (1, [0, 5, 6, 7]), (2, [0, 5, 6, 7, 8]), (3, [0, 3, 4, 5, 6, 7]), (4, [0, 5, 6, 7, 34]), (5, [2]), (6, [0, 5, 6, 7]), (7, [2])], impl_HistOk_L A c_134 c_135 c_128 c_136 A.fuel⟩
theorem impl_HistOk_l0_ok (A : PM.Prims) (c_134 : impl_within_T) (c_135 : impl_isOwner_T) (c_128 : impl_RowsOk_T) (c_136 : slices_ContainsFunc___impl_Wrote_impl_Wrote__T) (n : Nat) (l1 : List (List C)) (t52 : List (List C)) (t63 : Int) (t74 : Int) (K : Go.Exit → PM.S → PM.R) : impl_HistOk_L A c_134 c_135 c_128 c_136 (n + 1) 0 ⟨[(0, .arr (.rows 33 l1)), (5, .arr (.rows 33 t52)), (6, .int .i64 t63), (7, .int .i64 t74)], []⟩ K = PM.roundF A cx (PM.runD A cx (impl_HistOk_E A c_134 c_135 c_128 c_136).inl (impl_HistOk_E A c_134 c_135 c_128 c_136).Γ 3) (impl_HistOk_E A c_134 c_135 c_128 c_136) (impl_HistOk_L A c_134 c_135 c_128 c_136 n) 0 Go.Proofs.Try.f44 ⟨[(0, .arr (.rows 33 l1)), (5, .arr (.rows 33 t52)), (6, .int .i64 t63), (7, .int .i64 t74)], []⟩ K := by kernel_rfl
theorem impl_HistOk_ok (A : PM.Prims) (c_134 : impl_within_T) (c_135 : impl_isOwner_T) (c_128 : impl_RowsOk_T) (c_136 : slices_ContainsFunc___impl_Wrote_impl_Wrote__T) (l : List (List PM.C)) (k : PM.V → PM.R) : PM.pfun A cx [] (impl_HistOk_E A c_134 c_135 c_128 c_136) Go.Proofs.Try.f44 [.arr (.rows 33 l)] k = impl_HistOk_f A c_134 c_135 c_128 c_136 l (fun r0 => k (.bool r0)) := by kernel_rfl

theorem impl_HistOk_fn : PM.FnIs Try.prog 44 Try.f44 := .of Try.func44 (by kernel_rfl) (by kernel_rfl)
theorem impl_HistOk_g : PM.GOk Try.prog cx 44 ⟨[], impl_HistOk_w (impl_HistOk PM.std), none⟩ := by
  refine ⟨impl_HistOk_fn.enter, fun _ ds k r h => ?_, fun hm => absurd rfl hm, fun _ e => (by cases e)⟩
  change impl_HistOk_w (impl_HistOk PM.std) ds k = some r at h
  unfold impl_HistOk_w at h
  split at h
  · exact PM.pfun_ok (E := impl_HistOk_E PM.std (impl_within PM.std) (impl_isOwner PM.std) (impl_RowsOk PM.std) (slices_ContainsFunc___impl_Wrote_impl_Wrote_ PM.std)) (L := fun n => impl_HistOk_L PM.std (impl_within PM.std) (impl_isOwner PM.std) (impl_RowsOk PM.std) (slices_ContainsFunc___impl_Wrote_impl_Wrote_ PM.std) n) (N := PM.std.fuel) cx_ok (.cons impl_within_g (.cons impl_isOwner_g (.cons impl_RowsOk_g (.cons slices_ContainsFunc___impl_Wrote_impl_Wrote__g .nil)))) mixed .nil impl_HistOk_fn (by kernel_rfl) ⟨rfl, fun cur σ K => by
      dsimp only [impl_HistOk_L]
      split <;> rfl, fun n cur σ K r h => by
      dsimp only [impl_HistOk_L] at h
      split at h
      · exact (impl_HistOk_l0_ok PM.std (impl_within PM.std) (impl_isOwner PM.std) (impl_RowsOk PM.std) (slices_ContainsFunc___impl_Wrote_impl_Wrote_ PM.std) n _ _ _ _ K).symm.trans h
      · cases h⟩
      ((impl_HistOk_ok PM.std (impl_within PM.std) (impl_isOwner PM.std) (impl_RowsOk PM.std) (slices_ContainsFunc___impl_Wrote_impl_Wrote_ PM.std) _ k).trans h)
  · cases h

abbrev impl_Stamps_T := (List (List PM.C)) → ((List Int) → PM.R) → PM.R
noncomputable def impl_Stamps_w (c : impl_Stamps_T) (ds : List PM.V) (k : PM.V → PM.R) : PM.R :=
  match ds with
  | [.arr (.rows 33 l)] => c l (fun r0 => k (.arr (.ints 3 .i64 r0)))
  | _ => none
noncomputable def impl_Stamps_l0 (A : PM.Prims) (c_44 : impl_HistOk_T) (c_106 : slices_Sort___int_int__T) : Nat → (List (List C)) → (Int) → (Int) → (List Int) → ((List Int) → PM.R) → PM.R
  | 0, _, _, _, _, _ => none
  | n + 1, t102, t113, t124, o05, kx0_0 =>
    bif (A.lt t124 t113) then
      bif (A.inb t124 (A.rlen t102)) then
        bif (A.room (A.ilen o05) (A.ilen [(A.rint t102 t124 0)])) then
          impl_Stamps_l0 A c_44 c_106 n t102 t113 (A.add .i64 t124 1) (A.iapp o05 [(A.rint t102 t124 0)]) kx0_0
        else
          none
      else
        none
    else
      kx0_0 o05
noncomputable def impl_Stamps_f (A : PM.Prims) (c_44 : impl_HistOk_T) (c_106 : slices_Sort___int_int__T) (l : List (List PM.C)) (k : (List Int) → PM.R) : PM.R :=
  c_44 l (fun r1 =>
    bif (A.not r1) then
      k []
    else
      impl_Stamps_l0 A c_44 c_106 A.fuel l (A.rlen l) 0 [] (fun o067 =>
        c_106 o067 (fun r8 =>
          k r8)))
noncomputable def impl_Stamps (A : PM.Prims) : impl_Stamps_T := impl_Stamps_f A (impl_HistOk A) (slices_Sort___int_int_ A)
noncomputable def impl_Stamps_L (A : PM.Prims) (c_44 : impl_HistOk_T) (c_106 : slices_Sort___int_int__T) (n : Nat) : PM.Lam := fun cur σ K =>
  match cur, σ, K with
  | 0, ⟨[(3, .sref 0), (10, .arr (.rows 33 t102)), (11, .int .i64 t113), (12, .int .i64 t124)], [(0, .arr true (.ints 3 .i64 o05))]⟩, K => impl_Stamps_l0 A c_44 c_106 n t102 t113 t124 o05 (fun o06 => K (.exit 0) ⟨[(3, .sref 0)], [(0, .arr true (.ints 3 .i64 o06))]⟩)
  | _, _, _ => none
noncomputable def impl_Stamps_E (A : PM.Prims) (c_44 : impl_HistOk_T) (c_106 : slices_Sort___int_int__T) : PM.Env := ⟨[(44, ⟨[], impl_HistOk_w c_44, none⟩), (106, ⟨[true], slices_Sort___int_int__w c_106, none⟩)], [], [(0, [3, 10, 11, 12], [2, 3])], [(0, [0]), (1, [0, 8]), (2, [2]), (3, [0, 3]), (4, [3, 10, 11, 12]), (5, [3, 10, 11, 12, 13]), (6, [3, 5, 10, 11, 12]), (7, [3, 10, 11, 12]), (8, [3, 10, 11, 12]), (9, [3]), (10, [2])], impl_Stamps_L A c_44 c_106 A.fuel⟩
theorem impl_Stamps_l0_ok (A : PM.Prims) (c_44 : impl_HistOk_T) (c_106 : slices_Sort___int_int__T) (n : Nat) (t102 : List (List C)) (t113 : Int) (t124 : Int) (o05 : List Int) (K : Go.Exit → PM.S → PM.R) : impl_Stamps_L A c_44 c_106 (n + 1) 0 ⟨[(3, .sref 0), (10, .arr (.rows 33 t102)), (11, .int .i64 t113), (12, .int .i64 t124)], [(0, .arr true (.ints 3 .i64 o05))]⟩ K = PM.roundF A cx (PM.runD A cx (impl_Stamps_E A c_44 c_106).inl (impl_Stamps_E A c_44 c_106).Γ 3) (impl_Stamps_E A c_44 c_106) (impl_Stamps_L A c_44 c_106 n) 0 Go.Proofs.Try.f27 ⟨[(3, .sref 0), (10, .arr (.rows 33 t102)), (11, .int .i64 t113), (12, .int .i64 t124)], [(0, .arr true (.ints 3 .i64 o05))]⟩ K := by kernel_rfl
theorem impl_Stamps_ok (A : PM.Prims) (c_44 : impl_HistOk_T) (c_106 : slices_Sort___int_int__T) (l : List (List PM.C)) (k : PM.V → PM.R) : PM.pfun A cx [] (impl_Stamps_E A c_44 c_106) Go.Proofs.Try.f27 [.arr (.rows 33 l)] k = impl_Stamps_f A c_44 c_106 l (fun r0 => k (.arr (.ints 3 .i64 r0))) := by kernel_rfl

theorem impl_Stamps_fn : PM.FnIs Try.prog 27 Try.f27 := .of Try.func27 (by kernel_rfl) (by kernel_rfl)
theorem impl_Stamps_g : PM.GOk Try.prog cx 27 ⟨[], impl_Stamps_w (impl_Stamps PM.std), none⟩ := by
  refine ⟨impl_Stamps_fn.enter, fun _ ds k r h => ?_, fun hm => absurd rfl hm, fun _ e => (by cases e)⟩
  change impl_Stamps_w (impl_Stamps PM.std) ds k = some r at h
  unfold impl_Stamps_w at h
  split at h
  · exact PM.pfun_ok (E := impl_Stamps_E PM.std (impl_HistOk PM.std) (slices_Sort___int_int_ PM.std)) (L := fun n => impl_Stamps_L PM.std (impl_HistOk PM.std) (slices_Sort___int_int_ PM.std) n) (N := PM.std.fuel) cx_ok (.cons impl_HistOk_g (.cons slices_Sort___int_int__g .nil)) mixed .nil impl_Stamps_fn (by kernel_rfl) ⟨rfl, fun cur σ K => by
      dsimp only [impl_Stamps_L]
      split <;> rfl, fun n cur σ K r h => by
      dsimp only [impl_Stamps_L] at h
      split at h
      · exact (impl_Stamps_l0_ok PM.std (impl_HistOk PM.std) (slices_Sort___int_int_ PM.std) n _ _ _ _ K).symm.trans h
      · cases h⟩
      ((impl_Stamps_ok PM.std (impl_HistOk PM.std) (slices_Sort___int_int_ PM.std) _ k).trans h)
  · cases h

abbrev laws_eqWrote_T := (Int) → (Int) → (List (List Int)) → (Int) → (Int) → (List (List Int)) → ((Bool) → PM.R) → PM.R
noncomputable def laws_eqWrote_w (c : laws_eqWrote_T) (ds : List PM.V) (k : PM.V → PM.R) : PM.R :=
  match ds with
  | [.agg [.int .i64 a_Stamp, .int .i64 a_Who, .arr (.vecs 161 2 a_Puts)], .agg [.int .i64 b_Stamp, .int .i64 b_Who, .arr (.vecs 161 2 b_Puts)]] => c a_Stamp a_Who a_Puts b_Stamp b_Who b_Puts (fun r0 => k (.bool r0))
  | _ => none
noncomputable def laws_eqWrote_f (A : PM.Prims) (c_66 : laws_eqRowS_T) (a_Stamp : Int) (a_Who : Int) (a_Puts : List (List Int)) (b_Stamp : Int) (b_Who : Int) (b_Puts : List (List Int)) (k : (Bool) → PM.R) : PM.R :=
  bif (A.not (A.eq a_Stamp b_Stamp)) then
    k false
  else
    bif (A.not (A.eq a_Who b_Who)) then
      k false
    else
      c_66 a_Puts b_Puts (fun r1 =>
        bif (A.not r1) then
          k false
        else
          k true)
noncomputable def laws_eqWrote (A : PM.Prims) : laws_eqWrote_T := laws_eqWrote_f A (laws_eqRowS A)
noncomputable def laws_eqWrote_L (A : PM.Prims) (c_66 : laws_eqRowS_T) (n : Nat) : PM.Lam := fun cur σ K =>
  match cur, σ, K with
  | _, _, _ => none
noncomputable def laws_eqWrote_E (A : PM.Prims) (c_66 : laws_eqRowS_T) : PM.Env := ⟨[(66, ⟨[], laws_eqRowS_w c_66, none⟩)], [], [], [(0, [2, 3]), (1, [2, 3, 9]), (2, [4]), (3, [2, 3, 14]), (4, [4]), (5, [20]), (6, [4]), (7, [4])], laws_eqWrote_L A c_66 A.fuel⟩
theorem laws_eqWrote_ok (A : PM.Prims) (c_66 : laws_eqRowS_T) (a_Stamp : Int) (a_Who : Int) (a_Puts : List (List Int)) (b_Stamp : Int) (b_Who : Int) (b_Puts : List (List Int)) (k : PM.V → PM.R) : PM.pfun A cx [] (laws_eqWrote_E A c_66) Go.Proofs.Try.f138 [.agg [.int .i64 a_Stamp, .int .i64 a_Who, .arr (.vecs 161 2 a_Puts)], .agg [.int .i64 b_Stamp, .int .i64 b_Who, .arr (.vecs 161 2 b_Puts)]] k = laws_eqWrote_f A c_66 a_Stamp a_Who a_Puts b_Stamp b_Who b_Puts (fun r0 => k (.bool r0)) := by kernel_rfl

theorem laws_eqWrote_fn : PM.FnIs Try.prog 138 Try.f138 := .of Try.func138 (by kernel_rfl) (by kernel_rfl)
theorem laws_eqWrote_g : PM.GOk Try.prog cx 138 ⟨[], laws_eqWrote_w (laws_eqWrote PM.std), none⟩ := by
  refine ⟨laws_eqWrote_fn.enter, fun _ ds k r h => ?_, fun hm => absurd rfl hm, fun _ e => (by cases e)⟩
  change laws_eqWrote_w (laws_eqWrote PM.std) ds k = some r at h
  unfold laws_eqWrote_w at h
  split at h
  · exact PM.pfun_ok (E := laws_eqWrote_E PM.std (laws_eqRowS PM.std)) (L := fun n => laws_eqWrote_L PM.std (laws_eqRowS PM.std) n) (N := PM.std.fuel) cx_ok (.cons laws_eqRowS_g .nil) mixed .nil laws_eqWrote_fn (by kernel_rfl) ⟨rfl, fun _ _ _ => rfl, fun n cur σ K r h => by cases h⟩
      ((laws_eqWrote_ok PM.std (laws_eqRowS PM.std) _ _ _ _ _ _ k).trans h)
  · cases h

abbrev laws_eqWroteS_T := (List (List PM.C)) → (List (List PM.C)) → ((Bool) → PM.R) → PM.R
noncomputable def laws_eqWroteS_w (c : laws_eqWroteS_T) (ds : List PM.V) (k : PM.V → PM.R) : PM.R :=
  match ds with
  | [.arr (.rows 33 a), .arr (.rows 33 b)] => c a b (fun r0 => k (.bool r0))
  | _ => none
noncomputable def laws_eqWroteS_l0 (A : PM.Prims) (c_138 : laws_eqWrote_T) : Nat → (List (List C)) → (List (List C)) → (Int) → ((Bool) → PM.R) → (Unit → PM.R) → PM.R
  | 0, _, _, _, _, _ => none
  | n + 1, a1, b2, i3, kret_0, kx0_0 =>
    bif (A.lt i3 (A.rlen a1)) then
      bif (A.inb i3 (A.rlen a1)) then
        bif (A.inb i3 (A.rlen b2)) then
          c_138 (A.rint a1 i3 0) (A.rint a1 i3 1) (A.rsv 2 a1 i3 2) (A.rint b2 i3 0) (A.rint b2 i3 1) (A.rsv 2 b2 i3 2) (fun r4 =>
            bif (A.not r4) then
              kret_0 false
            else
              laws_eqWroteS_l0 A c_138 n a1 b2 (A.add .i64 i3 1) kret_0 kx0_0)
        else
          none
      else
        none
    else
      kx0_0 ()
noncomputable def laws_eqWroteS_f (A : PM.Prims) (c_138 : laws_eqWrote_T) (a : List (List PM.C)) (b : List (List PM.C)) (k : (Bool) → PM.R) : PM.R :=
  bif (A.not (A.eq (A.rlen a) (A.rlen b))) then
    k false
  else
    laws_eqWroteS_l0 A c_138 A.fuel a b 0 (fun t456 =>
      k t456) (fun _ =>
      k true)
noncomputable def laws_eqWroteS (A : PM.Prims) : laws_eqWroteS_T := laws_eqWroteS_f A (laws_eqWrote A)
noncomputable def laws_eqWroteS_L (A : PM.Prims) (c_138 : laws_eqWrote_T) (n : Nat) : PM.Lam := fun cur σ K =>
  match cur, σ, K with
  | 0, ⟨[(0, .arr (.rows 33 a1)), (1, .arr (.rows 33 b2)), (5, .int .i64 i3)], []⟩, K => laws_eqWroteS_l0 A c_138 n a1 b2 i3 (fun t45 => K .ret ⟨[(4, .bool t45)], []⟩) (fun _ => K (.exit 0) ⟨[], []⟩)
  | _, _, _ => none
noncomputable def laws_eqWroteS_E (A : PM.Prims) (c_138 : laws_eqWrote_T) : PM.Env := ⟨[(138, ⟨[], laws_eqWrote_w c_138, none⟩)], [], [(0, [0, 1, 5], [4])], [(0, [0, 1]), (1, [0, 1, 10]), (2, [4]), (3, [0, 1, 5]), (4, [0, 1, 5, 14]), (5, [0, 1, 5]), (6, [0, 1, 5, 26]), (7, [4]), (8, [4])], laws_eqWroteS_L A c_138 A.fuel⟩
theorem laws_eqWroteS_l0_ok (A : PM.Prims) (c_138 : laws_eqWrote_T) (n : Nat) (a1 : List (List C)) (b2 : List (List C)) (i3 : Int) (K : Go.Exit → PM.S → PM.R) : laws_eqWroteS_L A c_138 (n + 1) 0 ⟨[(0, .arr (.rows 33 a1)), (1, .arr (.rows 33 b2)), (5, .int .i64 i3)], []⟩ K = PM.roundF A cx (PM.runD A cx (laws_eqWroteS_E A c_138).inl (laws_eqWroteS_E A c_138).Γ 3) (laws_eqWroteS_E A c_138) (laws_eqWroteS_L A c_138 n) 0 Go.Proofs.Try.f45 ⟨[(0, .arr (.rows 33 a1)), (1, .arr (.rows 33 b2)), (5, .int .i64 i3)], []⟩ K := by kernel_rfl
theorem laws_eqWroteS_ok (A : PM.Prims) (c_138 : laws_eqWrote_T) (a : List (List PM.C)) (b : List (List PM.C)) (k : PM.V → PM.R) : PM.pfun A cx [] (laws_eqWroteS_E A c_138) Go.Proofs.Try.f45 [.arr (.rows 33 a), .arr (.rows 33 b)] k = laws_eqWroteS_f A c_138 a b (fun r0 => k (.bool r0)) := by kernel_rfl

theorem laws_eqWroteS_fn : PM.FnIs Try.prog 45 Try.f45 := .of Try.func45 (by kernel_rfl) (by kernel_rfl)
theorem laws_eqWroteS_g : PM.GOk Try.prog cx 45 ⟨[], laws_eqWroteS_w (laws_eqWroteS PM.std), none⟩ := by
  refine ⟨laws_eqWroteS_fn.enter, fun _ ds k r h => ?_, fun hm => absurd rfl hm, fun _ e => (by cases e)⟩
  change laws_eqWroteS_w (laws_eqWroteS PM.std) ds k = some r at h
  unfold laws_eqWroteS_w at h
  split at h
  · exact PM.pfun_ok (E := laws_eqWroteS_E PM.std (laws_eqWrote PM.std)) (L := fun n => laws_eqWroteS_L PM.std (laws_eqWrote PM.std) n) (N := PM.std.fuel) cx_ok (.cons laws_eqWrote_g .nil) mixed .nil laws_eqWroteS_fn (by kernel_rfl) ⟨rfl, fun cur σ K => by
      dsimp only [laws_eqWroteS_L]
      split <;> rfl, fun n cur σ K r h => by
      dsimp only [laws_eqWroteS_L] at h
      split at h
      · exact (laws_eqWroteS_l0_ok PM.std (laws_eqWrote PM.std) n _ _ _ K).symm.trans h
      · cases h⟩
      ((laws_eqWroteS_ok PM.std (laws_eqWrote PM.std) _ _ k).trans h)
  · cases h

abbrev laws_FnExactStamps_T := (List (List PM.C)) → ((Bool) → PM.R) → PM.R
noncomputable def laws_FnExactStamps_w (c : laws_FnExactStamps_T) (ds : List PM.V) (k : PM.V → PM.R) : PM.R :=
  match ds with
  | [.arr (.rows 195 __)] => c __ (fun r0 => k (.bool r0))
  | _ => none
noncomputable def laws_FnExactStamps_f (A : PM.Prims) (c_42 : laws_szWroteS_T) (c_43 : laws_toWroteS_T) (c_81 : spec_Stamps_T) (c_27 : impl_Stamps_T) (c_40 : laws_eqIntS_T) (c_45 : laws_eqWroteS_T) (c_82 : laws_markWroteS_T) (c_54 : laws_markIntS_T) (c_56 : laws_heldIntS_T) (__ : List (List PM.C)) (k : (Bool) → PM.R) : PM.R :=
  c_42 __ 1048576 (fun r1 =>
    bif (A.lt r1 0) then
      k true
    else
      c_43 __ (fun r2 =>
        c_81 r2 (fun r3 =>
          c_43 __ (fun r4 =>
            c_27 r4 (fun r5 =>
              c_40 r5 r3 (fun r6 =>
                bif (A.not r6) then
                  k false
                else
                  c_43 __ (fun r7 =>
                    c_45 r4 r7 (fun r8 =>
                      bif (A.not r8) then
                        k false
                      else
                        c_82 r4 1 (fun r9 =>
                          bif (A.lt r9 0) then
                            k false
                          else
                            c_40 r5 r3 (fun r10 =>
                              bif (A.not r10) then
                                k false
                              else
                                c_54 r5 1 (fun r11 r12 =>
                                  c_56 r12 1 (fun r13 =>
                                    bif (A.lt r13 0) then
                                      k false
                                    else
                                      bif (A.not (A.eq r13 r11)) then
                                        k false
                                      else
                                        c_43 __ (fun r14 =>
                                          c_27 r14 (fun r15 =>
                                            c_40 r15 r3 (fun r16 =>
                                              bif (A.not r16) then
                                                k false
                                              else
                                                c_56 r12 1 (fun r17 =>
                                                  bif (A.lt r17 0) then
                                                    k false
                                                  else
                                                    bif (A.not (A.eq r17 r11)) then
                                                      k false
                                                    else
                                                      k true))))))))))))))))
noncomputable def laws_FnExactStamps (A : PM.Prims) : laws_FnExactStamps_T := laws_FnExactStamps_f A (laws_szWroteS A) (laws_toWroteS A) (spec_Stamps A) (impl_Stamps A) (laws_eqIntS A) (laws_eqWroteS A) (laws_markWroteS A) (laws_markIntS A) (laws_heldIntS A)
noncomputable def laws_FnExactStamps_L (A : PM.Prims) (c_42 : laws_szWroteS_T) (c_43 : laws_toWroteS_T) (c_81 : spec_Stamps_T) (c_27 : impl_Stamps_T) (c_40 : laws_eqIntS_T) (c_45 : laws_eqWroteS_T) (c_82 : laws_markWroteS_T) (c_54 : laws_markIntS_T) (c_56 : laws_heldIntS_T) (n : Nat) : PM.Lam := fun cur σ K =>
  match cur, σ, K with
  | _, _, _ => none
noncomputable def laws_FnExactStamps_E (A : PM.Prims) (c_42 : laws_szWroteS_T) (c_43 : laws_toWroteS_T) (c_81 : spec_Stamps_T) (c_27 : impl_Stamps_T) (c_40 : laws_eqIntS_T) (c_45 : laws_eqWroteS_T) (c_82 : laws_markWroteS_T) (c_54 : laws_markIntS_T) (c_56 : laws_heldIntS_T) : PM.Env := ⟨[(42, ⟨[], laws_szWroteS_w c_42, none⟩), (43, ⟨[], laws_toWroteS_w c_43, none⟩), (81, ⟨[], spec_Stamps_w c_81, none⟩), (27, ⟨[], impl_Stamps_w c_27, none⟩), (40, ⟨[], laws_eqIntS_w c_40, none⟩), (45, ⟨[], laws_eqWroteS_w c_45, none⟩), (54, ⟨[true, false], laws_markIntS_w c_54, none⟩), (56, ⟨[], laws_heldIntS_w c_56, none⟩)], [], [], [(0, [0]), (1, [0, 3]), (2, [0, 3]), (3, [0, 15]), (4, [2]), (5, [0, 4]), (6, [0, 4, 5]), (7, [0, 4, 5, 6]), (8, [0, 4, 5, 6, 26]), (9, [2]), (10, [0, 4, 5, 6, 31]), (11, [2]), (12, [0, 4, 5, 6, 7]), (13, [0, 4, 6, 7]), (14, [0, 4, 6, 42]), (15, [2]), (16, [0, 4, 6, 8]), (17, [0, 4, 6, 8]), (18, [0, 4, 6, 8, 9]), (19, [0, 4, 6, 8, 9]), (20, [0, 4, 6, 8, 9, 50]), (21, [2]), (22, [0, 4, 6, 8, 53]), (23, [2]), (24, [4, 6, 8, 10]), (25, [6, 8, 60]), (26, [2]), (27, [6, 8, 9]), (28, [8, 9]), (29, [8, 9, 65]), (30, [2]), (31, [68]), (32, [2]), (33, [2])], laws_FnExactStamps_L A c_42 c_43 c_81 c_27 c_40 c_45 c_82 c_54 c_56 A.fuel⟩
theorem laws_FnExactStamps_ok (A : PM.Prims) (c_42 : laws_szWroteS_T) (c_43 : laws_toWroteS_T) (c_81 : spec_Stamps_T) (c_27 : impl_Stamps_T) (c_40 : laws_eqIntS_T) (c_45 : laws_eqWroteS_T) (c_82 : laws_markWroteS_T) (c_54 : laws_markIntS_T) (c_56 : laws_heldIntS_T) (__ : List (List PM.C)) (k : PM.V → PM.R) : PM.lfun A cx [(82, laws_markWroteS_w c_82)] (laws_FnExactStamps_E A c_42 c_43 c_81 c_27 c_40 c_45 c_82 c_54 c_56) Go.Proofs.Try.f17 [.arr (.rows 195 __)] k = laws_FnExactStamps_f A c_42 c_43 c_81 c_27 c_40 c_45 c_82 c_54 c_56 __ (fun r0 => k (.bool r0)) := by kernel_rfl

theorem laws_FnExactStamps_fn : PM.FnIs Try.prog 17 Try.f17 := .of Try.func17 (by kernel_rfl) (by kernel_rfl)
theorem laws_FnExactStamps_g : PM.GOk Try.prog cx 17 ⟨[], laws_FnExactStamps_w (laws_FnExactStamps PM.std), none⟩ := by
  refine ⟨laws_FnExactStamps_fn.enter, fun _ ds k r h => ?_, fun hm => absurd rfl hm, fun _ e => (by cases e)⟩
  change laws_FnExactStamps_w (laws_FnExactStamps PM.std) ds k = some r at h
  unfold laws_FnExactStamps_w at h
  split at h
  · exact PM.lfun_ok (E := laws_FnExactStamps_E PM.std (laws_szWroteS PM.std) (laws_toWroteS PM.std) (spec_Stamps PM.std) (impl_Stamps PM.std) (laws_eqIntS PM.std) (laws_eqWroteS PM.std) (laws_markWroteS PM.std) (laws_markIntS PM.std) (laws_heldIntS PM.std)) (M := [(82, laws_markWroteS_w (laws_markWroteS PM.std))]) (.cons laws_markWroteS_mk .nil) cx_ok (.cons laws_szWroteS_g (.cons laws_toWroteS_g (.cons spec_Stamps_g (.cons impl_Stamps_g (.cons laws_eqIntS_g (.cons laws_eqWroteS_g (.cons laws_markIntS_g (.cons laws_heldIntS_g .nil)))))))) mixed .nil laws_FnExactStamps_fn (by kernel_rfl)
      ((laws_FnExactStamps_ok PM.std (laws_szWroteS PM.std) (laws_toWroteS PM.std) (spec_Stamps PM.std) (impl_Stamps PM.std) (laws_eqIntS PM.std) (laws_eqWroteS PM.std) (laws_markWroteS PM.std) (laws_markIntS PM.std) (laws_heldIntS PM.std) _ k).trans h)
  · cases h

abbrev spec_StateAt_T := (List Int) → (List (List PM.C)) → (Int) → ((List Int) → PM.R) → PM.R
noncomputable def spec_StateAt_w (c : spec_StateAt_T) (ds : List PM.V) (k : PM.V → PM.R) : PM.R :=
  match ds with
  | [.arr (.ints 3 .i64 cells), .arr (.rows 33 l), .int .i64 n_] => c cells l n_ (fun r0 => k (.arr (.ints 3 .i64 r0)))
  | _ => none
noncomputable def spec_StateAt_l2 (A : PM.Prims) (c_24 : spec_HistOk_T) (c_81 : spec_Stamps_T) (c_107 : spec_l3Vals_T) (c_29 : spec_Overlay_T) : Nat → (List (List C)) → (Int) → (Int) → (Int) → (List Int) → (List Int) → ((List (List C)) → (Int) → (Int) → (List Int) → (List Int) → PM.R) → PM.R
  | 0, _, _, _, _, _, _, _ => none
  | n + 1, l9, n10, i11, k12, o013, o114, kx2_2 =>
    bif (A.lt k12 (A.rlen l9)) then
      bif (A.inb k12 (A.rlen l9)) then
        bif (A.inb i11 (A.ilen o114)) then
          bif (A.eq (A.rint l9 k12 0) (A.iget o114 i11)) then
            bif (A.inb k12 (A.rlen l9)) then
              c_29 o013 (A.rsv 2 l9 k12 2) (fun r15 =>
                spec_StateAt_l2 A c_24 c_81 c_107 c_29 n l9 n10 i11 (A.add .i64 k12 1) r15 o114 kx2_2)
            else
              none
          else
            spec_StateAt_l2 A c_24 c_81 c_107 c_29 n l9 n10 i11 (A.add .i64 k12 1) o013 o114 kx2_2
        else
          none
      else
        none
    else
      kx2_2 l9 n10 i11 o013 o114
noncomputable def spec_StateAt_l0 (A : PM.Prims) (c_24 : spec_HistOk_T) (c_81 : spec_Stamps_T) (c_107 : spec_l3Vals_T) (c_29 : spec_Overlay_T) : Nat → (List (List C)) → (Int) → (Int) → (List Int) → (List Int) → ((List Int) → PM.R) → PM.R
  | 0, _, _, _, _, _, _ => none
  | n + 1, l4, n5, i6, o07, o18, kx0_0 =>
    bif (A.lt i6 (A.ilen o18)) then
      bif (A.inb i6 (A.ilen o18)) then
        bif (A.le (A.iget o18 i6) n5) then
          spec_StateAt_l2 A c_24 c_81 c_107 c_29 A.fuel l4 n5 i6 0 o07 o18 (fun l1621 n1722 i1823 o01924 o12025 =>
            spec_StateAt_l0 A c_24 c_81 c_107 c_29 n l1621 n1722 (A.add .i64 i1823 1) o01924 o12025 kx0_0)
        else
          kx0_0 o07
      else
        none
    else
      kx0_0 o07
noncomputable def spec_StateAt_f (A : PM.Prims) (c_24 : spec_HistOk_T) (c_81 : spec_Stamps_T) (c_107 : spec_l3Vals_T) (c_29 : spec_Overlay_T) (cells : List Int) (l : List (List PM.C)) (n_ : Int) (k : (List Int) → PM.R) : PM.R :=
  c_107 cells (fun r1 =>
    bif (A.not r1) then
      k []
    else
      c_24 l (fun r2 =>
        bif (A.not r2) then
          k []
        else
          bif (A.room (A.ilen []) (A.ilen cells)) then
            c_81 l (fun r3 =>
              spec_StateAt_l0 A c_24 c_81 c_107 c_29 A.fuel l n_ 0 (A.iapp [] cells) r3 (fun o02627 =>
                k o02627))
          else
            none))
noncomputable def spec_StateAt (A : PM.Prims) : spec_StateAt_T := spec_StateAt_f A (spec_HistOk A) (spec_Stamps A) (spec_l3Vals A) (spec_Overlay A)
noncomputable def spec_StateAt_L (A : PM.Prims) (c_24 : spec_HistOk_T) (c_81 : spec_Stamps_T) (c_107 : spec_l3Vals_T) (c_29 : spec_Overlay_T) (n : Nat) : PM.Lam := fun cur σ K =>
  match cur, σ, K with
  | 0, ⟨[(1, .arr (.rows 33 l4)), (2, .int .i64 n5), (7, .sref 0), (8, .sref 1), (9, .int .i64 i6)], [(0, .arr true (.ints 3 .i64 o07)), (1, .arr true (.ints 3 .i64 o18))]⟩, K => spec_StateAt_l0 A c_24 c_81 c_107 c_29 n l4 n5 i6 o07 o18 (fun o026 => K (.exit 0) ⟨[(7, .sref 0)], [(0, .arr true (.ints 3 .i64 o026))]⟩)
  | 2, ⟨[(1, .arr (.rows 33 l9)), (2, .int .i64 n10), (7, .sref 0), (8, .sref 1), (9, .int .i64 i11), (10, .int .i64 k12)], [(0, .arr true (.ints 3 .i64 o013)), (1, .arr true (.ints 3 .i64 o114))]⟩, K => spec_StateAt_l2 A c_24 c_81 c_107 c_29 n l9 n10 i11 k12 o013 o114 (fun l16 n17 i18 o019 o120 => K (.exit 2) ⟨[(1, .arr (.rows 33 l16)), (2, .int .i64 n17), (7, .sref 0), (8, .sref 1), (9, .int .i64 i18)], [(0, .arr true (.ints 3 .i64 o019)), (1, .arr true (.ints 3 .i64 o120))]⟩)
  | _, _, _ => none
noncomputable def spec_StateAt_E (A : PM.Prims) (c_24 : spec_HistOk_T) (c_81 : spec_Stamps_T) (c_107 : spec_l3Vals_T) (c_29 : spec_Overlay_T) : PM.Env := ⟨[(24, ⟨[], spec_HistOk_w c_24, none⟩), (81, ⟨[], spec_Stamps_w c_81, none⟩), (107, ⟨[], spec_l3Vals_w c_107, none⟩), (29, ⟨[], spec_Overlay_w c_29, none⟩)], [], [(0, [1, 2, 7, 8, 9], [6, 7]), (2, [1, 2, 7, 8, 9, 10], [1, 2, 6, 7, 8, 9])], [(0, [0, 1, 2]), (1, [0, 1, 2, 18]), (2, [6]), (3, [1, 2, 7]), (4, [1, 2, 7, 8]), (5, [1, 2, 7, 8, 9]), (6, [1, 2, 7, 8, 9, 36]), (7, [1, 2, 7, 8, 9]), (8, [1, 2, 7, 8, 9, 10]), (9, [1, 2, 7, 8, 9, 10, 42]), (10, [1, 2, 7, 8, 9, 10]), (11, [1, 2, 7, 8, 9, 10, 54]), (12, [1, 2, 7, 8, 9, 10]), (13, [6])], spec_StateAt_L A c_24 c_81 c_107 c_29 A.fuel⟩
theorem spec_StateAt_l0_ok (A : PM.Prims) (c_24 : spec_HistOk_T) (c_81 : spec_Stamps_T) (c_107 : spec_l3Vals_T) (c_29 : spec_Overlay_T) (n : Nat) (l4 : List (List C)) (n5 : Int) (i6 : Int) (o07 : List Int) (o18 : List Int) (K : Go.Exit → PM.S → PM.R) : spec_StateAt_L A c_24 c_81 c_107 c_29 (n + 1) 0 ⟨[(1, .arr (.rows 33 l4)), (2, .int .i64 n5), (7, .sref 0), (8, .sref 1), (9, .int .i64 i6)], [(0, .arr true (.ints 3 .i64 o07)), (1, .arr true (.ints 3 .i64 o18))]⟩ K = PM.roundF A cx (PM.runD A cx (spec_StateAt_E A c_24 c_81 c_107 c_29).inl (spec_StateAt_E A c_24 c_81 c_107 c_29).Γ 3) (spec_StateAt_E A c_24 c_81 c_107 c_29) (spec_StateAt_L A c_24 c_81 c_107 c_29 n) 0 Go.Proofs.Try.f88 ⟨[(1, .arr (.rows 33 l4)), (2, .int .i64 n5), (7, .sref 0), (8, .sref 1), (9, .int .i64 i6)], [(0, .arr true (.ints 3 .i64 o07)), (1, .arr true (.ints 3 .i64 o18))]⟩ K := by kernel_rfl
theorem spec_StateAt_l2_ok (A : PM.Prims) (c_24 : spec_HistOk_T) (c_81 : spec_Stamps_T) (c_107 : spec_l3Vals_T) (c_29 : spec_Overlay_T) (n : Nat) (l9 : List (List C)) (n10 : Int) (i11 : Int) (k12 : Int) (o013 : List Int) (o114 : List Int) (K : Go.Exit → PM.S → PM.R) : spec_StateAt_L A c_24 c_81 c_107 c_29 (n + 1) 2 ⟨[(1, .arr (.rows 33 l9)), (2, .int .i64 n10), (7, .sref 0), (8, .sref 1), (9, .int .i64 i11), (10, .int .i64 k12)], [(0, .arr true (.ints 3 .i64 o013)), (1, .arr true (.ints 3 .i64 o114))]⟩ K = PM.roundF A cx (PM.runD A cx (spec_StateAt_E A c_24 c_81 c_107 c_29).inl (spec_StateAt_E A c_24 c_81 c_107 c_29).Γ 3) (spec_StateAt_E A c_24 c_81 c_107 c_29) (spec_StateAt_L A c_24 c_81 c_107 c_29 n) 2 Go.Proofs.Try.f88 ⟨[(1, .arr (.rows 33 l9)), (2, .int .i64 n10), (7, .sref 0), (8, .sref 1), (9, .int .i64 i11), (10, .int .i64 k12)], [(0, .arr true (.ints 3 .i64 o013)), (1, .arr true (.ints 3 .i64 o114))]⟩ K := by kernel_rfl
theorem spec_StateAt_ok (A : PM.Prims) (c_24 : spec_HistOk_T) (c_81 : spec_Stamps_T) (c_107 : spec_l3Vals_T) (c_29 : spec_Overlay_T) (cells : List Int) (l : List (List PM.C)) (n_ : Int) (k : PM.V → PM.R) : PM.pfun A cx [] (spec_StateAt_E A c_24 c_81 c_107 c_29) Go.Proofs.Try.f88 [.arr (.ints 3 .i64 cells), .arr (.rows 33 l), .int .i64 n_] k = spec_StateAt_f A c_24 c_81 c_107 c_29 cells l n_ (fun r0 => k (.arr (.ints 3 .i64 r0))) := by kernel_rfl

theorem spec_StateAt_fn : PM.FnIs Try.prog 88 Try.f88 := .of Try.func88 (by kernel_rfl) (by kernel_rfl)
theorem spec_StateAt_g : PM.GOk Try.prog cx 88 ⟨[], spec_StateAt_w (spec_StateAt PM.std), none⟩ := by
  refine ⟨spec_StateAt_fn.enter, fun _ ds k r h => ?_, fun hm => absurd rfl hm, fun _ e => (by cases e)⟩
  change spec_StateAt_w (spec_StateAt PM.std) ds k = some r at h
  unfold spec_StateAt_w at h
  split at h
  · exact PM.pfun_ok (E := spec_StateAt_E PM.std (spec_HistOk PM.std) (spec_Stamps PM.std) (spec_l3Vals PM.std) (spec_Overlay PM.std)) (L := fun n => spec_StateAt_L PM.std (spec_HistOk PM.std) (spec_Stamps PM.std) (spec_l3Vals PM.std) (spec_Overlay PM.std) n) (N := PM.std.fuel) cx_ok (.cons spec_HistOk_g (.cons spec_Stamps_g (.cons spec_l3Vals_g (.cons spec_Overlay_g .nil)))) mixed .nil spec_StateAt_fn (by kernel_rfl) ⟨rfl, fun cur σ K => by
      dsimp only [spec_StateAt_L]
      split <;> rfl, fun n cur σ K r h => by
      dsimp only [spec_StateAt_L] at h
      split at h
      · exact (spec_StateAt_l0_ok PM.std (spec_HistOk PM.std) (spec_Stamps PM.std) (spec_l3Vals PM.std) (spec_Overlay PM.std) n _ _ _ _ _ K).symm.trans h
      · exact (spec_StateAt_l2_ok PM.std (spec_HistOk PM.std) (spec_Stamps PM.std) (spec_l3Vals PM.std) (spec_Overlay PM.std) n _ _ _ _ _ _ K).symm.trans h
      · cases h⟩
      ((spec_StateAt_ok PM.std (spec_HistOk PM.std) (spec_Stamps PM.std) (spec_l3Vals PM.std) (spec_Overlay PM.std) _ _ _ k).trans h)
  · cases h

abbrev impl_copyRows_T := (List (List Int)) → ((List (List Int)) → PM.R) → PM.R
noncomputable def impl_copyRows_w (c : impl_copyRows_T) (ds : List PM.V) (k : PM.V → PM.R) : PM.R :=
  match ds with
  | [.arr (.vecs 161 2 l)] => c l (fun r0 => k (.arr (.vecs 161 2 r0)))
  | _ => none
noncomputable def impl_copyRows_f (A : PM.Prims) (l : List (List Int)) (k : (List (List Int)) → PM.R) : PM.R :=
  bif (A.room (A.vlen []) (A.vlen l)) then
    k (A.vapp [] l)
  else
    none
noncomputable def impl_copyRows (A : PM.Prims) : impl_copyRows_T := impl_copyRows_f A
noncomputable def impl_copyRows_L (A : PM.Prims) (n : Nat) : PM.Lam := fun cur σ K =>
  match cur, σ, K with
  | _, _, _ => none
noncomputable def impl_copyRows_E (A : PM.Prims) : PM.Env := ⟨[], [], [], [(0, [0]), (1, [2])], impl_copyRows_L A A.fuel⟩
theorem impl_copyRows_ok (A : PM.Prims) (l : List (List Int)) (k : PM.V → PM.R) : PM.pfun A cx [] (impl_copyRows_E A) Go.Proofs.Try.f194 [.arr (.vecs 161 2 l)] k = impl_copyRows_f A l (fun r0 => k (.arr (.vecs 161 2 r0))) := by kernel_rfl

theorem impl_copyRows_fn : PM.FnIs Try.prog 194 Try.f194 := .of Try.func194 (by kernel_rfl) (by kernel_rfl)
theorem impl_copyRows_g : PM.GOk Try.prog cx 194 ⟨[], impl_copyRows_w (impl_copyRows PM.std), none⟩ := by
  refine ⟨impl_copyRows_fn.enter, fun _ ds k r h => ?_, fun hm => absurd rfl hm, fun _ e => (by cases e)⟩
  change impl_copyRows_w (impl_copyRows PM.std) ds k = some r at h
  unfold impl_copyRows_w at h
  split at h
  · exact PM.pfun_ok (E := impl_copyRows_E PM.std) (L := fun n => impl_copyRows_L PM.std n) (N := PM.std.fuel) cx_ok .nil mixed .nil impl_copyRows_fn (by kernel_rfl) ⟨rfl, fun _ _ _ => rfl, fun n cur σ K r h => by cases h⟩
      ((impl_copyRows_ok PM.std _ k).trans h)
  · cases h

abbrev impl_copyHist_T := (List (List PM.C)) → ((List (List PM.C)) → PM.R) → PM.R
noncomputable def impl_copyHist_w (c : impl_copyHist_T) (ds : List PM.V) (k : PM.V → PM.R) : PM.R :=
  match ds with
  | [.arr (.rows 33 l)] => c l (fun r0 => k (.arr (.rows 33 r0)))
  | _ => none
noncomputable def impl_copyHist_l0 (A : PM.Prims) (c_194 : impl_copyRows_T) : Nat → (List (List C)) → (Int) → (Int) → (List (List C)) → ((List (List C)) → PM.R) → PM.R
  | 0, _, _, _, _, _ => none
  | n + 1, t61, t72, t83, o04, kx0_0 =>
    bif (A.lt t83 t72) then
      bif (A.inb t83 (A.rlen t61)) then
        c_194 (A.rsv 2 t61 t83 2) (fun r5 =>
          bif (A.room (A.rlen o04) (A.rlen [[(.i (A.rint t61 t83 0)), (.i (A.rint t61 t83 1)), (.s (A.ofv r5))]])) then
            impl_copyHist_l0 A c_194 n t61 t72 (A.add .i64 t83 1) (A.rapp o04 [[(.i (A.rint t61 t83 0)), (.i (A.rint t61 t83 1)), (.s (A.ofv r5))]]) kx0_0
          else
            none)
      else
        none
    else
      kx0_0 o04
noncomputable def impl_copyHist_f (A : PM.Prims) (c_194 : impl_copyRows_T) (l : List (List PM.C)) (k : (List (List PM.C)) → PM.R) : PM.R :=
  impl_copyHist_l0 A c_194 A.fuel l (A.rlen l) 0 [] (fun o067 =>
    k o067)
noncomputable def impl_copyHist (A : PM.Prims) : impl_copyHist_T := impl_copyHist_f A (impl_copyRows A)
noncomputable def impl_copyHist_L (A : PM.Prims) (c_194 : impl_copyRows_T) (n : Nat) : PM.Lam := fun cur σ K =>
  match cur, σ, K with
  | 0, ⟨[(3, .sref 0), (6, .arr (.rows 33 t61)), (7, .int .i64 t72), (8, .int .i64 t83)], [(0, .arr true (.rows 33 o04))]⟩, K => impl_copyHist_l0 A c_194 n t61 t72 t83 o04 (fun o06 => K (.exit 0) ⟨[(3, .sref 0)], [(0, .arr true (.rows 33 o06))]⟩)
  | _, _, _ => none
noncomputable def impl_copyHist_E (A : PM.Prims) (c_194 : impl_copyRows_T) : PM.Env := ⟨[(194, ⟨[], impl_copyRows_w c_194, none⟩)], [], [(0, [3, 6, 7, 8], [2, 3])], [(0, [0]), (1, [0, 3]), (2, [3, 6, 7, 8]), (3, [3, 6, 7, 8, 9]), (4, [3, 5, 6, 7, 8]), (5, [3, 5, 6, 7, 8]), (6, [3, 6, 7, 8]), (7, [3, 6, 7, 8]), (8, [2])], impl_copyHist_L A c_194 A.fuel⟩
theorem impl_copyHist_l0_ok (A : PM.Prims) (c_194 : impl_copyRows_T) (n : Nat) (t61 : List (List C)) (t72 : Int) (t83 : Int) (o04 : List (List C)) (K : Go.Exit → PM.S → PM.R) : impl_copyHist_L A c_194 (n + 1) 0 ⟨[(3, .sref 0), (6, .arr (.rows 33 t61)), (7, .int .i64 t72), (8, .int .i64 t83)], [(0, .arr true (.rows 33 o04))]⟩ K = PM.roundF A cx (PM.runD A cx (impl_copyHist_E A c_194).inl (impl_copyHist_E A c_194).Γ 3) (impl_copyHist_E A c_194) (impl_copyHist_L A c_194 n) 0 Go.Proofs.Try.f98 ⟨[(3, .sref 0), (6, .arr (.rows 33 t61)), (7, .int .i64 t72), (8, .int .i64 t83)], [(0, .arr true (.rows 33 o04))]⟩ K := by kernel_rfl
theorem impl_copyHist_ok (A : PM.Prims) (c_194 : impl_copyRows_T) (l : List (List PM.C)) (k : PM.V → PM.R) : PM.pfun A cx [] (impl_copyHist_E A c_194) Go.Proofs.Try.f98 [.arr (.rows 33 l)] k = impl_copyHist_f A c_194 l (fun r0 => k (.arr (.rows 33 r0))) := by kernel_rfl

theorem impl_copyHist_fn : PM.FnIs Try.prog 98 Try.f98 := .of Try.func98 (by kernel_rfl) (by kernel_rfl)
theorem impl_copyHist_g : PM.GOk Try.prog cx 98 ⟨[], impl_copyHist_w (impl_copyHist PM.std), none⟩ := by
  refine ⟨impl_copyHist_fn.enter, fun _ ds k r h => ?_, fun hm => absurd rfl hm, fun _ e => (by cases e)⟩
  change impl_copyHist_w (impl_copyHist PM.std) ds k = some r at h
  unfold impl_copyHist_w at h
  split at h
  · exact PM.pfun_ok (E := impl_copyHist_E PM.std (impl_copyRows PM.std)) (L := fun n => impl_copyHist_L PM.std (impl_copyRows PM.std) n) (N := PM.std.fuel) cx_ok (.cons impl_copyRows_g .nil) mixed .nil impl_copyHist_fn (by kernel_rfl) ⟨rfl, fun cur σ K => by
      dsimp only [impl_copyHist_L]
      split <;> rfl, fun n cur σ K r h => by
      dsimp only [impl_copyHist_L] at h
      split at h
      · exact (impl_copyHist_l0_ok PM.std (impl_copyRows PM.std) n _ _ _ _ K).symm.trans h
      · cases h⟩
      ((impl_copyHist_ok PM.std (impl_copyRows PM.std) _ k).trans h)
  · cases h

abbrev impl_StateAt_T := (List Int) → (List (List PM.C)) → (Int) → ((List Int) → PM.R) → PM.R
noncomputable def impl_StateAt_w (c : impl_StateAt_T) (ds : List PM.V) (k : PM.V → PM.R) : PM.R :=
  match ds with
  | [.arr (.ints 3 .i64 cells), .arr (.rows 33 l), .int .i64 n_] => c cells l n_ (fun r0 => k (.arr (.ints 3 .i64 r0)))
  | _ => none
noncomputable def impl_StateAt_l0 (A : PM.Prims) (c_44 : impl_HistOk_T) (c_97 : impl_areValues_T) (c_98 : impl_copyHist_T) (c_99 : slices_SortFunc___impl_Wrote_impl_Wrote__T) (c_101 : impl_copyInts_T) (c_102 : impl_Overlay_T) : Nat → (Int) → (Int) → (Int) → (List Int) → (List (List C)) → ((List Int) → PM.R) → PM.R
  | 0, _, _, _, _, _, _ => none
  | n + 1, n6, t267, t278, o09, o110, kx0_0 =>
    bif (A.lt t278 t267) then
      bif (A.inb t278 (A.rlen o110)) then
        bif (A.le (A.rint o110 t278 0) n6) then
          c_102 o09 (A.rsv 2 o110 t278 2) (fun r11 =>
            impl_StateAt_l0 A c_44 c_97 c_98 c_99 c_101 c_102 n n6 t267 (A.add .i64 t278 1) r11 o110 kx0_0)
        else
          impl_StateAt_l0 A c_44 c_97 c_98 c_99 c_101 c_102 n n6 t267 (A.add .i64 t278 1) o09 o110 kx0_0
      else
        none
    else
      kx0_0 o09
noncomputable def impl_StateAt_f (A : PM.Prims) (c_44 : impl_HistOk_T) (c_97 : impl_areValues_T) (c_98 : impl_copyHist_T) (c_99 : slices_SortFunc___impl_Wrote_impl_Wrote__T) (c_101 : impl_copyInts_T) (c_102 : impl_Overlay_T) (cells : List Int) (l : List (List PM.C)) (n_ : Int) (k : (List Int) → PM.R) : PM.R :=
  c_97 cells 8 (fun r1 =>
    bif (A.not r1) then
      k []
    else
      c_44 l (fun r2 =>
        bif (A.not r2) then
          k []
        else
          c_98 l (fun r3 =>
            c_99 r3 (fun r4 =>
              c_101 cells (fun r5 =>
                impl_StateAt_l0 A c_44 c_97 c_98 c_99 c_101 c_102 A.fuel n_ (A.rlen r4) 0 r5 r4 (fun o01213 =>
                  k o01213))))))
noncomputable def impl_StateAt (A : PM.Prims) : impl_StateAt_T := impl_StateAt_f A (impl_HistOk A) (impl_areValues A) (impl_copyHist A) (slices_SortFunc___impl_Wrote_impl_Wrote_ A) (impl_copyInts A) (impl_Overlay A)
noncomputable def impl_StateAt_L (A : PM.Prims) (c_44 : impl_HistOk_T) (c_97 : impl_areValues_T) (c_98 : impl_copyHist_T) (c_99 : slices_SortFunc___impl_Wrote_impl_Wrote__T) (c_101 : impl_copyInts_T) (c_102 : impl_Overlay_T) (n : Nat) : PM.Lam := fun cur σ K =>
  match cur, σ, K with
  | 0, ⟨[(2, .int .i64 n6), (8, .sref 0), (25, .sref 1), (26, .int .i64 t267), (27, .int .i64 t278)], [(0, .arr true (.ints 3 .i64 o09)), (1, .arr true (.rows 33 o110))]⟩, K => impl_StateAt_l0 A c_44 c_97 c_98 c_99 c_101 c_102 n n6 t267 t278 o09 o110 (fun o012 => K (.exit 0) ⟨[(8, .sref 0)], [(0, .arr true (.ints 3 .i64 o012))]⟩)
  | _, _, _ => none
noncomputable def impl_StateAt_E (A : PM.Prims) (c_44 : impl_HistOk_T) (c_97 : impl_areValues_T) (c_98 : impl_copyHist_T) (c_99 : slices_SortFunc___impl_Wrote_impl_Wrote__T) (c_101 : impl_copyInts_T) (c_102 : impl_Overlay_T) : PM.Env := ⟨[(44, ⟨[], impl_HistOk_w c_44, none⟩), (97, ⟨[], impl_areValues_w c_97, none⟩), (98, ⟨[], impl_copyHist_w c_98, none⟩), (99, ⟨[], fun _ _ => none, some (PM.spSrt 100 (slices_SortFunc___impl_Wrote_impl_Wrote__w c_99))⟩), (101, ⟨[], impl_copyInts_w c_101, none⟩), (102, ⟨[], impl_Overlay_w c_102, none⟩)], [], [(0, [2, 8, 25, 26, 27], [6, 8])], [(0, [0, 1, 2]), (1, [0, 1, 2, 18]), (2, [6]), (3, [0, 2, 7]), (4, [0, 2, 7]), (5, [2, 7, 8]), (6, [2, 8, 25, 26, 27]), (7, [2, 8, 25, 26, 27, 28]), (8, [2, 8, 10, 25, 26, 27]), (9, [2, 8, 10, 25, 26, 27, 34]), (10, [2, 8, 25, 26, 27]), (11, [2, 8, 25, 26, 27]), (12, [6])], impl_StateAt_L A c_44 c_97 c_98 c_99 c_101 c_102 A.fuel⟩
theorem impl_StateAt_l0_ok (A : PM.Prims) (c_44 : impl_HistOk_T) (c_97 : impl_areValues_T) (c_98 : impl_copyHist_T) (c_99 : slices_SortFunc___impl_Wrote_impl_Wrote__T) (c_101 : impl_copyInts_T) (c_102 : impl_Overlay_T) (n : Nat) (n6 : Int) (t267 : Int) (t278 : Int) (o09 : List Int) (o110 : List (List C)) (K : Go.Exit → PM.S → PM.R) : impl_StateAt_L A c_44 c_97 c_98 c_99 c_101 c_102 (n + 1) 0 ⟨[(2, .int .i64 n6), (8, .sref 0), (25, .sref 1), (26, .int .i64 t267), (27, .int .i64 t278)], [(0, .arr true (.ints 3 .i64 o09)), (1, .arr true (.rows 33 o110))]⟩ K = PM.roundF A cx (PM.runD A cx (impl_StateAt_E A c_44 c_97 c_98 c_99 c_101 c_102).inl (impl_StateAt_E A c_44 c_97 c_98 c_99 c_101 c_102).Γ 3) (impl_StateAt_E A c_44 c_97 c_98 c_99 c_101 c_102) (impl_StateAt_L A c_44 c_97 c_98 c_99 c_101 c_102 n) 0 Go.Proofs.Try.f23 ⟨[(2, .int .i64 n6), (8, .sref 0), (25, .sref 1), (26, .int .i64 t267), (27, .int .i64 t278)], [(0, .arr true (.ints 3 .i64 o09)), (1, .arr true (.rows 33 o110))]⟩ K := by kernel_rfl
theorem impl_StateAt_ok (A : PM.Prims) (c_44 : impl_HistOk_T) (c_97 : impl_areValues_T) (c_98 : impl_copyHist_T) (c_99 : slices_SortFunc___impl_Wrote_impl_Wrote__T) (c_101 : impl_copyInts_T) (c_102 : impl_Overlay_T) (cells : List Int) (l : List (List PM.C)) (n_ : Int) (k : PM.V → PM.R) : PM.pfun A cx [] (impl_StateAt_E A c_44 c_97 c_98 c_99 c_101 c_102) Go.Proofs.Try.f23 [.arr (.ints 3 .i64 cells), .arr (.rows 33 l), .int .i64 n_] k = impl_StateAt_f A c_44 c_97 c_98 c_99 c_101 c_102 cells l n_ (fun r0 => k (.arr (.ints 3 .i64 r0))) := by kernel_rfl

theorem impl_StateAt_fn : PM.FnIs Try.prog 23 Try.f23 := .of Try.func23 (by kernel_rfl) (by kernel_rfl)
theorem impl_StateAt_g : PM.GOk Try.prog cx 23 ⟨[], impl_StateAt_w (impl_StateAt PM.std), none⟩ := by
  refine ⟨impl_StateAt_fn.enter, fun _ ds k r h => ?_, fun hm => absurd rfl hm, fun _ e => (by cases e)⟩
  change impl_StateAt_w (impl_StateAt PM.std) ds k = some r at h
  unfold impl_StateAt_w at h
  split at h
  · exact PM.pfun_ok (E := impl_StateAt_E PM.std (impl_HistOk PM.std) (impl_areValues PM.std) (impl_copyHist PM.std) (slices_SortFunc___impl_Wrote_impl_Wrote_ PM.std) (impl_copyInts PM.std) (impl_Overlay PM.std)) (L := fun n => impl_StateAt_L PM.std (impl_HistOk PM.std) (impl_areValues PM.std) (impl_copyHist PM.std) (slices_SortFunc___impl_Wrote_impl_Wrote_ PM.std) (impl_copyInts PM.std) (impl_Overlay PM.std) n) (N := PM.std.fuel) cx_ok (.cons impl_HistOk_g (.cons impl_areValues_g (.cons impl_copyHist_g (.cons slices_SortFunc___impl_Wrote_impl_Wrote__g (.cons impl_copyInts_g (.cons impl_Overlay_g .nil)))))) mixed .nil impl_StateAt_fn (by kernel_rfl) ⟨rfl, fun cur σ K => by
      dsimp only [impl_StateAt_L]
      split <;> rfl, fun n cur σ K r h => by
      dsimp only [impl_StateAt_L] at h
      split at h
      · exact (impl_StateAt_l0_ok PM.std (impl_HistOk PM.std) (impl_areValues PM.std) (impl_copyHist PM.std) (slices_SortFunc___impl_Wrote_impl_Wrote_ PM.std) (impl_copyInts PM.std) (impl_Overlay PM.std) n _ _ _ _ _ K).symm.trans h
      · cases h⟩
      ((impl_StateAt_ok PM.std (impl_HistOk PM.std) (impl_areValues PM.std) (impl_copyHist PM.std) (slices_SortFunc___impl_Wrote_impl_Wrote_ PM.std) (impl_copyInts PM.std) (impl_Overlay PM.std) _ _ _ k).trans h)
  · cases h

abbrev laws_FnExactStateAt_T := (List Int) → (List (List PM.C)) → (Int) → ((Bool) → PM.R) → PM.R
noncomputable def laws_FnExactStateAt_w (c : laws_FnExactStateAt_T) (ds : List PM.V) (k : PM.V → PM.R) : PM.R :=
  match ds with
  | [.arr (.ints 3 .i64 __), .arr (.rows 195 a), .int .i64 r] => c __ a r (fun r0 => k (.bool r0))
  | _ => none
noncomputable def laws_FnExactStateAt_f (A : PM.Prims) (c_42 : laws_szWroteS_T) (c_43 : laws_toWroteS_T) (c_40 : laws_eqIntS_T) (c_45 : laws_eqWroteS_T) (c_82 : laws_markWroteS_T) (c_54 : laws_markIntS_T) (c_56 : laws_heldIntS_T) (c_37 : laws_toIntS_T) (c_88 : spec_StateAt_T) (c_23 : impl_StateAt_T) (__ : List Int) (a : List (List PM.C)) (r : Int) (k : (Bool) → PM.R) : PM.R :=
  bif (A.lt 1048576 (A.ilen __)) then
    k true
  else
    c_42 a 1048576 (fun r1 =>
      bif (A.lt r1 0) then
        k true
      else
        c_37 __ (fun r2 =>
          c_43 a (fun r3 =>
            c_88 r2 r3 r (fun r4 =>
              c_37 __ (fun r5 =>
                c_43 a (fun r6 =>
                  c_23 r5 r6 r (fun r7 =>
                    c_40 r7 r4 (fun r8 =>
                      bif (A.not r8) then
                        k false
                      else
                        c_37 __ (fun r9 =>
                          c_40 r5 r9 (fun r10 =>
                            bif (A.not r10) then
                              k false
                            else
                              c_43 a (fun r11 =>
                                c_45 r6 r11 (fun r12 =>
                                  bif (A.not r12) then
                                    k false
                                  else
                                    c_54 r5 1 (fun r13 r14 =>
                                      c_82 r6 r13 (fun r15 =>
                                        bif (A.lt r15 0) then
                                          k false
                                        else
                                          c_40 r7 r4 (fun r16 =>
                                            bif (A.not r16) then
                                              k false
                                            else
                                              c_54 r7 1 (fun r17 r18 =>
                                                c_56 r18 1 (fun r19 =>
                                                  bif (A.lt r19 0) then
                                                    k false
                                                  else
                                                    bif (A.not (A.eq r19 r17)) then
                                                      k false
                                                    else
                                                      c_37 __ (fun r20 =>
                                                        c_43 a (fun r21 =>
                                                          c_23 r20 r21 r (fun r22 =>
                                                            c_40 r22 r4 (fun r23 =>
                                                              bif (A.not r23) then
                                                                k false
                                                              else
                                                                c_56 r18 1 (fun r24 =>
                                                                  bif (A.lt r24 0) then
                                                                    k false
                                                                  else
                                                                    bif (A.not (A.eq r24 r17)) then
                                                                      k false
                                                                    else
                                                                      k true))))))))))))))))))))))
noncomputable def laws_FnExactStateAt (A : PM.Prims) : laws_FnExactStateAt_T := laws_FnExactStateAt_f A (laws_szWroteS A) (laws_toWroteS A) (laws_eqIntS A) (laws_eqWroteS A) (laws_markWroteS A) (laws_markIntS A) (laws_heldIntS A) (laws_toIntS A) (spec_StateAt A) (impl_StateAt A)
noncomputable def laws_FnExactStateAt_L (A : PM.Prims) (c_42 : laws_szWroteS_T) (c_43 : laws_toWroteS_T) (c_40 : laws_eqIntS_T) (c_45 : laws_eqWroteS_T) (c_82 : laws_markWroteS_T) (c_54 : laws_markIntS_T) (c_56 : laws_heldIntS_T) (c_37 : laws_toIntS_T) (c_88 : spec_StateAt_T) (c_23 : impl_StateAt_T) (n : Nat) : PM.Lam := fun cur σ K =>
  match cur, σ, K with
  | _, _, _ => none
noncomputable def laws_FnExactStateAt_E (A : PM.Prims) (c_42 : laws_szWroteS_T) (c_43 : laws_toWroteS_T) (c_40 : laws_eqIntS_T) (c_45 : laws_eqWroteS_T) (c_82 : laws_markWroteS_T) (c_54 : laws_markIntS_T) (c_56 : laws_heldIntS_T) (c_37 : laws_toIntS_T) (c_88 : spec_StateAt_T) (c_23 : impl_StateAt_T) : PM.Env := ⟨[(42, ⟨[], laws_szWroteS_w c_42, none⟩), (43, ⟨[], laws_toWroteS_w c_43, none⟩), (40, ⟨[], laws_eqIntS_w c_40, none⟩), (45, ⟨[], laws_eqWroteS_w c_45, none⟩), (54, ⟨[true, false], laws_markIntS_w c_54, none⟩), (56, ⟨[], laws_heldIntS_w c_56, none⟩), (37, ⟨[], laws_toIntS_w c_37, none⟩), (88, ⟨[], spec_StateAt_w c_88, none⟩), (23, ⟨[], impl_StateAt_w c_23, none⟩)], [], [], [(0, [0, 1, 2]), (1, [0, 1, 2, 18]), (2, [6]), (3, [0, 1, 2, 7]), (4, [0, 1, 2, 7]), (5, [0, 1, 2, 23]), (6, [6]), (7, [0, 1, 2, 8]), (8, [0, 1, 2, 8, 9]), (9, [0, 1, 2, 8, 9, 10]), (10, [0, 1, 2, 8, 9, 10, 11]), (11, [0, 1, 2, 8, 9, 10, 11, 41]), (12, [6]), (13, [0, 1, 2, 8, 9, 10, 11, 46]), (14, [6]), (15, [0, 1, 2, 8, 9, 10, 11, 51]), (16, [6]), (17, [0, 1, 2, 8, 9, 10, 11, 12]), (18, [0, 1, 2, 8, 10, 11, 12]), (19, [0, 1, 2, 8, 11, 12]), (20, [0, 1, 2, 8, 11, 65]), (21, [6]), (22, [0, 1, 2, 8, 11, 13]), (23, [0, 1, 2, 8, 11, 13]), (24, [0, 1, 2, 8, 11, 13, 14]), (25, [0, 1, 2, 8, 11, 13, 14]), (26, [0, 1, 2, 8, 11, 13, 14, 73]), (27, [6]), (28, [0, 1, 2, 8, 11, 13, 76]), (29, [6]), (30, [8, 11, 13, 15]), (31, [11, 13, 86]), (32, [6]), (33, [11, 13, 14]), (34, [13, 14]), (35, [13, 14, 91]), (36, [6]), (37, [94]), (38, [6]), (39, [6])], laws_FnExactStateAt_L A c_42 c_43 c_40 c_45 c_82 c_54 c_56 c_37 c_88 c_23 A.fuel⟩
theorem laws_FnExactStateAt_ok (A : PM.Prims) (c_42 : laws_szWroteS_T) (c_43 : laws_toWroteS_T) (c_40 : laws_eqIntS_T) (c_45 : laws_eqWroteS_T) (c_82 : laws_markWroteS_T) (c_54 : laws_markIntS_T) (c_56 : laws_heldIntS_T) (c_37 : laws_toIntS_T) (c_88 : spec_StateAt_T) (c_23 : impl_StateAt_T) (__ : List Int) (a : List (List PM.C)) (r : Int) (k : PM.V → PM.R) : PM.lfun A cx [(82, laws_markWroteS_w c_82)] (laws_FnExactStateAt_E A c_42 c_43 c_40 c_45 c_82 c_54 c_56 c_37 c_88 c_23) Go.Proofs.Try.f19 [.arr (.ints 3 .i64 __), .arr (.rows 195 a), .int .i64 r] k = laws_FnExactStateAt_f A c_42 c_43 c_40 c_45 c_82 c_54 c_56 c_37 c_88 c_23 __ a r (fun r0 => k (.bool r0)) := by kernel_rfl

theorem laws_FnExactStateAt_fn : PM.FnIs Try.prog 19 Try.f19 := .of Try.func19 (by kernel_rfl) (by kernel_rfl)
theorem laws_FnExactStateAt_g : PM.GOk Try.prog cx 19 ⟨[], laws_FnExactStateAt_w (laws_FnExactStateAt PM.std), none⟩ := by
  refine ⟨laws_FnExactStateAt_fn.enter, fun _ ds k r h => ?_, fun hm => absurd rfl hm, fun _ e => (by cases e)⟩
  change laws_FnExactStateAt_w (laws_FnExactStateAt PM.std) ds k = some r at h
  unfold laws_FnExactStateAt_w at h
  split at h
  · exact PM.lfun_ok (E := laws_FnExactStateAt_E PM.std (laws_szWroteS PM.std) (laws_toWroteS PM.std) (laws_eqIntS PM.std) (laws_eqWroteS PM.std) (laws_markWroteS PM.std) (laws_markIntS PM.std) (laws_heldIntS PM.std) (laws_toIntS PM.std) (spec_StateAt PM.std) (impl_StateAt PM.std)) (M := [(82, laws_markWroteS_w (laws_markWroteS PM.std))]) (.cons laws_markWroteS_mk .nil) cx_ok (.cons laws_szWroteS_g (.cons laws_toWroteS_g (.cons laws_eqIntS_g (.cons laws_eqWroteS_g (.cons laws_markIntS_g (.cons laws_heldIntS_g (.cons laws_toIntS_g (.cons spec_StateAt_g (.cons impl_StateAt_g .nil))))))))) mixed .nil laws_FnExactStateAt_fn (by kernel_rfl)
      ((laws_FnExactStateAt_ok PM.std (laws_szWroteS PM.std) (laws_toWroteS PM.std) (laws_eqIntS PM.std) (laws_eqWroteS PM.std) (laws_markWroteS PM.std) (laws_markIntS PM.std) (laws_heldIntS PM.std) (laws_toIntS PM.std) (spec_StateAt PM.std) (impl_StateAt PM.std) _ _ _ k).trans h)
  · cases h

abbrev laws_big_T := (List Int) → ((Bool) → PM.R) → PM.R
noncomputable def laws_big_w (c : laws_big_T) (ds : List PM.V) (k : PM.V → PM.R) : PM.R :=
  match ds with
  | [.arr (.ints 5 .u8 code)] => c code (fun r0 => k (.bool r0))
  | _ => none
noncomputable def laws_big_f (A : PM.Prims) (code : List Int) (k : (Bool) → PM.R) : PM.R :=
  k (A.lt 1048576 (A.ilen code))
noncomputable def laws_big (A : PM.Prims) : laws_big_T := laws_big_f A
noncomputable def laws_big_L (A : PM.Prims) (n : Nat) : PM.Lam := fun cur σ K =>
  match cur, σ, K with
  | _, _, _ => none
noncomputable def laws_big_E (A : PM.Prims) : PM.Env := ⟨[], [], [], [(0, [0]), (1, [2])], laws_big_L A A.fuel⟩
theorem laws_big_ok (A : PM.Prims) (code : List Int) (k : PM.V → PM.R) : PM.pfun A cx [] (laws_big_E A) Go.Proofs.Try.f21 [.arr (.ints 5 .u8 code)] k = laws_big_f A code (fun r0 => k (.bool r0)) := by kernel_rfl

theorem laws_big_fn : PM.FnIs Try.prog 21 Try.f21 := .of Try.func21 (by kernel_rfl) (by kernel_rfl)
theorem laws_big_g : PM.GOk Try.prog cx 21 ⟨[], laws_big_w (laws_big PM.std), none⟩ := by
  refine ⟨laws_big_fn.enter, fun _ ds k r h => ?_, fun hm => absurd rfl hm, fun _ e => (by cases e)⟩
  change laws_big_w (laws_big PM.std) ds k = some r at h
  unfold laws_big_w at h
  split at h
  · exact PM.pfun_ok (E := laws_big_E PM.std) (L := fun n => laws_big_L PM.std n) (N := PM.std.fuel) cx_ok .nil mixed .nil laws_big_fn (by kernel_rfl) ⟨rfl, fun _ _ _ => rfl, fun n cur σ K r h => by cases h⟩
      ((laws_big_ok PM.std _ k).trans h)
  · cases h

abbrev spec_l1New_T := (List Int) → ((List Int) → (Int) → (Int) → PM.R) → PM.R
noncomputable def spec_l1New_w (c : spec_l1New_T) (ds : List PM.V) (k : PM.V → PM.R) : PM.R :=
  match ds with
  | [.arr (.ints 5 .u8 code)] => c code (fun r0_b r0_i r0_h => k (.tup [.arr (.ints 5 .u8 r0_b), .int .i64 r0_i, .int .i64 r0_h]))
  | _ => none
noncomputable def spec_l1New_l0 (A : PM.Prims) : Nat → (List Int) → (Int) → (Int) → ((List Int) → (Int) → PM.R) → PM.R
  | 0, _, _, _, _ => none
  | n + 1, code1, h2, i3, kx0_0 =>
    bif (A.lt i3 (A.ilen code1)) then
      bif (A.lt i3 4000) then
        bif (A.inb i3 (A.ilen code1)) then
          spec_l1New_l0 A n code1 (A.bits .and .i64 (A.add .i64 (A.add .i64 (A.mul .i64 h2 131) (A.wrap .i64 (A.iget code1 i3))) 7) 1073741823) (A.add .i64 i3 1) kx0_0
        else
          none
      else
        kx0_0 code1 h2
    else
      kx0_0 code1 h2
noncomputable def spec_l1New_f (A : PM.Prims) (code : List Int) (k : (List Int) → (Int) → (Int) → PM.R) : PM.R :=
  spec_l1New_l0 A A.fuel code (A.add .i64 10101 (A.ilen code)) 0 (fun code46 h57 =>
    k code46 0 h57)
noncomputable def spec_l1New (A : PM.Prims) : spec_l1New_T := spec_l1New_f A
noncomputable def spec_l1New_L (A : PM.Prims) (n : Nat) : PM.Lam := fun cur σ K =>
  match cur, σ, K with
  | 0, ⟨[(0, .arr (.ints 5 .u8 code1)), (3, .int .i64 h2), (4, .int .i64 i3)], []⟩, K => spec_l1New_l0 A n code1 h2 i3 (fun code4 h5 => K (.exit 0) ⟨[(0, .arr (.ints 5 .u8 code4)), (3, .int .i64 h5)], []⟩)
  | _, _, _ => none
noncomputable def spec_l1New_E (A : PM.Prims) : PM.Env := ⟨[], [], [(0, [0, 3, 4], [0, 2, 3])], [(0, [0]), (1, [0, 3]), (2, [0, 3, 4]), (3, [0, 3, 4, 15]), (4, [0, 3, 4]), (5, [0, 3, 4]), (6, [2])], spec_l1New_L A A.fuel⟩
theorem spec_l1New_l0_ok (A : PM.Prims) (n : Nat) (code1 : List Int) (h2 : Int) (i3 : Int) (K : Go.Exit → PM.S → PM.R) : spec_l1New_L A (n + 1) 0 ⟨[(0, .arr (.ints 5 .u8 code1)), (3, .int .i64 h2), (4, .int .i64 i3)], []⟩ K = PM.roundF A cx (PM.runD A cx (spec_l1New_E A).inl (spec_l1New_E A).Γ 3) (spec_l1New_E A) (spec_l1New_L A n) 0 Go.Proofs.Try.f92 ⟨[(0, .arr (.ints 5 .u8 code1)), (3, .int .i64 h2), (4, .int .i64 i3)], []⟩ K := by kernel_rfl
theorem spec_l1New_ok (A : PM.Prims) (code : List Int) (k : PM.V → PM.R) : PM.pfunN A cx (spec_l1New_E A) Go.Proofs.Try.f92 [.arr (.ints 5 .u8 code)] k = spec_l1New_f A code (fun r0_b r0_i r0_h => k (.tup [.arr (.ints 5 .u8 r0_b), .int .i64 r0_i, .int .i64 r0_h])) := by kernel_rfl

theorem spec_l1New_fn : PM.FnIs Try.prog 92 Try.f92 := .of Try.func92 (by kernel_rfl) (by kernel_rfl)
theorem spec_l1New_g : PM.GOk Try.prog cx 92 ⟨[], fun _ _ => none, some (PM.spNew (spec_l1New_w (spec_l1New PM.std)))⟩ := by
  refine PM.GOk.ofS spec_l1New_fn.enter (PM.spNew_ok fun ds k r h => ?_)
  change spec_l1New_w (spec_l1New PM.std) ds k = some r at h
  unfold spec_l1New_w at h
  split at h
  · exact PM.pfunN_ok (E := spec_l1New_E PM.std) (L := fun n => spec_l1New_L PM.std n) (N := PM.std.fuel) cx_ok .nil mixed .nil spec_l1New_fn (by kernel_rfl) ⟨rfl, fun cur σ K => by
      dsimp only [spec_l1New_L]
      split <;> rfl, fun n cur σ K r h => by
      dsimp only [spec_l1New_L] at h
      split at h
      · exact (spec_l1New_l0_ok PM.std n _ _ _ K).symm.trans h
      · cases h⟩
      ((spec_l1New_ok PM.std _ k).trans h)
  · cases h

abbrev spec_l1Byte_T := (List Int) → (Int) → (Int) → ((Int) → (List Int) → (Int) → (Int) → PM.R) → PM.R
noncomputable def spec_l1Byte_w (c : spec_l1Byte_T) (ds : List PM.V) (k : PM.V → PM.R) : PM.R :=
  match ds with
  | [.tup [.arr (.ints 5 .u8 c_b), .int .i64 c_i, .int .i64 c_h]] => c c_b c_i c_h (fun r0 bx_b bx_i bx_h => k (.tup [.int .i64 r0, .tup [.arr (.ints 5 .u8 bx_b), .int .i64 bx_i, .int .i64 bx_h]]))
  | _ => none
noncomputable def spec_l1Byte_f (A : PM.Prims) (c_b : List Int) (c_i : Int) (c_h : Int) (k : (Int) → (List Int) → (Int) → (Int) → PM.R) : PM.R :=
  bif (A.shOk .i64 33) then
    bif (A.shOk .i64 45) then
      bif (A.lt c_i (A.ilen c_b)) then
        bif (A.inb c_i (A.ilen c_b)) then
          k (A.bits .and .i64 (A.add .i64 (A.bits .and .i64 (A.bits .xor .i64 (A.shift .shr .i64 (A.add .i64 (A.mul .i64 c_h 6364136223846793005) 1442695040888963407) 33) (A.shift .shr .i64 (A.add .i64 (A.mul .i64 c_h 6364136223846793005) 1442695040888963407) 45)) 255) (A.wrap .i64 (A.iget c_b c_i))) 255) c_b (A.add .i64 c_i 1) (A.add .i64 (A.mul .i64 c_h 6364136223846793005) 1442695040888963407)
        else
          none
      else
        k (A.bits .and .i64 (A.bits .xor .i64 (A.shift .shr .i64 (A.add .i64 (A.mul .i64 c_h 6364136223846793005) 1442695040888963407) 33) (A.shift .shr .i64 (A.add .i64 (A.mul .i64 c_h 6364136223846793005) 1442695040888963407) 45)) 255) c_b c_i (A.add .i64 (A.mul .i64 c_h 6364136223846793005) 1442695040888963407)
    else
      none
  else
    none
noncomputable def spec_l1Byte (A : PM.Prims) : spec_l1Byte_T := spec_l1Byte_f A
noncomputable def spec_l1Byte_L (A : PM.Prims) (n : Nat) : PM.Lam := fun cur σ K =>
  match cur, σ, K with
  | _, _, _ => none
noncomputable def spec_l1Byte_E (A : PM.Prims) : PM.Env := ⟨[], [], [], [(0, [0]), (1, [0]), (2, [0, 3]), (3, [0, 3, 34]), (4, [0, 3]), (5, [0, 3]), (6, [0, 2])], spec_l1Byte_L A A.fuel⟩
theorem spec_l1Byte_ok (A : PM.Prims) (c_b : List Int) (c_i : Int) (c_h : Int) (k : PM.V → PM.R) : PM.pfunB A cx (spec_l1Byte_E A) Go.Proofs.Try.f192 [.tup [.arr (.ints 5 .u8 c_b), .int .i64 c_i, .int .i64 c_h]] k = spec_l1Byte_f A c_b c_i c_h (fun r0 bx_b bx_i bx_h => k (.tup [.int .i64 r0, .tup [.arr (.ints 5 .u8 bx_b), .int .i64 bx_i, .int .i64 bx_h]])) := by kernel_rfl

theorem spec_l1Byte_fn : PM.FnIs Try.prog 192 Try.f192 := .of Try.func192 (by kernel_rfl) (by kernel_rfl)
theorem spec_l1Byte_b : PM.BoxOk Try.prog cx 192 (spec_l1Byte_w (spec_l1Byte PM.std)) := by
  intro ds k r h
  change spec_l1Byte_w (spec_l1Byte PM.std) ds k = some r at h
  unfold spec_l1Byte_w at h
  split at h
  · exact PM.pfunB_ok (E := spec_l1Byte_E PM.std) (L := fun n => spec_l1Byte_L PM.std n) (N := PM.std.fuel) cx_ok .nil mixed .nil spec_l1Byte_fn (by kernel_rfl) ⟨rfl, fun _ _ _ => rfl, fun n cur σ K r h => by cases h⟩
      ((spec_l1Byte_ok PM.std _ _ _ k).trans h)
  · cases h
theorem spec_l1Byte_g : PM.GOk Try.prog cx 192 ⟨[], fun _ _ => none, some (PM.spBox (spec_l1Byte_w (spec_l1Byte PM.std)))⟩ := PM.GOk.ofS spec_l1Byte_fn.enter (PM.spBox_ok spec_l1Byte_b)

abbrev spec_l1Below_T := (List Int) → (Int) → (Int) → (Int) → ((Int) → (List Int) → (Int) → (Int) → PM.R) → PM.R
noncomputable def spec_l1Below_w (c : spec_l1Below_T) (ds : List PM.V) (k : PM.V → PM.R) : PM.R :=
  match ds with
  | [.tup [.arr (.ints 5 .u8 c_b), .int .i64 c_i, .int .i64 c_h], .int .i64 n_] => c c_b c_i c_h n_ (fun r0 bx_b bx_i bx_h => k (.tup [.int .i64 r0, .tup [.arr (.ints 5 .u8 bx_b), .int .i64 bx_i, .int .i64 bx_h]]))
  | _ => none
noncomputable def spec_l1Below_f (A : PM.Prims) (c_192 : spec_l1Byte_T) (c_b : List Int) (c_i : Int) (c_h : Int) (n_ : Int) (k : (Int) → (List Int) → (Int) → (Int) → PM.R) : PM.R :=
  bif (A.le n_ 0) then
    k 0 c_b c_i c_h
  else
    bif (A.le n_ 256) then
      c_192 c_b c_i c_h (fun r1 r2 r3 r4 =>
        bif (A.nz n_) then
          k (A.rem .i64 r1 n_) r2 r3 r4
        else
          none)
    else
      c_192 c_b c_i c_h (fun r5 r6 r7 r8 =>
        c_192 r6 r7 r8 (fun r9 r10 r11 r12 =>
          c_192 r10 r11 r12 (fun r13 r14 r15 r16 =>
            c_192 r14 r15 r16 (fun r17 r18 r19 r20 =>
              bif (A.nz n_) then
                k (A.rem .i64 (A.add .i64 (A.add .i64 (A.add .i64 (A.mul .i64 r5 16777216) (A.mul .i64 r9 65536)) (A.mul .i64 r13 256)) r17) n_) r18 r19 r20
              else
                none))))
noncomputable def spec_l1Below (A : PM.Prims) : spec_l1Below_T := spec_l1Below_f A (spec_l1Byte A)
noncomputable def spec_l1Below_L (A : PM.Prims) (c_192 : spec_l1Byte_T) (n : Nat) : PM.Lam := fun cur σ K =>
  match cur, σ, K with
  | _, _, _ => none
noncomputable def spec_l1Below_E (A : PM.Prims) (c_192 : spec_l1Byte_T) : PM.Env := ⟨[(192, ⟨[], fun _ _ => none, some (PM.spBox (spec_l1Byte_w c_192))⟩)], [], [], [(0, [0, 1]), (1, [0, 1, 10]), (2, [0, 4]), (3, [0, 1, 12]), (4, [0, 4]), (5, [0, 1, 5]), (6, [0, 1, 5, 6]), (7, [0, 1, 5, 6, 7]), (8, [0, 1, 5, 6, 7, 8]), (9, [0, 4])], spec_l1Below_L A c_192 A.fuel⟩
theorem spec_l1Below_ok (A : PM.Prims) (c_192 : spec_l1Byte_T) (c_b : List Int) (c_i : Int) (c_h : Int) (n_ : Int) (k : PM.V → PM.R) : PM.pfunB A cx (spec_l1Below_E A c_192) Go.Proofs.Try.f96 [.tup [.arr (.ints 5 .u8 c_b), .int .i64 c_i, .int .i64 c_h], .int .i64 n_] k = spec_l1Below_f A c_192 c_b c_i c_h n_ (fun r0 bx_b bx_i bx_h => k (.tup [.int .i64 r0, .tup [.arr (.ints 5 .u8 bx_b), .int .i64 bx_i, .int .i64 bx_h]])) := by kernel_rfl

theorem spec_l1Below_fn : PM.FnIs Try.prog 96 Try.f96 := .of Try.func96 (by kernel_rfl) (by kernel_rfl)
theorem spec_l1Below_b : PM.BoxOk Try.prog cx 96 (spec_l1Below_w (spec_l1Below PM.std)) := by
  intro ds k r h
  change spec_l1Below_w (spec_l1Below PM.std) ds k = some r at h
  unfold spec_l1Below_w at h
  split at h
  · exact PM.pfunB_ok (E := spec_l1Below_E PM.std (spec_l1Byte PM.std)) (L := fun n => spec_l1Below_L PM.std (spec_l1Byte PM.std) n) (N := PM.std.fuel) cx_ok (.cons spec_l1Byte_g .nil) mixed .nil spec_l1Below_fn (by kernel_rfl) ⟨rfl, fun _ _ _ => rfl, fun n cur σ K r h => by cases h⟩
      ((spec_l1Below_ok PM.std (spec_l1Byte PM.std) _ _ _ _ k).trans h)
  · cases h
theorem spec_l1Below_g : PM.GOk Try.prog cx 96 ⟨[], fun _ _ => none, some (PM.spBox (spec_l1Below_w (spec_l1Below PM.std)))⟩ := PM.GOk.ofS spec_l1Below_fn.enter (PM.spBox_ok spec_l1Below_b)

abbrev spec_l1Once_T := (List Int) → (Int) → (Int) → (Int) → ((Bool) → (List Int) → (Int) → (Int) → PM.R) → PM.R
noncomputable def spec_l1Once_w (c : spec_l1Once_T) (ds : List PM.V) (k : PM.V → PM.R) : PM.R :=
  match ds with
  | [.tup [.arr (.ints 5 .u8 c_b), .int .i64 c_i, .int .i64 c_h], .int .i64 n_] => c c_b c_i c_h n_ (fun r0 bx_b bx_i bx_h => k (.tup [.bool r0, .tup [.arr (.ints 5 .u8 bx_b), .int .i64 bx_i, .int .i64 bx_h]]))
  | _ => none
noncomputable def spec_l1Once_f (A : PM.Prims) (c_96 : spec_l1Below_T) (c_b : List Int) (c_i : Int) (c_h : Int) (n_ : Int) (k : (Bool) → (List Int) → (Int) → (Int) → PM.R) : PM.R :=
  c_96 c_b c_i c_h n_ (fun r1 r2 r3 r4 =>
    k (A.eq r1 0) r2 r3 r4)
noncomputable def spec_l1Once (A : PM.Prims) : spec_l1Once_T := spec_l1Once_f A (spec_l1Below A)
noncomputable def spec_l1Once_L (A : PM.Prims) (c_96 : spec_l1Below_T) (n : Nat) : PM.Lam := fun cur σ K =>
  match cur, σ, K with
  | _, _, _ => none
noncomputable def spec_l1Once_E (A : PM.Prims) (c_96 : spec_l1Below_T) : PM.Env := ⟨[(96, ⟨[], fun _ _ => none, some (PM.spBox (spec_l1Below_w c_96))⟩)], [], [], [(0, [0, 1]), (1, [0, 4])], spec_l1Once_L A c_96 A.fuel⟩
theorem spec_l1Once_ok (A : PM.Prims) (c_96 : spec_l1Below_T) (c_b : List Int) (c_i : Int) (c_h : Int) (n_ : Int) (k : PM.V → PM.R) : PM.pfunB A cx (spec_l1Once_E A c_96) Go.Proofs.Try.f94 [.tup [.arr (.ints 5 .u8 c_b), .int .i64 c_i, .int .i64 c_h], .int .i64 n_] k = spec_l1Once_f A c_96 c_b c_i c_h n_ (fun r0 bx_b bx_i bx_h => k (.tup [.bool r0, .tup [.arr (.ints 5 .u8 bx_b), .int .i64 bx_i, .int .i64 bx_h]])) := by kernel_rfl

theorem spec_l1Once_fn : PM.FnIs Try.prog 94 Try.f94 := .of Try.func94 (by kernel_rfl) (by kernel_rfl)
theorem spec_l1Once_b : PM.BoxOk Try.prog cx 94 (spec_l1Once_w (spec_l1Once PM.std)) := by
  intro ds k r h
  change spec_l1Once_w (spec_l1Once PM.std) ds k = some r at h
  unfold spec_l1Once_w at h
  split at h
  · exact PM.pfunB_ok (E := spec_l1Once_E PM.std (spec_l1Below PM.std)) (L := fun n => spec_l1Once_L PM.std (spec_l1Below PM.std) n) (N := PM.std.fuel) cx_ok (.cons spec_l1Below_g .nil) mixed .nil spec_l1Once_fn (by kernel_rfl) ⟨rfl, fun _ _ _ => rfl, fun n cur σ K r h => by cases h⟩
      ((spec_l1Once_ok PM.std (spec_l1Below PM.std) _ _ _ _ k).trans h)
  · cases h
theorem spec_l1Once_g : PM.GOk Try.prog cx 94 ⟨[], fun _ _ => none, some (PM.spBox (spec_l1Once_w (spec_l1Once PM.std)))⟩ := PM.GOk.ofS spec_l1Once_fn.enter (PM.spBox_ok spec_l1Once_b)

abbrev spec_l3Draw_T := (List Int) → (Int) → (Int) → ((Int) → (List Int) → (Int) → (Int) → PM.R) → PM.R
noncomputable def spec_l3Draw_w (c : spec_l3Draw_T) (ds : List PM.V) (k : PM.V → PM.R) : PM.R :=
  match ds with
  | [.tup [.arr (.ints 5 .u8 c_b), .int .i64 c_i, .int .i64 c_h]] => c c_b c_i c_h (fun r0 bx_b bx_i bx_h => k (.tup [.int .i64 r0, .tup [.arr (.ints 5 .u8 bx_b), .int .i64 bx_i, .int .i64 bx_h]]))
  | _ => none
noncomputable def spec_l3Draw_f (A : PM.Prims) (c_96 : spec_l1Below_T) (c_94 : spec_l1Once_T) (c_b : List Int) (c_i : Int) (c_h : Int) (k : (Int) → (List Int) → (Int) → (Int) → PM.R) : PM.R :=
  c_94 c_b c_i c_h 6 (fun r1 r2 r3 r4 =>
    bif r1 then
      c_96 r2 r3 r4 (A.ilen [0, 65535, 65534, 256]) (fun r5 r6 r7 r8 =>
        bif (A.inb r5 (A.ilen [0, 65535, 65534, 256])) then
          k (A.iget [0, 65535, 65534, 256] r5) r6 r7 r8
        else
          none)
    else
      c_96 r2 r3 r4 9 (fun r9 r10 r11 r12 =>
        k r9 r10 r11 r12))
noncomputable def spec_l3Draw (A : PM.Prims) : spec_l3Draw_T := spec_l3Draw_f A (spec_l1Below A) (spec_l1Once A)
noncomputable def spec_l3Draw_L (A : PM.Prims) (c_96 : spec_l1Below_T) (c_94 : spec_l1Once_T) (n : Nat) : PM.Lam := fun cur σ K =>
  match cur, σ, K with
  | _, _, _ => none
noncomputable def spec_l3Draw_E (A : PM.Prims) (c_96 : spec_l1Below_T) (c_94 : spec_l1Once_T) : PM.Env := ⟨[(96, ⟨[], fun _ _ => none, some (PM.spBox (spec_l1Below_w c_96))⟩), (94, ⟨[], fun _ _ => none, some (PM.spBox (spec_l1Once_w c_94))⟩)], [(242, Go.Proofs.Try.f242)], [], [(0, [0]), (1, [0, 4]), (2, [0, 2]), (3, [0, 2])], spec_l3Draw_L A c_96 c_94 A.fuel⟩
theorem spec_l3Draw_ok (A : PM.Prims) (c_96 : spec_l1Below_T) (c_94 : spec_l1Once_T) (c_b : List Int) (c_i : Int) (c_h : Int) (k : PM.V → PM.R) : PM.pfunB A cx (spec_l3Draw_E A c_96 c_94) Go.Proofs.Try.f190 [.tup [.arr (.ints 5 .u8 c_b), .int .i64 c_i, .int .i64 c_h]] k = spec_l3Draw_f A c_96 c_94 c_b c_i c_h (fun r0 bx_b bx_i bx_h => k (.tup [.int .i64 r0, .tup [.arr (.ints 5 .u8 bx_b), .int .i64 bx_i, .int .i64 bx_h]])) := by kernel_rfl

theorem spec_l3Draw_fn : PM.FnIs Try.prog 190 Try.f190 := .of Try.func190 (by kernel_rfl) (by kernel_rfl)
theorem spec_l3Draw_b : PM.BoxOk Try.prog cx 190 (spec_l3Draw_w (spec_l3Draw PM.std)) := by
  intro ds k r h
  change spec_l3Draw_w (spec_l3Draw PM.std) ds k = some r at h
  unfold spec_l3Draw_w at h
  split at h
  · exact PM.pfunB_ok (E := spec_l3Draw_E PM.std (spec_l1Below PM.std) (spec_l1Once PM.std)) (L := fun n => spec_l3Draw_L PM.std (spec_l1Below PM.std) (spec_l1Once PM.std) n) (N := PM.std.fuel) cx_ok (.cons spec_l1Below_g (.cons spec_l1Once_g .nil)) mixed (.cons (.of Try.func242 (by kernel_rfl) (by kernel_rfl)) (by kernel_rfl) .nil) spec_l3Draw_fn (by kernel_rfl) ⟨rfl, fun _ _ _ => rfl, fun n cur σ K r h => by cases h⟩
      ((spec_l3Draw_ok PM.std (spec_l1Below PM.std) (spec_l1Once PM.std) _ _ _ k).trans h)
  · cases h
theorem spec_l3Draw_g : PM.GOk Try.prog cx 190 ⟨[], fun _ _ => none, some (PM.spBox (spec_l3Draw_w (spec_l3Draw PM.std)))⟩ := PM.GOk.ofS spec_l3Draw_fn.enter (PM.spBox_ok spec_l3Draw_b)

abbrev spec_l3DrawVals_T := (List Int) → (Int) → (Int) → ((List Int) → (List Int) → (Int) → (Int) → PM.R) → PM.R
noncomputable def spec_l3DrawVals_w (c : spec_l3DrawVals_T) (ds : List PM.V) (k : PM.V → PM.R) : PM.R :=
  match ds with
  | [.tup [.arr (.ints 5 .u8 c_b), .int .i64 c_i, .int .i64 c_h]] => c c_b c_i c_h (fun r0 bx_b bx_i bx_h => k (.tup [.arr (.ints 3 .i64 r0), .tup [.arr (.ints 5 .u8 bx_b), .int .i64 bx_i, .int .i64 bx_h]]))
  | _ => none
noncomputable def spec_l3DrawVals_l0 (A : PM.Prims) (c_190 : spec_l3Draw_T) : Nat → (Int) → (List Int) → (Int) → (Int) → (List Int) → ((List Int) → (Int) → (Int) → (List Int) → PM.R) → PM.R
  | 0, _, _, _, _, _, _ => none
  | n + 1, i1, o02, o03, o04, o15, kx0_0 =>
    bif (A.lt i1 8) then
      c_190 o02 o03 o04 (fun r6 r7 r8 r9 =>
        bif (A.room (A.ilen o15) (A.ilen [r6])) then
          spec_l3DrawVals_l0 A c_190 n (A.add .i64 i1 1) r7 r8 r9 (A.iapp o15 [r6]) kx0_0
        else
          none)
    else
      kx0_0 o02 o03 o04 o15
noncomputable def spec_l3DrawVals_f (A : PM.Prims) (c_190 : spec_l3Draw_T) (c_b : List Int) (c_i : Int) (c_h : Int) (k : (List Int) → (List Int) → (Int) → (Int) → PM.R) : PM.R :=
  spec_l3DrawVals_l0 A c_190 A.fuel 0 c_b c_i c_h [] (fun o01014 o01115 o01216 o11317 =>
    k o11317 o01014 o01115 o01216)
noncomputable def spec_l3DrawVals (A : PM.Prims) : spec_l3DrawVals_T := spec_l3DrawVals_f A (spec_l3Draw A)
noncomputable def spec_l3DrawVals_L (A : PM.Prims) (c_190 : spec_l3Draw_T) (n : Nat) : PM.Lam := fun cur σ K =>
  match cur, σ, K with
  | 0, ⟨[(0, .pbox 0 0), (3, .sref 1), (4, .int .i64 i1)], [(0, .box [.arr (.ints 5 .u8 o02), .int .i64 o03, .int .i64 o04]), (1, .arr true (.ints 3 .i64 o15))]⟩, K => spec_l3DrawVals_l0 A c_190 n i1 o02 o03 o04 o15 (fun o010 o011 o012 o113 => K (.exit 0) ⟨[(0, .pbox 0 0), (3, .sref 1)], [(0, .box [.arr (.ints 5 .u8 o010), .int .i64 o011, .int .i64 o012]), (1, .arr true (.ints 3 .i64 o113))]⟩)
  | _, _, _ => none
noncomputable def spec_l3DrawVals_E (A : PM.Prims) (c_190 : spec_l3Draw_T) : PM.Env := ⟨[(190, ⟨[], fun _ _ => none, some (PM.spBox (spec_l3Draw_w c_190))⟩)], [], [(0, [0, 3, 4], [0, 2, 3])], [(0, [0]), (1, [0, 3]), (2, [0, 3, 4]), (3, [0, 3, 4, 7]), (4, [0, 3, 4]), (5, [0, 3, 4]), (6, [0, 2])], spec_l3DrawVals_L A c_190 A.fuel⟩
theorem spec_l3DrawVals_l0_ok (A : PM.Prims) (c_190 : spec_l3Draw_T) (n : Nat) (i1 : Int) (o02 : List Int) (o03 : Int) (o04 : Int) (o15 : List Int) (K : Go.Exit → PM.S → PM.R) : spec_l3DrawVals_L A c_190 (n + 1) 0 ⟨[(0, .pbox 0 0), (3, .sref 1), (4, .int .i64 i1)], [(0, .box [.arr (.ints 5 .u8 o02), .int .i64 o03, .int .i64 o04]), (1, .arr true (.ints 3 .i64 o15))]⟩ K = PM.roundF A cx (PM.runD A cx (spec_l3DrawVals_E A c_190).inl (spec_l3DrawVals_E A c_190).Γ 3) (spec_l3DrawVals_E A c_190) (spec_l3DrawVals_L A c_190 n) 0 Go.Proofs.Try.f93 ⟨[(0, .pbox 0 0), (3, .sref 1), (4, .int .i64 i1)], [(0, .box [.arr (.ints 5 .u8 o02), .int .i64 o03, .int .i64 o04]), (1, .arr true (.ints 3 .i64 o15))]⟩ K := by kernel_rfl
theorem spec_l3DrawVals_ok (A : PM.Prims) (c_190 : spec_l3Draw_T) (c_b : List Int) (c_i : Int) (c_h : Int) (k : PM.V → PM.R) : PM.pfunB A cx (spec_l3DrawVals_E A c_190) Go.Proofs.Try.f93 [.tup [.arr (.ints 5 .u8 c_b), .int .i64 c_i, .int .i64 c_h]] k = spec_l3DrawVals_f A c_190 c_b c_i c_h (fun r0 bx_b bx_i bx_h => k (.tup [.arr (.ints 3 .i64 r0), .tup [.arr (.ints 5 .u8 bx_b), .int .i64 bx_i, .int .i64 bx_h]])) := by kernel_rfl

theorem spec_l3DrawVals_fn : PM.FnIs Try.prog 93 Try.f93 := .of Try.func93 (by kernel_rfl) (by kernel_rfl)
theorem spec_l3DrawVals_b : PM.BoxOk Try.prog cx 93 (spec_l3DrawVals_w (spec_l3DrawVals PM.std)) := by
  intro ds k r h
  change spec_l3DrawVals_w (spec_l3DrawVals PM.std) ds k = some r at h
  unfold spec_l3DrawVals_w at h
  split at h
  · exact PM.pfunB_ok (E := spec_l3DrawVals_E PM.std (spec_l3Draw PM.std)) (L := fun n => spec_l3DrawVals_L PM.std (spec_l3Draw PM.std) n) (N := PM.std.fuel) cx_ok (.cons spec_l3Draw_g .nil) mixed .nil spec_l3DrawVals_fn (by kernel_rfl) ⟨rfl, fun cur σ K => by
      dsimp only [spec_l3DrawVals_L]
      split <;> rfl, fun n cur σ K r h => by
      dsimp only [spec_l3DrawVals_L] at h
      split at h
      · exact (spec_l3DrawVals_l0_ok PM.std (spec_l3Draw PM.std) n _ _ _ _ _ K).symm.trans h
      · cases h⟩
      ((spec_l3DrawVals_ok PM.std (spec_l3Draw PM.std) _ _ _ k).trans h)
  · cases h
theorem spec_l3DrawVals_g : PM.GOk Try.prog cx 93 ⟨[], fun _ _ => none, some (PM.spBox (spec_l3DrawVals_w (spec_l3DrawVals PM.std)))⟩ := PM.GOk.ofS spec_l3DrawVals_fn.enter (PM.spBox_ok spec_l3DrawVals_b)

abbrev spec_l4DrawCell_T := (List Int) → (Int) → (Int) → ((Int) → (List Int) → (Int) → (Int) → PM.R) → PM.R
noncomputable def spec_l4DrawCell_w (c : spec_l4DrawCell_T) (ds : List PM.V) (k : PM.V → PM.R) : PM.R :=
  match ds with
  | [.tup [.arr (.ints 5 .u8 c_b), .int .i64 c_i, .int .i64 c_h]] => c c_b c_i c_h (fun r0 bx_b bx_i bx_h => k (.tup [.int .i64 r0, .tup [.arr (.ints 5 .u8 bx_b), .int .i64 bx_i, .int .i64 bx_h]]))
  | _ => none
noncomputable def spec_l4DrawCell_f (A : PM.Prims) (c_96 : spec_l1Below_T) (c_94 : spec_l1Once_T) (c_b : List Int) (c_i : Int) (c_h : Int) (k : (Int) → (List Int) → (Int) → (Int) → PM.R) : PM.R :=
  c_94 c_b c_i c_h 8 (fun r1 r2 r3 r4 =>
    bif r1 then
      c_96 r2 r3 r4 8 (fun r5 r6 r7 r8 =>
        k r5 r6 r7 r8)
    else
      c_96 r2 r3 r4 3 (fun r9 r10 r11 r12 =>
        k r9 r10 r11 r12))
noncomputable def spec_l4DrawCell (A : PM.Prims) : spec_l4DrawCell_T := spec_l4DrawCell_f A (spec_l1Below A) (spec_l1Once A)
noncomputable def spec_l4DrawCell_L (A : PM.Prims) (c_96 : spec_l1Below_T) (c_94 : spec_l1Once_T) (n : Nat) : PM.Lam := fun cur σ K =>
  match cur, σ, K with
  | _, _, _ => none
noncomputable def spec_l4DrawCell_E (A : PM.Prims) (c_96 : spec_l1Below_T) (c_94 : spec_l1Once_T) : PM.Env := ⟨[(96, ⟨[], fun _ _ => none, some (PM.spBox (spec_l1Below_w c_96))⟩), (94, ⟨[], fun _ _ => none, some (PM.spBox (spec_l1Once_w c_94))⟩)], [], [], [(0, [0]), (1, [0, 4]), (2, [0, 2]), (3, [0, 2])], spec_l4DrawCell_L A c_96 c_94 A.fuel⟩
theorem spec_l4DrawCell_ok (A : PM.Prims) (c_96 : spec_l1Below_T) (c_94 : spec_l1Once_T) (c_b : List Int) (c_i : Int) (c_h : Int) (k : PM.V → PM.R) : PM.pfunB A cx (spec_l4DrawCell_E A c_96 c_94) Go.Proofs.Try.f297 [.tup [.arr (.ints 5 .u8 c_b), .int .i64 c_i, .int .i64 c_h]] k = spec_l4DrawCell_f A c_96 c_94 c_b c_i c_h (fun r0 bx_b bx_i bx_h => k (.tup [.int .i64 r0, .tup [.arr (.ints 5 .u8 bx_b), .int .i64 bx_i, .int .i64 bx_h]])) := by kernel_rfl

theorem spec_l4DrawCell_fn : PM.FnIs Try.prog 297 Try.f297 := .of Try.func297 (by kernel_rfl) (by kernel_rfl)
theorem spec_l4DrawCell_b : PM.BoxOk Try.prog cx 297 (spec_l4DrawCell_w (spec_l4DrawCell PM.std)) := by
  intro ds k r h
  change spec_l4DrawCell_w (spec_l4DrawCell PM.std) ds k = some r at h
  unfold spec_l4DrawCell_w at h
  split at h
  · exact PM.pfunB_ok (E := spec_l4DrawCell_E PM.std (spec_l1Below PM.std) (spec_l1Once PM.std)) (L := fun n => spec_l4DrawCell_L PM.std (spec_l1Below PM.std) (spec_l1Once PM.std) n) (N := PM.std.fuel) cx_ok (.cons spec_l1Below_g (.cons spec_l1Once_g .nil)) mixed .nil spec_l4DrawCell_fn (by kernel_rfl) ⟨rfl, fun _ _ _ => rfl, fun n cur σ K r h => by cases h⟩
      ((spec_l4DrawCell_ok PM.std (spec_l1Below PM.std) (spec_l1Once PM.std) _ _ _ k).trans h)
  · cases h
theorem spec_l4DrawCell_g : PM.GOk Try.prog cx 297 ⟨[], fun _ _ => none, some (PM.spBox (spec_l4DrawCell_w (spec_l4DrawCell PM.std)))⟩ := PM.GOk.ofS spec_l4DrawCell_fn.enter (PM.spBox_ok spec_l4DrawCell_b)

abbrev spec_l8Rows_T := (List Int) → (Int) → (Int) → (Int) → ((List (List Int)) → (List Int) → (Int) → (Int) → PM.R) → PM.R
noncomputable def spec_l8Rows_w (c : spec_l8Rows_T) (ds : List PM.V) (k : PM.V → PM.R) : PM.R :=
  match ds with
  | [.tup [.arr (.ints 5 .u8 c_b), .int .i64 c_i, .int .i64 c_h], .int .i64 most] => c c_b c_i c_h most (fun r0 bx_b bx_i bx_h => k (.tup [.arr (.vecs 161 2 r0), .tup [.arr (.ints 5 .u8 bx_b), .int .i64 bx_i, .int .i64 bx_h]]))
  | _ => none
noncomputable def spec_l8Rows_l0 (A : PM.Prims) (c_96 : spec_l1Below_T) (c_190 : spec_l3Draw_T) (c_297 : spec_l4DrawCell_T) : Nat → (Int) → (List Int) → (Int) → (Int) → (List (List Int)) → ((List Int) → (Int) → (Int) → (List (List Int)) → PM.R) → PM.R
  | 0, _, _, _, _, _, _ => none
  | n + 1, n5, o06, o07, o08, o19, kx0_0 =>
    bif (A.lt 0 n5) then
      c_297 o06 o07 o08 (fun r10 r11 r12 r13 =>
        c_190 r11 r12 r13 (fun r14 r15 r16 r17 =>
          bif (A.room (A.vlen o19) (A.vlen [[r10, r14]])) then
            spec_l8Rows_l0 A c_96 c_190 c_297 n (A.sub .i64 n5 1) r15 r16 r17 (A.vapp o19 [[r10, r14]]) kx0_0
          else
            none))
    else
      kx0_0 o06 o07 o08 o19
noncomputable def spec_l8Rows_f (A : PM.Prims) (c_96 : spec_l1Below_T) (c_190 : spec_l3Draw_T) (c_297 : spec_l4DrawCell_T) (c_b : List Int) (c_i : Int) (c_h : Int) (most : Int) (k : (List (List Int)) → (List Int) → (Int) → (Int) → PM.R) : PM.R :=
  c_96 c_b c_i c_h (A.add .i64 most 1) (fun r1 r2 r3 r4 =>
    spec_l8Rows_l0 A c_96 c_190 c_297 A.fuel r1 r2 r3 r4 [] (fun o01822 o01923 o02024 o12125 =>
      k o12125 o01822 o01923 o02024))
noncomputable def spec_l8Rows (A : PM.Prims) : spec_l8Rows_T := spec_l8Rows_f A (spec_l1Below A) (spec_l3Draw A) (spec_l4DrawCell A)
noncomputable def spec_l8Rows_L (A : PM.Prims) (c_96 : spec_l1Below_T) (c_190 : spec_l3Draw_T) (c_297 : spec_l4DrawCell_T) (n : Nat) : PM.Lam := fun cur σ K =>
  match cur, σ, K with
  | 0, ⟨[(0, .pbox 0 0), (5, .sref 1), (6, .int .i64 n5)], [(0, .box [.arr (.ints 5 .u8 o06), .int .i64 o07, .int .i64 o08]), (1, .arr true (.vecs 161 2 o19))]⟩, K => spec_l8Rows_l0 A c_96 c_190 c_297 n n5 o06 o07 o08 o19 (fun o018 o019 o020 o121 => K (.exit 0) ⟨[(0, .pbox 0 0), (5, .sref 1)], [(0, .box [.arr (.ints 5 .u8 o018), .int .i64 o019, .int .i64 o020]), (1, .arr true (.vecs 161 2 o121))]⟩)
  | _, _, _ => none
noncomputable def spec_l8Rows_E (A : PM.Prims) (c_96 : spec_l1Below_T) (c_190 : spec_l3Draw_T) (c_297 : spec_l4DrawCell_T) : PM.Env := ⟨[(96, ⟨[], fun _ _ => none, some (PM.spBox (spec_l1Below_w c_96))⟩), (190, ⟨[], fun _ _ => none, some (PM.spBox (spec_l3Draw_w c_190))⟩), (297, ⟨[], fun _ _ => none, some (PM.spBox (spec_l4DrawCell_w c_297))⟩)], [], [(0, [0, 5, 6], [0, 4, 5])], [(0, [0, 1]), (1, [0, 1, 5]), (2, [0, 5, 6]), (3, [0, 5, 6, 13]), (4, [0, 5, 6]), (5, [0, 5, 6]), (6, [0, 4])], spec_l8Rows_L A c_96 c_190 c_297 A.fuel⟩
theorem spec_l8Rows_l0_ok (A : PM.Prims) (c_96 : spec_l1Below_T) (c_190 : spec_l3Draw_T) (c_297 : spec_l4DrawCell_T) (n : Nat) (n5 : Int) (o06 : List Int) (o07 : Int) (o08 : Int) (o19 : List (List Int)) (K : Go.Exit → PM.S → PM.R) : spec_l8Rows_L A c_96 c_190 c_297 (n + 1) 0 ⟨[(0, .pbox 0 0), (5, .sref 1), (6, .int .i64 n5)], [(0, .box [.arr (.ints 5 .u8 o06), .int .i64 o07, .int .i64 o08]), (1, .arr true (.vecs 161 2 o19))]⟩ K = PM.roundF A cx (PM.runD A cx (spec_l8Rows_E A c_96 c_190 c_297).inl (spec_l8Rows_E A c_96 c_190 c_297).Γ 3) (spec_l8Rows_E A c_96 c_190 c_297) (spec_l8Rows_L A c_96 c_190 c_297 n) 0 Go.Proofs.Try.f243 ⟨[(0, .pbox 0 0), (5, .sref 1), (6, .int .i64 n5)], [(0, .box [.arr (.ints 5 .u8 o06), .int .i64 o07, .int .i64 o08]), (1, .arr true (.vecs 161 2 o19))]⟩ K := by kernel_rfl
theorem spec_l8Rows_ok (A : PM.Prims) (c_96 : spec_l1Below_T) (c_190 : spec_l3Draw_T) (c_297 : spec_l4DrawCell_T) (c_b : List Int) (c_i : Int) (c_h : Int) (most : Int) (k : PM.V → PM.R) : PM.pfunB A cx (spec_l8Rows_E A c_96 c_190 c_297) Go.Proofs.Try.f243 [.tup [.arr (.ints 5 .u8 c_b), .int .i64 c_i, .int .i64 c_h], .int .i64 most] k = spec_l8Rows_f A c_96 c_190 c_297 c_b c_i c_h most (fun r0 bx_b bx_i bx_h => k (.tup [.arr (.vecs 161 2 r0), .tup [.arr (.ints 5 .u8 bx_b), .int .i64 bx_i, .int .i64 bx_h]])) := by kernel_rfl

theorem spec_l8Rows_fn : PM.FnIs Try.prog 243 Try.f243 := .of Try.func243 (by kernel_rfl) (by kernel_rfl)
theorem spec_l8Rows_b : PM.BoxOk Try.prog cx 243 (spec_l8Rows_w (spec_l8Rows PM.std)) := by
  intro ds k r h
  change spec_l8Rows_w (spec_l8Rows PM.std) ds k = some r at h
  unfold spec_l8Rows_w at h
  split at h
  · exact PM.pfunB_ok (E := spec_l8Rows_E PM.std (spec_l1Below PM.std) (spec_l3Draw PM.std) (spec_l4DrawCell PM.std)) (L := fun n => spec_l8Rows_L PM.std (spec_l1Below PM.std) (spec_l3Draw PM.std) (spec_l4DrawCell PM.std) n) (N := PM.std.fuel) cx_ok (.cons spec_l1Below_g (.cons spec_l3Draw_g (.cons spec_l4DrawCell_g .nil))) mixed .nil spec_l8Rows_fn (by kernel_rfl) ⟨rfl, fun cur σ K => by
      dsimp only [spec_l8Rows_L]
      split <;> rfl, fun n cur σ K r h => by
      dsimp only [spec_l8Rows_L] at h
      split at h
      · exact (spec_l8Rows_l0_ok PM.std (spec_l1Below PM.std) (spec_l3Draw PM.std) (spec_l4DrawCell PM.std) n _ _ _ _ _ K).symm.trans h
      · cases h⟩
      ((spec_l8Rows_ok PM.std (spec_l1Below PM.std) (spec_l3Draw PM.std) (spec_l4DrawCell PM.std) _ _ _ _ k).trans h)
  · cases h
theorem spec_l8Rows_g : PM.GOk Try.prog cx 243 ⟨[], fun _ _ => none, some (PM.spBox (spec_l8Rows_w (spec_l8Rows PM.std)))⟩ := PM.GOk.ofS spec_l8Rows_fn.enter (PM.spBox_ok spec_l8Rows_b)

abbrev spec_l11Hist_T := (List Int) → (Int) → (Int) → ((List (List PM.C)) → (List Int) → (Int) → (Int) → PM.R) → PM.R
noncomputable def spec_l11Hist_w (c : spec_l11Hist_T) (ds : List PM.V) (k : PM.V → PM.R) : PM.R :=
  match ds with
  | [.tup [.arr (.ints 5 .u8 c_b), .int .i64 c_i, .int .i64 c_h]] => c c_b c_i c_h (fun r0 bx_b bx_i bx_h => k (.tup [.arr (.rows 33 r0), .tup [.arr (.ints 5 .u8 bx_b), .int .i64 bx_i, .int .i64 bx_h]]))
  | _ => none
noncomputable def spec_l11Hist_l0 (A : PM.Prims) (c_96 : spec_l1Below_T) (c_94 : spec_l1Once_T) (c_243 : spec_l8Rows_T) : Nat → (Int) → (Int) → (List Int) → (Int) → (Int) → (List (List C)) → ((List Int) → (Int) → (Int) → (List (List C)) → PM.R) → PM.R
  | 0, _, _, _, _, _, _, _ => none
  | n + 1, at5, n6, o07, o08, o09, o110, kx0_0 =>
    bif (A.lt 0 n6) then
      c_96 o07 o08 o09 3 (fun r11 r12 r13 r14 =>
        c_96 r12 r13 r14 4 (fun r15 r16 r17 r18 =>
          c_243 r16 r17 r18 4 (fun r19 r20 r21 r22 =>
            c_94 r20 r21 r22 3 (fun r23 r24 r25 r26 =>
              bif r23 then
                bif (A.room (A.rlen [[(.i (A.add .i64 (A.add .i64 at5 1) r11)), (.i (A.add .i64 1 r15)), (.s (A.ofv r19))]]) (A.rlen o110)) then
                  spec_l11Hist_l0 A c_96 c_94 c_243 n (A.add .i64 (A.add .i64 at5 1) r11) (A.sub .i64 n6 1) r24 r25 r26 (A.rapp [[(.i (A.add .i64 (A.add .i64 at5 1) r11)), (.i (A.add .i64 1 r15)), (.s (A.ofv r19))]] o110) kx0_0
                else
                  none
              else
                bif (A.room (A.rlen o110) (A.rlen [[(.i (A.add .i64 (A.add .i64 at5 1) r11)), (.i (A.add .i64 1 r15)), (.s (A.ofv r19))]])) then
                  spec_l11Hist_l0 A c_96 c_94 c_243 n (A.add .i64 (A.add .i64 at5 1) r11) (A.sub .i64 n6 1) r24 r25 r26 (A.rapp o110 [[(.i (A.add .i64 (A.add .i64 at5 1) r11)), (.i (A.add .i64 1 r15)), (.s (A.ofv r19))]]) kx0_0
                else
                  none))))
    else
      kx0_0 o07 o08 o09 o110
noncomputable def spec_l11Hist_f (A : PM.Prims) (c_96 : spec_l1Below_T) (c_94 : spec_l1Once_T) (c_243 : spec_l8Rows_T) (c_b : List Int) (c_i : Int) (c_h : Int) (k : (List (List PM.C)) → (List Int) → (Int) → (Int) → PM.R) : PM.R :=
  c_96 c_b c_i c_h 6 (fun r1 r2 r3 r4 =>
    spec_l11Hist_l0 A c_96 c_94 c_243 A.fuel 0 r1 r2 r3 r4 [] (fun o02731 o02832 o02933 o13034 =>
      k o13034 o02731 o02832 o02933))
noncomputable def spec_l11Hist (A : PM.Prims) : spec_l11Hist_T := spec_l11Hist_f A (spec_l1Below A) (spec_l1Once A) (spec_l8Rows A)
noncomputable def spec_l11Hist_L (A : PM.Prims) (c_96 : spec_l1Below_T) (c_94 : spec_l1Once_T) (c_243 : spec_l8Rows_T) (n : Nat) : PM.Lam := fun cur σ K =>
  match cur, σ, K with
  | 0, ⟨[(0, .pbox 0 0), (3, .sref 1), (4, .int .i64 at5), (5, .int .i64 n6)], [(0, .box [.arr (.ints 5 .u8 o07), .int .i64 o08, .int .i64 o09]), (1, .arr true (.rows 33 o110))]⟩, K => spec_l11Hist_l0 A c_96 c_94 c_243 n at5 n6 o07 o08 o09 o110 (fun o027 o028 o029 o130 => K (.exit 0) ⟨[(0, .pbox 0 0), (3, .sref 1)], [(0, .box [.arr (.ints 5 .u8 o027), .int .i64 o028, .int .i64 o029]), (1, .arr true (.rows 33 o130))]⟩)
  | _, _, _ => none
noncomputable def spec_l11Hist_E (A : PM.Prims) (c_96 : spec_l1Below_T) (c_94 : spec_l1Once_T) (c_243 : spec_l8Rows_T) : PM.Env := ⟨[(96, ⟨[], fun _ _ => none, some (PM.spBox (spec_l1Below_w c_96))⟩), (94, ⟨[], fun _ _ => none, some (PM.spBox (spec_l1Once_w c_94))⟩), (243, ⟨[], fun _ _ => none, some (PM.spBox (spec_l8Rows_w c_243))⟩)], [], [(0, [0, 3, 4, 5], [0, 2, 3])], [(0, [0]), (1, [0, 3]), (2, [0, 3, 4]), (3, [0, 3, 4, 5]), (4, [0, 3, 4, 5, 11]), (5, [0, 3, 4, 5]), (6, [0, 3, 4, 5]), (7, [0, 3, 4, 5, 6]), (8, [0, 3, 4, 5, 6, 27]), (9, [0, 3, 4, 5]), (10, [0, 3, 4, 5]), (11, [0, 2])], spec_l11Hist_L A c_96 c_94 c_243 A.fuel⟩
theorem spec_l11Hist_l0_ok (A : PM.Prims) (c_96 : spec_l1Below_T) (c_94 : spec_l1Once_T) (c_243 : spec_l8Rows_T) (n : Nat) (at5 : Int) (n6 : Int) (o07 : List Int) (o08 : Int) (o09 : Int) (o110 : List (List C)) (K : Go.Exit → PM.S → PM.R) : spec_l11Hist_L A c_96 c_94 c_243 (n + 1) 0 ⟨[(0, .pbox 0 0), (3, .sref 1), (4, .int .i64 at5), (5, .int .i64 n6)], [(0, .box [.arr (.ints 5 .u8 o07), .int .i64 o08, .int .i64 o09]), (1, .arr true (.rows 33 o110))]⟩ K = PM.roundF A cx (PM.runD A cx (spec_l11Hist_E A c_96 c_94 c_243).inl (spec_l11Hist_E A c_96 c_94 c_243).Γ 3) (spec_l11Hist_E A c_96 c_94 c_243) (spec_l11Hist_L A c_96 c_94 c_243 n) 0 Go.Proofs.Try.f191 ⟨[(0, .pbox 0 0), (3, .sref 1), (4, .int .i64 at5), (5, .int .i64 n6)], [(0, .box [.arr (.ints 5 .u8 o07), .int .i64 o08, .int .i64 o09]), (1, .arr true (.rows 33 o110))]⟩ K := by kernel_rfl
theorem spec_l11Hist_ok (A : PM.Prims) (c_96 : spec_l1Below_T) (c_94 : spec_l1Once_T) (c_243 : spec_l8Rows_T) (c_b : List Int) (c_i : Int) (c_h : Int) (k : PM.V → PM.R) : PM.pfunB A cx (spec_l11Hist_E A c_96 c_94 c_243) Go.Proofs.Try.f191 [.tup [.arr (.ints 5 .u8 c_b), .int .i64 c_i, .int .i64 c_h]] k = spec_l11Hist_f A c_96 c_94 c_243 c_b c_i c_h (fun r0 bx_b bx_i bx_h => k (.tup [.arr (.rows 33 r0), .tup [.arr (.ints 5 .u8 bx_b), .int .i64 bx_i, .int .i64 bx_h]])) := by kernel_rfl

theorem spec_l11Hist_fn : PM.FnIs Try.prog 191 Try.f191 := .of Try.func191 (by kernel_rfl) (by kernel_rfl)
theorem spec_l11Hist_b : PM.BoxOk Try.prog cx 191 (spec_l11Hist_w (spec_l11Hist PM.std)) := by
  intro ds k r h
  change spec_l11Hist_w (spec_l11Hist PM.std) ds k = some r at h
  unfold spec_l11Hist_w at h
  split at h
  · exact PM.pfunB_ok (E := spec_l11Hist_E PM.std (spec_l1Below PM.std) (spec_l1Once PM.std) (spec_l8Rows PM.std)) (L := fun n => spec_l11Hist_L PM.std (spec_l1Below PM.std) (spec_l1Once PM.std) (spec_l8Rows PM.std) n) (N := PM.std.fuel) cx_ok (.cons spec_l1Below_g (.cons spec_l1Once_g (.cons spec_l8Rows_g .nil))) mixed .nil spec_l11Hist_fn (by kernel_rfl) ⟨rfl, fun cur σ K => by
      dsimp only [spec_l11Hist_L]
      split <;> rfl, fun n cur σ K r h => by
      dsimp only [spec_l11Hist_L] at h
      split at h
      · exact (spec_l11Hist_l0_ok PM.std (spec_l1Below PM.std) (spec_l1Once PM.std) (spec_l8Rows PM.std) n _ _ _ _ _ _ K).symm.trans h
      · cases h⟩
      ((spec_l11Hist_ok PM.std (spec_l1Below PM.std) (spec_l1Once PM.std) (spec_l8Rows PM.std) _ _ _ k).trans h)
  · cases h
theorem spec_l11Hist_g : PM.GOk Try.prog cx 191 ⟨[], fun _ _ => none, some (PM.spBox (spec_l11Hist_w (spec_l11Hist PM.std)))⟩ := PM.GOk.ofS spec_l11Hist_fn.enter (PM.spBox_ok spec_l11Hist_b)

abbrev spec_l11Any_T := (List Int) → (Int) → (Int) → ((List (List PM.C)) → (List Int) → (Int) → (Int) → PM.R) → PM.R
noncomputable def spec_l11Any_w (c : spec_l11Any_T) (ds : List PM.V) (k : PM.V → PM.R) : PM.R :=
  match ds with
  | [.tup [.arr (.ints 5 .u8 c_b), .int .i64 c_i, .int .i64 c_h]] => c c_b c_i c_h (fun r0 bx_b bx_i bx_h => k (.tup [.arr (.rows 33 r0), .tup [.arr (.ints 5 .u8 bx_b), .int .i64 bx_i, .int .i64 bx_h]]))
  | _ => none
noncomputable def spec_l11Any_f (A : PM.Prims) (c_96 : spec_l1Below_T) (c_191 : spec_l11Hist_T) (c_b : List Int) (c_i : Int) (c_h : Int) (k : (List (List PM.C)) → (List Int) → (Int) → (Int) → PM.R) : PM.R :=
  c_191 c_b c_i c_h (fun r1 r2 r3 r4 =>
    bif (A.eq (A.rlen r1) 0) then
      k r1 r2 r3 r4
    else
      c_96 r2 r3 r4 (A.rlen r1) (fun r5 r6 r7 r8 =>
        c_96 r6 r7 r8 20 (fun r9 r10 r11 r12 =>
          bif (A.eq r9 0) then
            bif (A.inb 0 (A.rlen r1)) then
              bif (A.inb r5 (A.rlen r1)) then
                k (A.rset r1 r5 0 (.i (A.rint r1 0 0))) r10 r11 r12
              else
                none
            else
              none
          else
            bif (A.eq r9 1) then
              bif (A.inb r5 (A.rlen r1)) then
                k (A.rset r1 r5 0 (.i 0)) r10 r11 r12
              else
                none
            else
              bif (A.eq r9 2) then
                bif (A.inb r5 (A.rlen r1)) then
                  k (A.rset r1 r5 1 (.i 0)) r10 r11 r12
                else
                  none
              else
                bif (A.eq r9 3) then
                  bif (A.inb r5 (A.rlen r1)) then
                    none
                  else
                    none
                else
                  k r1 r10 r11 r12)))
noncomputable def spec_l11Any (A : PM.Prims) : spec_l11Any_T := spec_l11Any_f A (spec_l1Below A) (spec_l11Hist A)
noncomputable def spec_l11Any_L (A : PM.Prims) (c_96 : spec_l1Below_T) (c_191 : spec_l11Hist_T) (n : Nat) : PM.Lam := fun cur σ K =>
  match cur, σ, K with
  | _, _, _ => none
noncomputable def spec_l11Any_E (A : PM.Prims) (c_96 : spec_l1Below_T) (c_191 : spec_l11Hist_T) : PM.Env := ⟨[(96, ⟨[], fun _ _ => none, some (PM.spBox (spec_l1Below_w c_96))⟩), (191, ⟨[], fun _ _ => none, some (PM.spBox (spec_l11Hist_w c_191))⟩)], [], [], [(0, [0]), (1, [0, 3]), (2, [0, 3, 9]), (3, [0, 2]), (4, [0, 3, 4]), (5, [0, 3, 4, 16]), (6, [0, 3, 4, 16, 17]), (7, [0, 3]), (8, [0, 3, 4, 16, 27]), (9, [0, 3]), (10, [0, 3, 4, 16, 33]), (11, [0, 3]), (12, [0, 3, 4, 39]), (13, [0, 3]), (14, [0, 2])], spec_l11Any_L A c_96 c_191 A.fuel⟩
theorem spec_l11Any_ok (A : PM.Prims) (c_96 : spec_l1Below_T) (c_191 : spec_l11Hist_T) (c_b : List Int) (c_i : Int) (c_h : Int) (k : PM.V → PM.R) : PM.pfunB A cx (spec_l11Any_E A c_96 c_191) Go.Proofs.Try.f95 [.tup [.arr (.ints 5 .u8 c_b), .int .i64 c_i, .int .i64 c_h]] k = spec_l11Any_f A c_96 c_191 c_b c_i c_h (fun r0 bx_b bx_i bx_h => k (.tup [.arr (.rows 33 r0), .tup [.arr (.ints 5 .u8 bx_b), .int .i64 bx_i, .int .i64 bx_h]])) := by kernel_rfl

theorem spec_l11Any_fn : PM.FnIs Try.prog 95 Try.f95 := .of Try.func95 (by kernel_rfl) (by kernel_rfl)
theorem spec_l11Any_b : PM.BoxOk Try.prog cx 95 (spec_l11Any_w (spec_l11Any PM.std)) := by
  intro ds k r h
  change spec_l11Any_w (spec_l11Any PM.std) ds k = some r at h
  unfold spec_l11Any_w at h
  split at h
  · exact PM.pfunB_ok (E := spec_l11Any_E PM.std (spec_l1Below PM.std) (spec_l11Hist PM.std)) (L := fun n => spec_l11Any_L PM.std (spec_l1Below PM.std) (spec_l11Hist PM.std) n) (N := PM.std.fuel) cx_ok (.cons spec_l1Below_g (.cons spec_l11Hist_g .nil)) mixed .nil spec_l11Any_fn (by kernel_rfl) ⟨rfl, fun _ _ _ => rfl, fun n cur σ K r h => by cases h⟩
      ((spec_l11Any_ok PM.std (spec_l1Below PM.std) (spec_l11Hist PM.std) _ _ _ k).trans h)
  · cases h
theorem spec_l11Any_g : PM.GOk Try.prog cx 95 ⟨[], fun _ _ => none, some (PM.spBox (spec_l11Any_w (spec_l11Any PM.std)))⟩ := PM.GOk.ofS spec_l11Any_fn.enter (PM.spBox_ok spec_l11Any_b)

abbrev spec_DrawStateAt_T := (List Int) → ((List Int) → (List (List PM.C)) → (Int) → PM.R) → PM.R
noncomputable def spec_DrawStateAt_w (c : spec_DrawStateAt_T) (ds : List PM.V) (k : PM.V → PM.R) : PM.R :=
  match ds with
  | [.arr (.ints 5 .u8 code)] => c code (fun r0 r1 r2 => k (.tup [.arr (.ints 3 .i64 r0), .arr (.rows 33 r1), .int .i64 r2]))
  | _ => none
noncomputable def spec_DrawStateAt_f (A : PM.Prims) (c_92 : spec_l1New_T) (c_96 : spec_l1Below_T) (c_94 : spec_l1Once_T) (c_93 : spec_l3DrawVals_T) (c_95 : spec_l11Any_T) (code : List Int) (k : (List Int) → (List (List PM.C)) → (Int) → PM.R) : PM.R :=
  c_92 code (fun r1 r2 r3 =>
    c_93 r1 r2 r3 (fun r4 r5 r6 r7 =>
      c_94 r5 r6 r7 20 (fun r8 r9 r10 r11 =>
        bif r8 then
          bif (A.subb 0 1 (A.ilen r4)) then
            c_95 r9 r10 r11 (fun r12 r13 r14 r15 =>
              c_96 r13 r14 r15 20 (fun r16 r17 r18 r19 =>
                k (A.isub r4 0 1) r12 (A.sub .i64 r16 2)))
          else
            none
        else
          c_95 r9 r10 r11 (fun r20 r21 r22 r23 =>
            c_96 r21 r22 r23 20 (fun r24 r25 r26 r27 =>
              k r4 r20 (A.sub .i64 r24 2))))))
noncomputable def spec_DrawStateAt (A : PM.Prims) : spec_DrawStateAt_T := spec_DrawStateAt_f A (spec_l1New A) (spec_l1Below A) (spec_l1Once A) (spec_l3DrawVals A) (spec_l11Any A)
noncomputable def spec_DrawStateAt_L (A : PM.Prims) (c_92 : spec_l1New_T) (c_96 : spec_l1Below_T) (c_94 : spec_l1Once_T) (c_93 : spec_l3DrawVals_T) (c_95 : spec_l11Any_T) (n : Nat) : PM.Lam := fun cur σ K =>
  match cur, σ, K with
  | _, _, _ => none
noncomputable def spec_DrawStateAt_E (A : PM.Prims) (c_92 : spec_l1New_T) (c_96 : spec_l1Below_T) (c_94 : spec_l1Once_T) (c_93 : spec_l3DrawVals_T) (c_95 : spec_l11Any_T) : PM.Env := ⟨[(92, ⟨[], fun _ _ => none, some (PM.spNew (spec_l1New_w c_92))⟩), (96, ⟨[], fun _ _ => none, some (PM.spBox (spec_l1Below_w c_96))⟩), (94, ⟨[], fun _ _ => none, some (PM.spBox (spec_l1Once_w c_94))⟩), (93, ⟨[], fun _ _ => none, some (PM.spBox (spec_l3DrawVals_w c_93))⟩), (95, ⟨[], fun _ _ => none, some (PM.spBox (spec_l11Any_w c_95))⟩)], [], [], [(0, [0]), (1, [5]), (2, [5, 6]), (3, [5, 6, 12]), (4, [5, 6]), (5, [2, 3, 4])], spec_DrawStateAt_L A c_92 c_96 c_94 c_93 c_95 A.fuel⟩
theorem spec_DrawStateAt_ok (A : PM.Prims) (c_92 : spec_l1New_T) (c_96 : spec_l1Below_T) (c_94 : spec_l1Once_T) (c_93 : spec_l3DrawVals_T) (c_95 : spec_l11Any_T) (code : List Int) (k : PM.V → PM.R) : PM.pfun A cx [] (spec_DrawStateAt_E A c_92 c_96 c_94 c_93 c_95) Go.Proofs.Try.f22 [.arr (.ints 5 .u8 code)] k = spec_DrawStateAt_f A c_92 c_96 c_94 c_93 c_95 code (fun r0 r1 r2 => k (.tup [.arr (.ints 3 .i64 r0), .arr (.rows 33 r1), .int .i64 r2])) := by kernel_rfl

theorem spec_DrawStateAt_fn : PM.FnIs Try.prog 22 Try.f22 := .of Try.func22 (by kernel_rfl) (by kernel_rfl)
theorem spec_DrawStateAt_g : PM.GOk Try.prog cx 22 ⟨[], spec_DrawStateAt_w (spec_DrawStateAt PM.std), none⟩ := by
  refine ⟨spec_DrawStateAt_fn.enter, fun _ ds k r h => ?_, fun hm => absurd rfl hm, fun _ e => (by cases e)⟩
  change spec_DrawStateAt_w (spec_DrawStateAt PM.std) ds k = some r at h
  unfold spec_DrawStateAt_w at h
  split at h
  · exact PM.pfun_ok (E := spec_DrawStateAt_E PM.std (spec_l1New PM.std) (spec_l1Below PM.std) (spec_l1Once PM.std) (spec_l3DrawVals PM.std) (spec_l11Any PM.std)) (L := fun n => spec_DrawStateAt_L PM.std (spec_l1New PM.std) (spec_l1Below PM.std) (spec_l1Once PM.std) (spec_l3DrawVals PM.std) (spec_l11Any PM.std) n) (N := PM.std.fuel) cx_ok (.cons spec_l1New_g (.cons spec_l1Below_g (.cons spec_l1Once_g (.cons spec_l3DrawVals_g (.cons spec_l11Any_g .nil))))) mixed .nil spec_DrawStateAt_fn (by kernel_rfl) ⟨rfl, fun _ _ _ => rfl, fun n cur σ K r h => by cases h⟩
      ((spec_DrawStateAt_ok PM.std (spec_l1New PM.std) (spec_l1Below PM.std) (spec_l1Once PM.std) (spec_l3DrawVals PM.std) (spec_l11Any PM.std) _ k).trans h)
  · cases h

abbrev impl_Last_T := (List (List Int)) → (Int) → ((Int) → (Bool) → PM.R) → PM.R
noncomputable def impl_Last_w (c : impl_Last_T) (ds : List PM.V) (k : PM.V → PM.R) : PM.R :=
  match ds with
  | [.arr (.vecs 161 2 l), .int .i64 cell] => c l cell (fun r0 r1 => k (.tup [.int .i64 r0, .bool r1]))
  | _ => none
noncomputable def impl_Last_l0 (A : PM.Prims) (c_128 : impl_RowsOk_T) : Nat → (List (List Int)) → (Int) → (Int) → ((Int) → (Bool) → PM.R) → (Unit → PM.R) → PM.R
  | 0, _, _, _, _, _ => none
  | n + 1, l2, cell3, i4, kret_0, kx0_0 =>
    bif (A.le 0 i4) then
      bif (A.inb i4 (A.vlen l2)) then
        bif (A.eq (A.vget l2 i4 0) cell3) then
          bif (A.inb i4 (A.vlen l2)) then
            kret_0 (A.vget l2 i4 1) true
          else
            none
        else
          impl_Last_l0 A c_128 n l2 cell3 (A.sub .i64 i4 1) kret_0 kx0_0
      else
        none
    else
      kx0_0 ()
noncomputable def impl_Last_f (A : PM.Prims) (c_128 : impl_RowsOk_T) (l : List (List Int)) (cell : Int) (k : (Int) → (Bool) → PM.R) : PM.R :=
  c_128 l (fun r1 =>
    bif (A.not r1) then
      k 0 false
    else
      impl_Last_l0 A c_128 A.fuel l cell (A.sub .i64 (A.vlen l) 1) (fun t457 t568 =>
        k t457 t568) (fun _ =>
        k 0 false))
noncomputable def impl_Last (A : PM.Prims) : impl_Last_T := impl_Last_f A (impl_RowsOk A)
noncomputable def impl_Last_L (A : PM.Prims) (c_128 : impl_RowsOk_T) (n : Nat) : PM.Lam := fun cur σ K =>
  match cur, σ, K with
  | 0, ⟨[(0, .arr (.vecs 161 2 l2)), (1, .int .i64 cell3), (6, .int .i64 i4)], []⟩, K => impl_Last_l0 A c_128 n l2 cell3 i4 (fun t45 t56 => K .ret ⟨[(4, .int .i64 t45), (5, .bool t56)], []⟩) (fun _ => K (.exit 0) ⟨[], []⟩)
  | _, _, _ => none
noncomputable def impl_Last_E (A : PM.Prims) (c_128 : impl_RowsOk_T) : PM.Env := ⟨[(128, ⟨[], impl_RowsOk_w c_128, none⟩)], [], [(0, [0, 1, 6], [4, 5])], [(0, [0, 1]), (1, [0, 1, 9]), (2, [4, 5]), (3, [0, 1, 6]), (4, [0, 1, 6, 14]), (5, [0, 1, 6]), (6, [0, 1, 6, 23]), (7, [4, 5]), (8, [4, 5])], impl_Last_L A c_128 A.fuel⟩
theorem impl_Last_l0_ok (A : PM.Prims) (c_128 : impl_RowsOk_T) (n : Nat) (l2 : List (List Int)) (cell3 : Int) (i4 : Int) (K : Go.Exit → PM.S → PM.R) : impl_Last_L A c_128 (n + 1) 0 ⟨[(0, .arr (.vecs 161 2 l2)), (1, .int .i64 cell3), (6, .int .i64 i4)], []⟩ K = PM.roundF A cx (PM.runD A cx (impl_Last_E A c_128).inl (impl_Last_E A c_128).Γ 3) (impl_Last_E A c_128) (impl_Last_L A c_128 n) 0 Go.Proofs.Try.f105 ⟨[(0, .arr (.vecs 161 2 l2)), (1, .int .i64 cell3), (6, .int .i64 i4)], []⟩ K := by kernel_rfl
theorem impl_Last_ok (A : PM.Prims) (c_128 : impl_RowsOk_T) (l : List (List Int)) (cell : Int) (k : PM.V → PM.R) : PM.pfun A cx [] (impl_Last_E A c_128) Go.Proofs.Try.f105 [.arr (.vecs 161 2 l), .int .i64 cell] k = impl_Last_f A c_128 l cell (fun r0 r1 => k (.tup [.int .i64 r0, .bool r1])) := by kernel_rfl

theorem impl_Last_fn : PM.FnIs Try.prog 105 Try.f105 := .of Try.func105 (by kernel_rfl) (by kernel_rfl)
theorem impl_Last_g : PM.GOk Try.prog cx 105 ⟨[], impl_Last_w (impl_Last PM.std), none⟩ := by
  refine ⟨impl_Last_fn.enter, fun _ ds k r h => ?_, fun hm => absurd rfl hm, fun _ e => (by cases e)⟩
  change impl_Last_w (impl_Last PM.std) ds k = some r at h
  unfold impl_Last_w at h
  split at h
  · exact PM.pfun_ok (E := impl_Last_E PM.std (impl_RowsOk PM.std)) (L := fun n => impl_Last_L PM.std (impl_RowsOk PM.std) n) (N := PM.std.fuel) cx_ok (.cons impl_RowsOk_g .nil) mixed .nil impl_Last_fn (by kernel_rfl) ⟨rfl, fun cur σ K => by
      dsimp only [impl_Last_L]
      split <;> rfl, fun n cur σ K r h => by
      dsimp only [impl_Last_L] at h
      split at h
      · exact (impl_Last_l0_ok PM.std (impl_RowsOk PM.std) n _ _ _ K).symm.trans h
      · cases h⟩
      ((impl_Last_ok PM.std (impl_RowsOk PM.std) _ _ k).trans h)
  · cases h

abbrev impl_LastWriter_T := (List (List PM.C)) → (Int) → (Int) → ((Int) → PM.R) → PM.R
noncomputable def impl_LastWriter_w (c : impl_LastWriter_T) (ds : List PM.V) (k : PM.V → PM.R) : PM.R :=
  match ds with
  | [.arr (.rows 33 l), .int .i64 cell, .int .i64 n_] => c l cell n_ (fun r0 => k (.int .i64 r0))
  | _ => none
noncomputable def impl_LastWriter_l0 (A : PM.Prims) (c_44 : impl_HistOk_T) (c_105 : impl_Last_T) : Nat → (Int) → (Int) → (Int) → (List (List C)) → (Int) → (Int) → ((Int) → PM.R) → PM.R
  | 0, _, _, _, _, _, _, _ => none
  | n + 1, cell2, n3, best4, t155, t166, t177, kx0_0 =>
    bif (A.lt t177 t166) then
      bif (A.inb t177 (A.rlen t155)) then
        c_105 (A.rsv 2 t155 t177 2) cell2 (fun r8 r9 =>
          bif r9 then
            bif (A.le (A.rint t155 t177 0) n3) then
              impl_LastWriter_l0 A c_44 c_105 n cell2 n3 (A.imax best4 (A.rint t155 t177 0)) t155 t166 (A.add .i64 t177 1) kx0_0
            else
              impl_LastWriter_l0 A c_44 c_105 n cell2 n3 best4 t155 t166 (A.add .i64 t177 1) kx0_0
          else
            impl_LastWriter_l0 A c_44 c_105 n cell2 n3 best4 t155 t166 (A.add .i64 t177 1) kx0_0)
      else
        none
    else
      kx0_0 best4
noncomputable def impl_LastWriter_f (A : PM.Prims) (c_44 : impl_HistOk_T) (c_105 : impl_Last_T) (l : List (List PM.C)) (cell : Int) (n_ : Int) (k : (Int) → PM.R) : PM.R :=
  c_44 l (fun r1 =>
    bif (A.not r1) then
      k 0
    else
      impl_LastWriter_l0 A c_44 c_105 A.fuel cell n_ 0 l (A.rlen l) 0 (fun best1011 =>
        k best1011))
noncomputable def impl_LastWriter (A : PM.Prims) : impl_LastWriter_T := impl_LastWriter_f A (impl_HistOk A) (impl_Last A)
noncomputable def impl_LastWriter_L (A : PM.Prims) (c_44 : impl_HistOk_T) (c_105 : impl_Last_T) (n : Nat) : PM.Lam := fun cur σ K =>
  match cur, σ, K with
  | 0, ⟨[(1, .int .i64 cell2), (2, .int .i64 n3), (7, .int .i64 best4), (15, .arr (.rows 33 t155)), (16, .int .i64 t166), (17, .int .i64 t177)], []⟩, K => impl_LastWriter_l0 A c_44 c_105 n cell2 n3 best4 t155 t166 t177 (fun best10 => K (.exit 0) ⟨[(7, .int .i64 best10)], []⟩)
  | _, _, _ => none
noncomputable def impl_LastWriter_E (A : PM.Prims) (c_44 : impl_HistOk_T) (c_105 : impl_Last_T) : PM.Env := ⟨[(44, ⟨[], impl_HistOk_w c_44, none⟩), (105, ⟨[], impl_Last_w c_105, none⟩)], [], [(0, [1, 2, 7, 15, 16, 17], [6, 7])], [(0, [0, 1, 2]), (1, [0, 1, 2, 14]), (2, [6]), (3, [0, 1, 2, 7]), (4, [1, 2, 7, 15, 16, 17]), (5, [1, 2, 7, 15, 16, 17, 18]), (6, [1, 2, 7, 9, 15, 16, 17]), (7, [1, 2, 7, 9, 11, 15, 16, 17]), (8, [1, 2, 7, 9, 15, 16, 17, 34]), (9, [1, 2, 7, 15, 16, 17]), (10, [1, 2, 7, 15, 16, 17]), (11, [6])], impl_LastWriter_L A c_44 c_105 A.fuel⟩
theorem impl_LastWriter_l0_ok (A : PM.Prims) (c_44 : impl_HistOk_T) (c_105 : impl_Last_T) (n : Nat) (cell2 : Int) (n3 : Int) (best4 : Int) (t155 : List (List C)) (t166 : Int) (t177 : Int) (K : Go.Exit → PM.S → PM.R) : impl_LastWriter_L A c_44 c_105 (n + 1) 0 ⟨[(1, .int .i64 cell2), (2, .int .i64 n3), (7, .int .i64 best4), (15, .arr (.rows 33 t155)), (16, .int .i64 t166), (17, .int .i64 t177)], []⟩ K = PM.roundF A cx (PM.runD A cx (impl_LastWriter_E A c_44 c_105).inl (impl_LastWriter_E A c_44 c_105).Γ 3) (impl_LastWriter_E A c_44 c_105) (impl_LastWriter_L A c_44 c_105 n) 0 Go.Proofs.Try.f25 ⟨[(1, .int .i64 cell2), (2, .int .i64 n3), (7, .int .i64 best4), (15, .arr (.rows 33 t155)), (16, .int .i64 t166), (17, .int .i64 t177)], []⟩ K := by kernel_rfl
theorem impl_LastWriter_ok (A : PM.Prims) (c_44 : impl_HistOk_T) (c_105 : impl_Last_T) (l : List (List PM.C)) (cell : Int) (n_ : Int) (k : PM.V → PM.R) : PM.pfun A cx [] (impl_LastWriter_E A c_44 c_105) Go.Proofs.Try.f25 [.arr (.rows 33 l), .int .i64 cell, .int .i64 n_] k = impl_LastWriter_f A c_44 c_105 l cell n_ (fun r0 => k (.int .i64 r0)) := by kernel_rfl

theorem impl_LastWriter_fn : PM.FnIs Try.prog 25 Try.f25 := .of Try.func25 (by kernel_rfl) (by kernel_rfl)
theorem impl_LastWriter_g : PM.GOk Try.prog cx 25 ⟨[], impl_LastWriter_w (impl_LastWriter PM.std), none⟩ := by
  refine ⟨impl_LastWriter_fn.enter, fun _ ds k r h => ?_, fun hm => absurd rfl hm, fun _ e => (by cases e)⟩
  change impl_LastWriter_w (impl_LastWriter PM.std) ds k = some r at h
  unfold impl_LastWriter_w at h
  split at h
  · exact PM.pfun_ok (E := impl_LastWriter_E PM.std (impl_HistOk PM.std) (impl_Last PM.std)) (L := fun n => impl_LastWriter_L PM.std (impl_HistOk PM.std) (impl_Last PM.std) n) (N := PM.std.fuel) cx_ok (.cons impl_HistOk_g (.cons impl_Last_g .nil)) mixed .nil impl_LastWriter_fn (by kernel_rfl) ⟨rfl, fun cur σ K => by
      dsimp only [impl_LastWriter_L]
      split <;> rfl, fun n cur σ K r h => by
      dsimp only [impl_LastWriter_L] at h
      split at h
      · exact (impl_LastWriter_l0_ok PM.std (impl_HistOk PM.std) (impl_Last PM.std) n _ _ _ _ _ _ K).symm.trans h
      · cases h⟩
      ((impl_LastWriter_ok PM.std (impl_HistOk PM.std) (impl_Last PM.std) _ _ _ k).trans h)
  · cases h

abbrev spec_Last_T := (List (List Int)) → (Int) → ((Int) → (Bool) → PM.R) → PM.R
noncomputable def spec_Last_w (c : spec_Last_T) (ds : List PM.V) (k : PM.V → PM.R) : PM.R :=
  match ds with
  | [.arr (.vecs 161 2 l), .int .i64 cell] => c l cell (fun r0 r1 => k (.tup [.int .i64 r0, .bool r1]))
  | _ => none
noncomputable def spec_Last_l0 (A : PM.Prims) (c_104 : spec_RowsOk_T) : Nat → (List (List Int)) → (Int) → (Int) → ((Int) → (Bool) → PM.R) → (Unit → PM.R) → PM.R
  | 0, _, _, _, _, _ => none
  | n + 1, l2, cell3, i4, kret_0, kx0_0 =>
    bif (A.le 0 i4) then
      bif (A.inb i4 (A.vlen l2)) then
        bif (A.eq (A.vget l2 i4 0) cell3) then
          bif (A.inb i4 (A.vlen l2)) then
            kret_0 (A.vget l2 i4 1) true
          else
            none
        else
          spec_Last_l0 A c_104 n l2 cell3 (A.sub .i64 i4 1) kret_0 kx0_0
      else
        none
    else
      kx0_0 ()
noncomputable def spec_Last_f (A : PM.Prims) (c_104 : spec_RowsOk_T) (l : List (List Int)) (cell : Int) (k : (Int) → (Bool) → PM.R) : PM.R :=
  c_104 l (fun r1 =>
    bif (A.not r1) then
      k 0 false
    else
      spec_Last_l0 A c_104 A.fuel l cell (A.sub .i64 (A.vlen l) 1) (fun t457 t568 =>
        k t457 t568) (fun _ =>
        k 0 false))
noncomputable def spec_Last (A : PM.Prims) : spec_Last_T := spec_Last_f A (spec_RowsOk A)
noncomputable def spec_Last_L (A : PM.Prims) (c_104 : spec_RowsOk_T) (n : Nat) : PM.Lam := fun cur σ K =>
  match cur, σ, K with
  | 0, ⟨[(0, .arr (.vecs 161 2 l2)), (1, .int .i64 cell3), (6, .int .i64 i4)], []⟩, K => spec_Last_l0 A c_104 n l2 cell3 i4 (fun t45 t56 => K .ret ⟨[(4, .int .i64 t45), (5, .bool t56)], []⟩) (fun _ => K (.exit 0) ⟨[], []⟩)
  | _, _, _ => none
noncomputable def spec_Last_E (A : PM.Prims) (c_104 : spec_RowsOk_T) : PM.Env := ⟨[(104, ⟨[], spec_RowsOk_w c_104, none⟩)], [], [(0, [0, 1, 6], [4, 5])], [(0, [0, 1]), (1, [0, 1, 9]), (2, [4, 5]), (3, [0, 1, 6]), (4, [0, 1, 6, 14]), (5, [0, 1, 6]), (6, [0, 1, 6, 23]), (7, [4, 5]), (8, [4, 5])], spec_Last_L A c_104 A.fuel⟩
theorem spec_Last_l0_ok (A : PM.Prims) (c_104 : spec_RowsOk_T) (n : Nat) (l2 : List (List Int)) (cell3 : Int) (i4 : Int) (K : Go.Exit → PM.S → PM.R) : spec_Last_L A c_104 (n + 1) 0 ⟨[(0, .arr (.vecs 161 2 l2)), (1, .int .i64 cell3), (6, .int .i64 i4)], []⟩ K = PM.roundF A cx (PM.runD A cx (spec_Last_E A c_104).inl (spec_Last_E A c_104).Γ 3) (spec_Last_E A c_104) (spec_Last_L A c_104 n) 0 Go.Proofs.Try.f26 ⟨[(0, .arr (.vecs 161 2 l2)), (1, .int .i64 cell3), (6, .int .i64 i4)], []⟩ K := by kernel_rfl
theorem spec_Last_ok (A : PM.Prims) (c_104 : spec_RowsOk_T) (l : List (List Int)) (cell : Int) (k : PM.V → PM.R) : PM.pfun A cx [] (spec_Last_E A c_104) Go.Proofs.Try.f26 [.arr (.vecs 161 2 l), .int .i64 cell] k = spec_Last_f A c_104 l cell (fun r0 r1 => k (.tup [.int .i64 r0, .bool r1])) := by kernel_rfl

theorem spec_Last_fn : PM.FnIs Try.prog 26 Try.f26 := .of Try.func26 (by kernel_rfl) (by kernel_rfl)
theorem spec_Last_g : PM.GOk Try.prog cx 26 ⟨[], spec_Last_w (spec_Last PM.std), none⟩ := by
  refine ⟨spec_Last_fn.enter, fun _ ds k r h => ?_, fun hm => absurd rfl hm, fun _ e => (by cases e)⟩
  change spec_Last_w (spec_Last PM.std) ds k = some r at h
  unfold spec_Last_w at h
  split at h
  · exact PM.pfun_ok (E := spec_Last_E PM.std (spec_RowsOk PM.std)) (L := fun n => spec_Last_L PM.std (spec_RowsOk PM.std) n) (N := PM.std.fuel) cx_ok (.cons spec_RowsOk_g .nil) mixed .nil spec_Last_fn (by kernel_rfl) ⟨rfl, fun cur σ K => by
      dsimp only [spec_Last_L]
      split <;> rfl, fun n cur σ K r h => by
      dsimp only [spec_Last_L] at h
      split at h
      · exact (spec_Last_l0_ok PM.std (spec_RowsOk PM.std) n _ _ _ K).symm.trans h
      · cases h⟩
      ((spec_Last_ok PM.std (spec_RowsOk PM.std) _ _ k).trans h)
  · cases h

abbrev laws_sameInts_T := (List Int) → (List Int) → ((Bool) → PM.R) → PM.R
noncomputable def laws_sameInts_w (c : laws_sameInts_T) (ds : List PM.V) (k : PM.V → PM.R) : PM.R :=
  match ds with
  | [.arr (.ints 3 .i64 a), .arr (.ints 3 .i64 b)] => c a b (fun r0 => k (.bool r0))
  | _ => none
noncomputable def laws_sameInts_l0 (A : PM.Prims) : Nat → (List Int) → (List Int) → (Int) → ((Bool) → PM.R) → (Unit → PM.R) → PM.R
  | 0, _, _, _, _, _ => none
  | n + 1, a1, b2, i3, kret_0, kx0_0 =>
    bif (A.lt i3 (A.ilen a1)) then
      bif (A.inb i3 (A.ilen a1)) then
        bif (A.inb i3 (A.ilen b2)) then
          bif (A.not (A.eq (A.iget a1 i3) (A.iget b2 i3))) then
            kret_0 false
          else
            laws_sameInts_l0 A n a1 b2 (A.add .i64 i3 1) kret_0 kx0_0
        else
          none
      else
        none
    else
      kx0_0 ()
noncomputable def laws_sameInts_f (A : PM.Prims) (a : List Int) (b : List Int) (k : (Bool) → PM.R) : PM.R :=
  bif (A.not (A.eq (A.ilen a) (A.ilen b))) then
    k false
  else
    laws_sameInts_l0 A A.fuel a b 0 (fun t445 =>
      k t445) (fun _ =>
      k true)
noncomputable def laws_sameInts (A : PM.Prims) : laws_sameInts_T := laws_sameInts_f A
noncomputable def laws_sameInts_L (A : PM.Prims) (n : Nat) : PM.Lam := fun cur σ K =>
  match cur, σ, K with
  | 0, ⟨[(0, .arr (.ints 3 .i64 a1)), (1, .arr (.ints 3 .i64 b2)), (5, .int .i64 i3)], []⟩, K => laws_sameInts_l0 A n a1 b2 i3 (fun t44 => K .ret ⟨[(4, .bool t44)], []⟩) (fun _ => K (.exit 0) ⟨[], []⟩)
  | _, _, _ => none
noncomputable def laws_sameInts_E (A : PM.Prims) : PM.Env := ⟨[], [], [(0, [0, 1, 5], [4])], [(0, [0, 1]), (1, [0, 1, 10]), (2, [4]), (3, [0, 1, 5]), (4, [0, 1, 5, 14]), (5, [0, 1, 5]), (6, [0, 1, 5, 25]), (7, [4]), (8, [4])], laws_sameInts_L A A.fuel⟩
theorem laws_sameInts_l0_ok (A : PM.Prims) (n : Nat) (a1 : List Int) (b2 : List Int) (i3 : Int) (K : Go.Exit → PM.S → PM.R) : laws_sameInts_L A (n + 1) 0 ⟨[(0, .arr (.ints 3 .i64 a1)), (1, .arr (.ints 3 .i64 b2)), (5, .int .i64 i3)], []⟩ K = PM.roundF A cx (PM.runD A cx (laws_sameInts_E A).inl (laws_sameInts_E A).Γ 3) (laws_sameInts_E A) (laws_sameInts_L A n) 0 Go.Proofs.Try.f28 ⟨[(0, .arr (.ints 3 .i64 a1)), (1, .arr (.ints 3 .i64 b2)), (5, .int .i64 i3)], []⟩ K := by kernel_rfl
theorem laws_sameInts_ok (A : PM.Prims) (a : List Int) (b : List Int) (k : PM.V → PM.R) : PM.pfun A cx [] (laws_sameInts_E A) Go.Proofs.Try.f28 [.arr (.ints 3 .i64 a), .arr (.ints 3 .i64 b)] k = laws_sameInts_f A a b (fun r0 => k (.bool r0)) := by kernel_rfl

theorem laws_sameInts_fn : PM.FnIs Try.prog 28 Try.f28 := .of Try.func28 (by kernel_rfl) (by kernel_rfl)
theorem laws_sameInts_g : PM.GOk Try.prog cx 28 ⟨[], laws_sameInts_w (laws_sameInts PM.std), none⟩ := by
  refine ⟨laws_sameInts_fn.enter, fun _ ds k r h => ?_, fun hm => absurd rfl hm, fun _ e => (by cases e)⟩
  change laws_sameInts_w (laws_sameInts PM.std) ds k = some r at h
  unfold laws_sameInts_w at h
  split at h
  · exact PM.pfun_ok (E := laws_sameInts_E PM.std) (L := fun n => laws_sameInts_L PM.std n) (N := PM.std.fuel) cx_ok .nil mixed .nil laws_sameInts_fn (by kernel_rfl) ⟨rfl, fun cur σ K => by
      dsimp only [laws_sameInts_L]
      split <;> rfl, fun n cur σ K r h => by
      dsimp only [laws_sameInts_L] at h
      split at h
      · exact (laws_sameInts_l0_ok PM.std n _ _ _ K).symm.trans h
      · cases h⟩
      ((laws_sameInts_ok PM.std _ _ k).trans h)
  · cases h

abbrev laws_FnStates_T := (List Int) → ((Bool) → PM.R) → PM.R
noncomputable def laws_FnStates_w (c : laws_FnStates_T) (ds : List PM.V) (k : PM.V → PM.R) : PM.R :=
  match ds with
  | [.arr (.ints 5 .u8 __)] => c __ (fun r0 => k (.bool r0))
  | _ => none
noncomputable def laws_FnStates_l6 (A : PM.Prims) (c_24 : spec_HistOk_T) (c_27 : impl_Stamps_T) (c_29 : spec_Overlay_T) (c_23 : impl_StateAt_T) (c_21 : laws_big_T) (c_22 : spec_DrawStateAt_T) (c_25 : impl_LastWriter_T) (c_26 : spec_Last_T) (c_28 : laws_sameInts_T) : Nat → (List Int) → (List (List C)) → (List Int) → (List Int) → (Int) → (Int) → ((Bool) → PM.R) → ((List Int) → (List (List C)) → (List Int) → (List Int) → (Int) → PM.R) → PM.R
  | 0, _, _, _, _, _, _, _, _ => none
  | n + 1, v61, l62, x63, s64, i65, k66, kret_6, kx6_6 =>
    bif (A.lt k66 (A.rlen l62)) then
      bif (A.inb k66 (A.rlen l62)) then
        bif (A.inb i65 (A.ilen s64)) then
          bif (A.eq (A.rint l62 k66 0) (A.iget s64 i65)) then
            bif (A.inb i65 (A.ilen s64)) then
              c_23 v61 l62 (A.iget s64 i65) (fun r67 =>
                bif (A.inb i65 (A.ilen s64)) then
                  c_23 v61 l62 (A.sub .i64 (A.iget s64 i65) 1) (fun r68 =>
                    bif (A.inb k66 (A.rlen l62)) then
                      c_29 r68 (A.rsv 2 l62 k66 2) (fun r69 =>
                        c_28 r67 r69 (fun r70 =>
                          bif (A.not r70) then
                            kret_6 false
                          else
                            laws_FnStates_l6 A c_24 c_27 c_29 c_23 c_21 c_22 c_25 c_26 c_28 n v61 l62 x63 s64 i65 (A.add .i64 k66 1) kret_6 kx6_6))
                    else
                      none)
                else
                  none)
            else
              none
          else
            laws_FnStates_l6 A c_24 c_27 c_29 c_23 c_21 c_22 c_25 c_26 c_28 n v61 l62 x63 s64 i65 (A.add .i64 k66 1) kret_6 kx6_6
        else
          none
      else
        none
    else
      kx6_6 v61 l62 x63 s64 i65
noncomputable def laws_FnStates_l4 (A : PM.Prims) (c_24 : spec_HistOk_T) (c_27 : impl_Stamps_T) (c_29 : spec_Overlay_T) (c_23 : impl_StateAt_T) (c_21 : laws_big_T) (c_22 : spec_DrawStateAt_T) (c_25 : impl_LastWriter_T) (c_26 : spec_Last_T) (c_28 : laws_sameInts_T) : Nat → (List Int) → (List (List C)) → (List Int) → (List Int) → (Int) → ((Bool) → PM.R) → ((List Int) → (List (List C)) → (List Int) → (List Int) → PM.R) → PM.R
  | 0, _, _, _, _, _, _, _ => none
  | n + 1, v56, l57, x58, s59, i60, kret_4, kx4_4 =>
    bif (A.lt i60 (A.ilen s59)) then
      laws_FnStates_l6 A c_24 c_27 c_29 c_23 c_21 c_22 c_25 c_26 c_28 A.fuel v56 l57 x58 s59 i60 0 (fun t27177 =>
        kret_4 t27177) (fun v7279 l7380 x7481 s7582 i7683 =>
        laws_FnStates_l4 A c_24 c_27 c_29 c_23 c_21 c_22 c_25 c_26 c_28 n v7279 l7380 x7481 s7582 (A.add .i64 i7683 1) kret_4 kx4_4)
    else
      kx4_4 v56 l57 x58 s59
noncomputable def laws_FnStates_l2 (A : PM.Prims) (c_24 : spec_HistOk_T) (c_27 : impl_Stamps_T) (c_29 : spec_Overlay_T) (c_23 : impl_StateAt_T) (c_21 : laws_big_T) (c_22 : spec_DrawStateAt_T) (c_25 : impl_LastWriter_T) (c_26 : spec_Last_T) (c_28 : laws_sameInts_T) : Nat → (List Int) → (List (List C)) → (Int) → (List Int) → (Int) → (Int) → (Int) → ((Bool) → PM.R) → ((List Int) → (List (List C)) → (Int) → (List Int) → (Int) → PM.R) → PM.R
  | 0, _, _, _, _, _, _, _, _, _ => none
  | n + 1, v14, l15, n16, x17, i18, w19, k20, kret_2, kx2_2 =>
    bif (A.lt k20 (A.rlen l15)) then
      bif (A.inb k20 (A.rlen l15)) then
        bif (A.eq (A.rint l15 k20 0) w19) then
          bif (A.inb k20 (A.rlen l15)) then
            c_26 (A.rsv 2 l15 k20 2) i18 (fun r21 r22 =>
              bif (A.inb i18 (A.ilen x17)) then
                bif (A.not (A.eq (A.iget x17 i18) r21)) then
                  kret_2 false
                else
                  laws_FnStates_l2 A c_24 c_27 c_29 c_23 c_21 c_22 c_25 c_26 c_28 n v14 l15 n16 x17 i18 w19 (A.add .i64 k20 1) kret_2 kx2_2
              else
                none)
          else
            none
        else
          laws_FnStates_l2 A c_24 c_27 c_29 c_23 c_21 c_22 c_25 c_26 c_28 n v14 l15 n16 x17 i18 w19 (A.add .i64 k20 1) kret_2 kx2_2
      else
        none
    else
      kx2_2 v14 l15 n16 x17 i18
noncomputable def laws_FnStates_l0 (A : PM.Prims) (c_24 : spec_HistOk_T) (c_27 : impl_Stamps_T) (c_29 : spec_Overlay_T) (c_23 : impl_StateAt_T) (c_21 : laws_big_T) (c_22 : spec_DrawStateAt_T) (c_25 : impl_LastWriter_T) (c_26 : spec_Last_T) (c_28 : laws_sameInts_T) : Nat → (List Int) → (List (List C)) → (Int) → (List Int) → (Int) → ((Bool) → PM.R) → ((List Int) → (List (List C)) → (List Int) → PM.R) → PM.R
  | 0, _, _, _, _, _, _, _ => none
  | n + 1, v7, l8, n9, x10, i11, kret_0, kx0_0 =>
    bif (A.lt i11 (A.ilen x10)) then
      c_25 l8 i11 n9 (fun r12 =>
        bif (A.eq r12 0) then
          bif (A.inb i11 (A.ilen x10)) then
            bif (A.inb i11 (A.ilen v7)) then
              bif (A.not (A.eq (A.iget x10 i11) (A.iget v7 i11))) then
                kret_0 false
              else
                laws_FnStates_l2 A c_24 c_27 c_29 c_23 c_21 c_22 c_25 c_26 c_28 A.fuel v7 l8 n9 x10 i11 r12 0 (fun t22329 =>
                  kret_0 t22329) (fun v2430 l2531 n2632 x2733 i2834 =>
                  laws_FnStates_l0 A c_24 c_27 c_29 c_23 c_21 c_22 c_25 c_26 c_28 n v2430 l2531 n2632 x2733 (A.add .i64 i2834 1) kret_0 kx0_0)
            else
              none
          else
            none
        else
          laws_FnStates_l2 A c_24 c_27 c_29 c_23 c_21 c_22 c_25 c_26 c_28 A.fuel v7 l8 n9 x10 i11 r12 0 (fun t22342 =>
            kret_0 t22342) (fun v2443 l2544 n2645 x2746 i2847 =>
            laws_FnStates_l0 A c_24 c_27 c_29 c_23 c_21 c_22 c_25 c_26 c_28 n v2443 l2544 n2645 x2746 (A.add .i64 i2847 1) kret_0 kx0_0))
    else
      kx0_0 v7 l8 x10
noncomputable def laws_FnStates_f (A : PM.Prims) (c_24 : spec_HistOk_T) (c_27 : impl_Stamps_T) (c_29 : spec_Overlay_T) (c_23 : impl_StateAt_T) (c_21 : laws_big_T) (c_22 : spec_DrawStateAt_T) (c_25 : impl_LastWriter_T) (c_26 : spec_Last_T) (c_28 : laws_sameInts_T) (__ : List Int) (k : (Bool) → PM.R) : PM.R :=
  c_21 __ (fun r1 =>
    bif r1 then
      k true
    else
      c_22 __ (fun r2 r3 r4 =>
        c_23 r2 r3 r4 (fun r5 =>
          c_24 r3 (fun r6 =>
            bif (A.not r6) then
              k (A.eq (A.ilen r5) 0)
            else
              bif (A.not (A.eq (A.ilen r2) 8)) then
                k (A.eq (A.ilen r5) 0)
              else
                bif (A.not (A.eq (A.ilen r5) (A.ilen r2))) then
                  k false
                else
                  laws_FnStates_l0 A c_24 c_27 c_29 c_23 c_21 c_22 c_25 c_26 c_28 A.fuel r2 r3 r4 r5 0 (fun t21351 =>
                    k t21351) (fun v4852 l4953 x5054 =>
                    c_27 l4953 (fun r55 =>
                      laws_FnStates_l4 A c_24 c_27 c_29 c_23 c_21 c_22 c_25 c_26 c_28 A.fuel v4852 l4953 x5054 r55 0 (fun t27888 =>
                        k t27888) (fun v8489 l8590 x8691 s8792 =>
                        bif (A.eq (A.ilen s8792) (A.rlen l8590)) then
                          bif (A.eq (A.ilen x8691) 8) then
                            c_23 v8489 l8590 0 (fun r93 =>
                              c_28 r93 v8489 (fun r94 =>
                                k r94))
                          else
                            k false
                        else
                          k false)))))))
noncomputable def laws_FnStates (A : PM.Prims) : laws_FnStates_T := laws_FnStates_f A (spec_HistOk A) (impl_Stamps A) (spec_Overlay A) (impl_StateAt A) (laws_big A) (spec_DrawStateAt A) (impl_LastWriter A) (spec_Last A) (laws_sameInts A)
noncomputable def laws_FnStates_L (A : PM.Prims) (c_24 : spec_HistOk_T) (c_27 : impl_Stamps_T) (c_29 : spec_Overlay_T) (c_23 : impl_StateAt_T) (c_21 : laws_big_T) (c_22 : spec_DrawStateAt_T) (c_25 : impl_LastWriter_T) (c_26 : spec_Last_T) (c_28 : laws_sameInts_T) (n : Nat) : PM.Lam := fun cur σ K =>
  match cur, σ, K with
  | 0, ⟨[(3, .arr (.ints 3 .i64 v7)), (4, .arr (.rows 33 l8)), (5, .int .i64 n9), (6, .arr (.ints 3 .i64 x10)), (7, .int .i64 i11)], []⟩, K => laws_FnStates_l0 A c_24 c_27 c_29 c_23 c_21 c_22 c_25 c_26 c_28 n v7 l8 n9 x10 i11 (fun t213 => K .ret ⟨[(2, .bool t213)], []⟩) (fun v48 l49 x50 => K (.exit 0) ⟨[(3, .arr (.ints 3 .i64 v48)), (4, .arr (.rows 33 l49)), (6, .arr (.ints 3 .i64 x50))], []⟩)
  | 2, ⟨[(3, .arr (.ints 3 .i64 v14)), (4, .arr (.rows 33 l15)), (5, .int .i64 n16), (6, .arr (.ints 3 .i64 x17)), (7, .int .i64 i18), (8, .int .i64 w19), (9, .int .i64 k20)], []⟩, K => laws_FnStates_l2 A c_24 c_27 c_29 c_23 c_21 c_22 c_25 c_26 c_28 n v14 l15 n16 x17 i18 w19 k20 (fun t223 => K .ret ⟨[(2, .bool t223)], []⟩) (fun v24 l25 n26 x27 i28 => K (.exit 2) ⟨[(3, .arr (.ints 3 .i64 v24)), (4, .arr (.rows 33 l25)), (5, .int .i64 n26), (6, .arr (.ints 3 .i64 x27)), (7, .int .i64 i28)], []⟩)
  | 4, ⟨[(3, .arr (.ints 3 .i64 v56)), (4, .arr (.rows 33 l57)), (6, .arr (.ints 3 .i64 x58)), (12, .arr (.ints 3 .i64 s59)), (13, .int .i64 i60)], []⟩, K => laws_FnStates_l4 A c_24 c_27 c_29 c_23 c_21 c_22 c_25 c_26 c_28 n v56 l57 x58 s59 i60 (fun t278 => K .ret ⟨[(2, .bool t278)], []⟩) (fun v84 l85 x86 s87 => K (.exit 4) ⟨[(3, .arr (.ints 3 .i64 v84)), (4, .arr (.rows 33 l85)), (6, .arr (.ints 3 .i64 x86)), (12, .arr (.ints 3 .i64 s87))], []⟩)
  | 6, ⟨[(3, .arr (.ints 3 .i64 v61)), (4, .arr (.rows 33 l62)), (6, .arr (.ints 3 .i64 x63)), (12, .arr (.ints 3 .i64 s64)), (13, .int .i64 i65), (14, .int .i64 k66)], []⟩, K => laws_FnStates_l6 A c_24 c_27 c_29 c_23 c_21 c_22 c_25 c_26 c_28 n v61 l62 x63 s64 i65 k66 (fun t271 => K .ret ⟨[(2, .bool t271)], []⟩) (fun v72 l73 x74 s75 i76 => K (.exit 6) ⟨[(3, .arr (.ints 3 .i64 v72)), (4, .arr (.rows 33 l73)), (6, .arr (.ints 3 .i64 x74)), (12, .arr (.ints 3 .i64 s75)), (13, .int .i64 i76)], []⟩)
  | _, _, _ => none
noncomputable def laws_FnStates_E (A : PM.Prims) (c_24 : spec_HistOk_T) (c_27 : impl_Stamps_T) (c_29 : spec_Overlay_T) (c_23 : impl_StateAt_T) (c_21 : laws_big_T) (c_22 : spec_DrawStateAt_T) (c_25 : impl_LastWriter_T) (c_26 : spec_Last_T) (c_28 : laws_sameInts_T) : PM.Env := ⟨[(24, ⟨[], fun _ _ => none, some (PM.spImm (spec_HistOk_w c_24))⟩), (27, ⟨[], fun _ _ => none, some (PM.spImm (impl_Stamps_w c_27))⟩), (29, ⟨[], fun _ _ => none, some (PM.spImm (spec_Overlay_w c_29))⟩), (23, ⟨[], fun _ _ => none, some (PM.spImm (impl_StateAt_w c_23))⟩), (21, ⟨[], fun _ _ => none, some (PM.spImm (laws_big_w c_21))⟩), (22, ⟨[], fun _ _ => none, some (PM.spImm (spec_DrawStateAt_w c_22))⟩), (25, ⟨[], fun _ _ => none, some (PM.spImm (impl_LastWriter_w c_25))⟩), (26, ⟨[], fun _ _ => none, some (PM.spImm (spec_Last_w c_26))⟩), (28, ⟨[], fun _ _ => none, some (PM.spImm (laws_sameInts_w c_28))⟩)], [], [(0, [3, 4, 5, 6, 7], [2, 3, 4, 6]), (2, [3, 4, 5, 6, 7, 8, 9], [2, 3, 4, 5, 6, 7]), (4, [3, 4, 6, 12, 13], [2, 3, 4, 6, 12]), (6, [3, 4, 6, 12, 13, 14], [2, 3, 4, 6, 12, 13])], [(0, [0]), (1, [0, 16]), (2, [2]), (3, [3, 4, 5]), (4, [3, 4, 5, 6]), (5, [3, 4, 5, 6, 34]), (6, [2]), (7, [3, 4, 5, 6, 42]), (8, [2]), (9, [3, 4, 5, 6, 7]), (10, [3, 4, 5, 6, 7, 46]), (11, [3, 4, 5, 6, 7]), (12, [3, 4, 5, 6, 7, 8]), (13, [3, 4, 5, 6, 7, 8, 65]), (14, [2]), (15, [3, 4, 5, 6, 7, 8, 9]), (16, [3, 4, 5, 6, 7, 8, 9, 69]), (17, [3, 4, 5, 6, 7, 8, 9]), (18, [3, 4, 5, 6, 7, 8, 9, 78]), (19, [3, 4, 5, 6, 7, 8, 9, 10]), (20, [3, 4, 5, 6, 7, 8, 9, 94]), (21, [2]), (22, [3, 4, 6, 12]), (23, [3, 4, 6, 12, 13]), (24, [3, 4, 6, 12, 13, 100]), (25, [3, 4, 6, 12, 13]), (26, [3, 4, 6, 12, 13, 14]), (27, [3, 4, 6, 12, 13, 14, 106]), (28, [3, 4, 6, 12, 13, 14]), (29, [3, 4, 6, 12, 13, 14, 143]), (30, [2]), (31, [2])], laws_FnStates_L A c_24 c_27 c_29 c_23 c_21 c_22 c_25 c_26 c_28 A.fuel⟩
theorem laws_FnStates_l0_ok (A : PM.Prims) (c_24 : spec_HistOk_T) (c_27 : impl_Stamps_T) (c_29 : spec_Overlay_T) (c_23 : impl_StateAt_T) (c_21 : laws_big_T) (c_22 : spec_DrawStateAt_T) (c_25 : impl_LastWriter_T) (c_26 : spec_Last_T) (c_28 : laws_sameInts_T) (n : Nat) (v7 : List Int) (l8 : List (List C)) (n9 : Int) (x10 : List Int) (i11 : Int) (K : Go.Exit → PM.S → PM.R) : laws_FnStates_L A c_24 c_27 c_29 c_23 c_21 c_22 c_25 c_26 c_28 (n + 1) 0 ⟨[(3, .arr (.ints 3 .i64 v7)), (4, .arr (.rows 33 l8)), (5, .int .i64 n9), (6, .arr (.ints 3 .i64 x10)), (7, .int .i64 i11)], []⟩ K = PM.roundF A cx (PM.runD A cx (laws_FnStates_E A c_24 c_27 c_29 c_23 c_21 c_22 c_25 c_26 c_28).inl (laws_FnStates_E A c_24 c_27 c_29 c_23 c_21 c_22 c_25 c_26 c_28).Γ 3) (laws_FnStates_E A c_24 c_27 c_29 c_23 c_21 c_22 c_25 c_26 c_28) (laws_FnStates_L A c_24 c_27 c_29 c_23 c_21 c_22 c_25 c_26 c_28 n) 0 Go.Proofs.Try.f3 ⟨[(3, .arr (.ints 3 .i64 v7)), (4, .arr (.rows 33 l8)), (5, .int .i64 n9), (6, .arr (.ints 3 .i64 x10)), (7, .int .i64 i11)], []⟩ K := by kernel_rfl
theorem laws_FnStates_l2_ok (A : PM.Prims) (c_24 : spec_HistOk_T) (c_27 : impl_Stamps_T) (c_29 : spec_Overlay_T) (c_23 : impl_StateAt_T) (c_21 : laws_big_T) (c_22 : spec_DrawStateAt_T) (c_25 : impl_LastWriter_T) (c_26 : spec_Last_T) (c_28 : laws_sameInts_T) (n : Nat) (v14 : List Int) (l15 : List (List C)) (n16 : Int) (x17 : List Int) (i18 : Int) (w19 : Int) (k20 : Int) (K : Go.Exit → PM.S → PM.R) : laws_FnStates_L A c_24 c_27 c_29 c_23 c_21 c_22 c_25 c_26 c_28 (n + 1) 2 ⟨[(3, .arr (.ints 3 .i64 v14)), (4, .arr (.rows 33 l15)), (5, .int .i64 n16), (6, .arr (.ints 3 .i64 x17)), (7, .int .i64 i18), (8, .int .i64 w19), (9, .int .i64 k20)], []⟩ K = PM.roundF A cx (PM.runD A cx (laws_FnStates_E A c_24 c_27 c_29 c_23 c_21 c_22 c_25 c_26 c_28).inl (laws_FnStates_E A c_24 c_27 c_29 c_23 c_21 c_22 c_25 c_26 c_28).Γ 3) (laws_FnStates_E A c_24 c_27 c_29 c_23 c_21 c_22 c_25 c_26 c_28) (laws_FnStates_L A c_24 c_27 c_29 c_23 c_21 c_22 c_25 c_26 c_28 n) 2 Go.Proofs.Try.f3 ⟨[(3, .arr (.ints 3 .i64 v14)), (4, .arr (.rows 33 l15)), (5, .int .i64 n16), (6, .arr (.ints 3 .i64 x17)), (7, .int .i64 i18), (8, .int .i64 w19), (9, .int .i64 k20)], []⟩ K := by kernel_rfl
theorem laws_FnStates_l4_ok (A : PM.Prims) (c_24 : spec_HistOk_T) (c_27 : impl_Stamps_T) (c_29 : spec_Overlay_T) (c_23 : impl_StateAt_T) (c_21 : laws_big_T) (c_22 : spec_DrawStateAt_T) (c_25 : impl_LastWriter_T) (c_26 : spec_Last_T) (c_28 : laws_sameInts_T) (n : Nat) (v56 : List Int) (l57 : List (List C)) (x58 : List Int) (s59 : List Int) (i60 : Int) (K : Go.Exit → PM.S → PM.R) : laws_FnStates_L A c_24 c_27 c_29 c_23 c_21 c_22 c_25 c_26 c_28 (n + 1) 4 ⟨[(3, .arr (.ints 3 .i64 v56)), (4, .arr (.rows 33 l57)), (6, .arr (.ints 3 .i64 x58)), (12, .arr (.ints 3 .i64 s59)), (13, .int .i64 i60)], []⟩ K = PM.roundF A cx (PM.runD A cx (laws_FnStates_E A c_24 c_27 c_29 c_23 c_21 c_22 c_25 c_26 c_28).inl (laws_FnStates_E A c_24 c_27 c_29 c_23 c_21 c_22 c_25 c_26 c_28).Γ 3) (laws_FnStates_E A c_24 c_27 c_29 c_23 c_21 c_22 c_25 c_26 c_28) (laws_FnStates_L A c_24 c_27 c_29 c_23 c_21 c_22 c_25 c_26 c_28 n) 4 Go.Proofs.Try.f3 ⟨[(3, .arr (.ints 3 .i64 v56)), (4, .arr (.rows 33 l57)), (6, .arr (.ints 3 .i64 x58)), (12, .arr (.ints 3 .i64 s59)), (13, .int .i64 i60)], []⟩ K := by kernel_rfl
theorem laws_FnStates_l6_ok (A : PM.Prims) (c_24 : spec_HistOk_T) (c_27 : impl_Stamps_T) (c_29 : spec_Overlay_T) (c_23 : impl_StateAt_T) (c_21 : laws_big_T) (c_22 : spec_DrawStateAt_T) (c_25 : impl_LastWriter_T) (c_26 : spec_Last_T) (c_28 : laws_sameInts_T) (n : Nat) (v61 : List Int) (l62 : List (List C)) (x63 : List Int) (s64 : List Int) (i65 : Int) (k66 : Int) (K : Go.Exit → PM.S → PM.R) : laws_FnStates_L A c_24 c_27 c_29 c_23 c_21 c_22 c_25 c_26 c_28 (n + 1) 6 ⟨[(3, .arr (.ints 3 .i64 v61)), (4, .arr (.rows 33 l62)), (6, .arr (.ints 3 .i64 x63)), (12, .arr (.ints 3 .i64 s64)), (13, .int .i64 i65), (14, .int .i64 k66)], []⟩ K = PM.roundF A cx (PM.runD A cx (laws_FnStates_E A c_24 c_27 c_29 c_23 c_21 c_22 c_25 c_26 c_28).inl (laws_FnStates_E A c_24 c_27 c_29 c_23 c_21 c_22 c_25 c_26 c_28).Γ 3) (laws_FnStates_E A c_24 c_27 c_29 c_23 c_21 c_22 c_25 c_26 c_28) (laws_FnStates_L A c_24 c_27 c_29 c_23 c_21 c_22 c_25 c_26 c_28 n) 6 Go.Proofs.Try.f3 ⟨[(3, .arr (.ints 3 .i64 v61)), (4, .arr (.rows 33 l62)), (6, .arr (.ints 3 .i64 x63)), (12, .arr (.ints 3 .i64 s64)), (13, .int .i64 i65), (14, .int .i64 k66)], []⟩ K := by kernel_rfl
theorem laws_FnStates_ok (A : PM.Prims) (c_24 : spec_HistOk_T) (c_27 : impl_Stamps_T) (c_29 : spec_Overlay_T) (c_23 : impl_StateAt_T) (c_21 : laws_big_T) (c_22 : spec_DrawStateAt_T) (c_25 : impl_LastWriter_T) (c_26 : spec_Last_T) (c_28 : laws_sameInts_T) (__ : List Int) (k : PM.V → PM.R) : PM.pfun A cx [] (laws_FnStates_E A c_24 c_27 c_29 c_23 c_21 c_22 c_25 c_26 c_28) Go.Proofs.Try.f3 [.arr (.ints 5 .u8 __)] k = laws_FnStates_f A c_24 c_27 c_29 c_23 c_21 c_22 c_25 c_26 c_28 __ (fun r0 => k (.bool r0)) := by kernel_rfl

theorem laws_FnStates_fn : PM.FnIs Try.prog 3 Try.f3 := .of Try.func3 (by kernel_rfl) (by kernel_rfl)
theorem laws_FnStates_g : PM.GOk Try.prog cx 3 ⟨[], laws_FnStates_w (laws_FnStates PM.std), none⟩ := by
  refine ⟨laws_FnStates_fn.enter, fun _ ds k r h => ?_, fun hm => absurd rfl hm, fun _ e => (by cases e)⟩
  change laws_FnStates_w (laws_FnStates PM.std) ds k = some r at h
  unfold laws_FnStates_w at h
  split at h
  · exact PM.pfun_ok (E := laws_FnStates_E PM.std (spec_HistOk PM.std) (impl_Stamps PM.std) (spec_Overlay PM.std) (impl_StateAt PM.std) (laws_big PM.std) (spec_DrawStateAt PM.std) (impl_LastWriter PM.std) (spec_Last PM.std) (laws_sameInts PM.std)) (L := fun n => laws_FnStates_L PM.std (spec_HistOk PM.std) (impl_Stamps PM.std) (spec_Overlay PM.std) (impl_StateAt PM.std) (laws_big PM.std) (spec_DrawStateAt PM.std) (impl_LastWriter PM.std) (spec_Last PM.std) (laws_sameInts PM.std) n) (N := PM.std.fuel) cx_ok (.cons (PM.GOk.imm spec_HistOk_g) (.cons (PM.GOk.imm impl_Stamps_g) (.cons (PM.GOk.imm spec_Overlay_g) (.cons (PM.GOk.imm impl_StateAt_g) (.cons (PM.GOk.imm laws_big_g) (.cons (PM.GOk.imm spec_DrawStateAt_g) (.cons (PM.GOk.imm impl_LastWriter_g) (.cons (PM.GOk.imm spec_Last_g) (.cons (PM.GOk.imm laws_sameInts_g) .nil))))))))) mixed .nil laws_FnStates_fn (by kernel_rfl) ⟨rfl, fun cur σ K => by
      dsimp only [laws_FnStates_L]
      split <;> rfl, fun n cur σ K r h => by
      dsimp only [laws_FnStates_L] at h
      split at h
      · exact (laws_FnStates_l0_ok PM.std (spec_HistOk PM.std) (impl_Stamps PM.std) (spec_Overlay PM.std) (impl_StateAt PM.std) (laws_big PM.std) (spec_DrawStateAt PM.std) (impl_LastWriter PM.std) (spec_Last PM.std) (laws_sameInts PM.std) n _ _ _ _ _ K).symm.trans h
      · exact (laws_FnStates_l2_ok PM.std (spec_HistOk PM.std) (impl_Stamps PM.std) (spec_Overlay PM.std) (impl_StateAt PM.std) (laws_big PM.std) (spec_DrawStateAt PM.std) (impl_LastWriter PM.std) (spec_Last PM.std) (laws_sameInts PM.std) n _ _ _ _ _ _ _ K).symm.trans h
      · exact (laws_FnStates_l4_ok PM.std (spec_HistOk PM.std) (impl_Stamps PM.std) (spec_Overlay PM.std) (impl_StateAt PM.std) (laws_big PM.std) (spec_DrawStateAt PM.std) (impl_LastWriter PM.std) (spec_Last PM.std) (laws_sameInts PM.std) n _ _ _ _ _ K).symm.trans h
      · exact (laws_FnStates_l6_ok PM.std (spec_HistOk PM.std) (impl_Stamps PM.std) (spec_Overlay PM.std) (impl_StateAt PM.std) (laws_big PM.std) (spec_DrawStateAt PM.std) (impl_LastWriter PM.std) (spec_Last PM.std) (laws_sameInts PM.std) n _ _ _ _ _ _ K).symm.trans h
      · cases h⟩
      ((laws_FnStates_ok PM.std (spec_HistOk PM.std) (impl_Stamps PM.std) (spec_Overlay PM.std) (impl_StateAt PM.std) (laws_big PM.std) (spec_DrawStateAt PM.std) (impl_LastWriter PM.std) (spec_Last PM.std) (laws_sameInts PM.std) _ k).trans h)
  · cases h

end X
