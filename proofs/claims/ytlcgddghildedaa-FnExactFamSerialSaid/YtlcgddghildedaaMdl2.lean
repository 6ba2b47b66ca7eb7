/- Models of the functions, or plain laws about them; each theorem states its own conditions. -/
import Derived.Test.YtlcgddghildedaaMdlA
import Derived.Test.YtlcgddghildedaaL3
import Derived.Test.YtlcgddghildedaaMKF
import Derived.Test.YtlcgddghildedaaProg
import Derived.KernelRfl
set_option linter.unusedVariables false
set_option linter.unusedSimpArgs false
open Go.Proofs
namespace X
open PM
set_option maxRecDepth 100000
set_option maxHeartbeats 4000000
abbrev impl_KidOk_T := (List (List Int)) → ((Bool) → PM.R) → PM.R
noncomputable def impl_KidOk_w (c : impl_KidOk_T) (ds : List PM.V) (k : PM.V → PM.R) : PM.R :=
  match ds with
  | [.arr (.vecs 312 4 code)] => c code (fun r0 => k (.bool r0))
  | _ => none
noncomputable def impl_KidOk_l0 (A : PM.Prims) (c_227 : impl_Touches_T) (c_228 : impl_CodeOk_T) : Nat → (List (List Int)) → (List (List Int)) → (Int) → (Int) → ((Bool) → PM.R) → ((List (List Int)) → PM.R) → PM.R
  | 0, _, _, _, _, _, _ => none
  | n + 1, code1, t52, t63, t74, kret_0, kx0_0 =>
    bif (A.lt t74 t63) then
      bif (A.inb t74 (A.vlen t52)) then
        bif (A.eq (A.vget t52 t74 0) 11) then
          kret_0 false
        else
          c_227 (A.vget t52 t74 0) (A.vget t52 t74 1) (A.vget t52 t74 2) (A.vget t52 t74 3) (fun r6 =>
            bif (A.eq r6 2) then
              kret_0 false
            else
              impl_KidOk_l0 A c_227 c_228 n code1 t52 t63 (A.add .i64 t74 1) kret_0 kx0_0)
      else
        none
    else
      kx0_0 code1
noncomputable def impl_KidOk_f (A : PM.Prims) (c_227 : impl_Touches_T) (c_228 : impl_CodeOk_T) (code : List (List Int)) (k : (Bool) → PM.R) : PM.R :=
  impl_KidOk_l0 A c_227 c_228 A.fuel code code (A.vlen code) 0 (fun t258 =>
    k t258) (fun code79 =>
    c_228 code79 (fun r10 =>
      k r10))
noncomputable def impl_KidOk (A : PM.Prims) : impl_KidOk_T := impl_KidOk_f A (impl_Touches A) (impl_CodeOk A)
noncomputable def impl_KidOk_L (A : PM.Prims) (c_227 : impl_Touches_T) (c_228 : impl_CodeOk_T) (n : Nat) : PM.Lam := fun cur σ K =>
  match cur, σ, K with
  | 0, ⟨[(0, .arr (.vecs 312 4 code1)), (5, .arr (.vecs 312 4 t52)), (6, .int .i64 t63), (7, .int .i64 t74)], []⟩, K => impl_KidOk_l0 A c_227 c_228 n code1 t52 t63 t74 (fun t25 => K .ret ⟨[(2, .bool t25)], []⟩) (fun code7 => K (.exit 0) ⟨[(0, .arr (.vecs 312 4 code7))], []⟩)
  | _, _, _ => none
noncomputable def impl_KidOk_E (A : PM.Prims) (c_227 : impl_Touches_T) (c_228 : impl_CodeOk_T) : PM.Env := ⟨[(227, ⟨[], impl_Touches_w c_227, none⟩), (228, ⟨[], impl_CodeOk_w c_228, none⟩)], [], [(0, [0, 5, 6, 7], [0, 2])], [(0, [0]), (1, [0, 5, 6, 7]), (2, [0, 5, 6, 7, 8]), (3, [0, 4, 5, 6, 7]), (4, [0, 5, 6, 7, 18]), (5, [2]), (6, [0, 5, 6, 7]), (7, [2])], impl_KidOk_L A c_227 c_228 A.fuel⟩
theorem impl_KidOk_l0_ok (A : PM.Prims) (c_227 : impl_Touches_T) (c_228 : impl_CodeOk_T) (n : Nat) (code1 : List (List Int)) (t52 : List (List Int)) (t63 : Int) (t74 : Int) (K : Go.Exit → PM.S → PM.R) : impl_KidOk_L A c_227 c_228 (n + 1) 0 ⟨[(0, .arr (.vecs 312 4 code1)), (5, .arr (.vecs 312 4 t52)), (6, .int .i64 t63), (7, .int .i64 t74)], []⟩ K = PM.roundF A cx (PM.runD A cx (impl_KidOk_E A c_227 c_228).inl (impl_KidOk_E A c_227 c_228).Γ 3) (impl_KidOk_E A c_227 c_228) (impl_KidOk_L A c_227 c_228 n) 0 Go.Proofs.Try.f166 ⟨[(0, .arr (.vecs 312 4 code1)), (5, .arr (.vecs 312 4 t52)), (6, .int .i64 t63), (7, .int .i64 t74)], []⟩ K := by kernel_rfl
theorem impl_KidOk_ok (A : PM.Prims) (c_227 : impl_Touches_T) (c_228 : impl_CodeOk_T) (code : List (List Int)) (k : PM.V → PM.R) : PM.pfun A cx [] (impl_KidOk_E A c_227 c_228) Go.Proofs.Try.f166 [.arr (.vecs 312 4 code)] k = impl_KidOk_f A c_227 c_228 code (fun r0 => k (.bool r0)) := by kernel_rfl

theorem impl_KidOk_fn : PM.FnIs Try.prog 166 Try.f166 := .of Try.func166 (by kernel_rfl) (by kernel_rfl)
theorem impl_KidOk_g : PM.GOk Try.prog cx 166 ⟨[], impl_KidOk_w (impl_KidOk PM.std), none⟩ := by
  refine ⟨impl_KidOk_fn.enter, fun _ ds k r h => ?_, fun hm => absurd rfl hm, fun _ e => (by cases e)⟩
  change impl_KidOk_w (impl_KidOk PM.std) ds k = some r at h
  unfold impl_KidOk_w at h
  split at h
  · exact PM.pfun_ok (E := impl_KidOk_E PM.std (impl_Touches PM.std) (impl_CodeOk PM.std)) (L := fun n => impl_KidOk_L PM.std (impl_Touches PM.std) (impl_CodeOk PM.std) n) (N := PM.std.fuel) cx_ok (.cons impl_Touches_g (.cons impl_CodeOk_g .nil)) mixed .nil impl_KidOk_fn (by kernel_rfl) ⟨rfl, fun cur σ K => by
      dsimp only [impl_KidOk_L]
      split <;> rfl, fun n cur σ K r h => by
      dsimp only [impl_KidOk_L] at h
      split at h
      · exact (impl_KidOk_l0_ok PM.std (impl_Touches PM.std) (impl_CodeOk PM.std) n _ _ _ _ K).symm.trans h
      · cases h⟩
      ((impl_KidOk_ok PM.std (impl_Touches PM.std) (impl_CodeOk PM.std) _ k).trans h)
  · cases h

abbrev impl_areValues_T := (List Int) → (Int) → ((Bool) → PM.R) → PM.R
noncomputable def impl_areValues_w (c : impl_areValues_T) (ds : List PM.V) (k : PM.V → PM.R) : PM.R :=
  match ds with
  | [.arr (.ints 3 .i64 l), .int .i64 n_] => c l n_ (fun r0 => k (.bool r0))
  | _ => none
noncomputable def impl_areValues_l0 (A : PM.Prims) (c_193 : impl_isValue_T) : Nat → (List Int) → (Int) → (List Int) → (Int) → (Int) → ((Bool) → PM.R) → ((List Int) → (Int) → PM.R) → PM.R
  | 0, _, _, _, _, _, _, _ => none
  | n + 1, l1, n2, t73, t84, t95, kret_0, kx0_0 =>
    bif (A.lt t95 t84) then
      bif (A.inb t95 (A.ilen t73)) then
        c_193 (A.iget t73 t95) (fun r6 =>
          bif (A.not r6) then
            kret_0 false
          else
            impl_areValues_l0 A c_193 n l1 n2 t73 t84 (A.add .i64 t95 1) kret_0 kx0_0)
      else
        none
    else
      kx0_0 l1 n2
noncomputable def impl_areValues_f (A : PM.Prims) (c_193 : impl_isValue_T) (l : List Int) (n_ : Int) (k : (Bool) → PM.R) : PM.R :=
  impl_areValues_l0 A c_193 A.fuel l n_ l (A.ilen l) 0 (fun t4710 =>
    k t4710) (fun l811 n912 =>
    k (A.eq (A.ilen l811) n912))
noncomputable def impl_areValues (A : PM.Prims) : impl_areValues_T := impl_areValues_f A (impl_isValue A)
noncomputable def impl_areValues_L (A : PM.Prims) (c_193 : impl_isValue_T) (n : Nat) : PM.Lam := fun cur σ K =>
  match cur, σ, K with
  | 0, ⟨[(0, .arr (.ints 3 .i64 l1)), (1, .int .i64 n2), (7, .arr (.ints 3 .i64 t73)), (8, .int .i64 t84), (9, .int .i64 t95)], []⟩, K => impl_areValues_l0 A c_193 n l1 n2 t73 t84 t95 (fun t47 => K .ret ⟨[(4, .bool t47)], []⟩) (fun l8 n9 => K (.exit 0) ⟨[(0, .arr (.ints 3 .i64 l8)), (1, .int .i64 n9)], []⟩)
  | _, _, _ => none
noncomputable def impl_areValues_E (A : PM.Prims) (c_193 : impl_isValue_T) : PM.Env := ⟨[(193, ⟨[], impl_isValue_w c_193, none⟩)], [], [(0, [0, 1, 7, 8, 9], [0, 1, 4])], [(0, [0, 1]), (1, [0, 1, 7, 8, 9]), (2, [0, 1, 7, 8, 9, 10]), (3, [0, 1, 6, 7, 8, 9]), (4, [0, 1, 7, 8, 9, 15]), (5, [4]), (6, [0, 1, 7, 8, 9]), (7, [4])], impl_areValues_L A c_193 A.fuel⟩
theorem impl_areValues_l0_ok (A : PM.Prims) (c_193 : impl_isValue_T) (n : Nat) (l1 : List Int) (n2 : Int) (t73 : List Int) (t84 : Int) (t95 : Int) (K : Go.Exit → PM.S → PM.R) : impl_areValues_L A c_193 (n + 1) 0 ⟨[(0, .arr (.ints 3 .i64 l1)), (1, .int .i64 n2), (7, .arr (.ints 3 .i64 t73)), (8, .int .i64 t84), (9, .int .i64 t95)], []⟩ K = PM.roundF A cx (PM.runD A cx (impl_areValues_E A c_193).inl (impl_areValues_E A c_193).Γ 3) (impl_areValues_E A c_193) (impl_areValues_L A c_193 n) 0 Go.Proofs.Try.f97 ⟨[(0, .arr (.ints 3 .i64 l1)), (1, .int .i64 n2), (7, .arr (.ints 3 .i64 t73)), (8, .int .i64 t84), (9, .int .i64 t95)], []⟩ K := by kernel_rfl
theorem impl_areValues_ok (A : PM.Prims) (c_193 : impl_isValue_T) (l : List Int) (n_ : Int) (k : PM.V → PM.R) : PM.pfun A cx [] (impl_areValues_E A c_193) Go.Proofs.Try.f97 [.arr (.ints 3 .i64 l), .int .i64 n_] k = impl_areValues_f A c_193 l n_ (fun r0 => k (.bool r0)) := by kernel_rfl

theorem impl_areValues_fn : PM.FnIs Try.prog 97 Try.f97 := .of Try.func97 (by kernel_rfl) (by kernel_rfl)
theorem impl_areValues_g : PM.GOk Try.prog cx 97 ⟨[], impl_areValues_w (impl_areValues PM.std), none⟩ := by
  refine ⟨impl_areValues_fn.enter, fun _ ds k r h => ?_, fun hm => absurd rfl hm, fun _ e => (by cases e)⟩
  change impl_areValues_w (impl_areValues PM.std) ds k = some r at h
  unfold impl_areValues_w at h
  split at h
  · exact PM.pfun_ok (E := impl_areValues_E PM.std (impl_isValue PM.std)) (L := fun n => impl_areValues_L PM.std (impl_isValue PM.std) n) (N := PM.std.fuel) cx_ok (.cons impl_isValue_g .nil) mixed .nil impl_areValues_fn (by kernel_rfl) ⟨rfl, fun cur σ K => by
      dsimp only [impl_areValues_L]
      split <;> rfl, fun n cur σ K r h => by
      dsimp only [impl_areValues_L] at h
      split at h
      · exact (impl_areValues_l0_ok PM.std (impl_isValue PM.std) n _ _ _ _ _ K).symm.trans h
      · cases h⟩
      ((impl_areValues_ok PM.std (impl_isValue PM.std) _ _ k).trans h)
  · cases h

abbrev impl_RowsOk_T := (List (List Int)) → ((Bool) → PM.R) → PM.R
noncomputable def impl_RowsOk_w (c : impl_RowsOk_T) (ds : List PM.V) (k : PM.V → PM.R) : PM.R :=
  match ds with
  | [.arr (.vecs 161 2 l)] => c l (fun r0 => k (.bool r0))
  | _ => none
noncomputable def impl_RowsOk_l0 (A : PM.Prims) (c_144 : impl_isCell_T) (c_193 : impl_isValue_T) : Nat → (List (List Int)) → (List (List Int)) → (Int) → (Int) → ((Bool) → PM.R) → ((List (List Int)) → PM.R) → PM.R
  | 0, _, _, _, _, _, _ => none
  | n + 1, l1, t52, t63, t74, kret_0, kx0_0 =>
    bif (A.lt t74 t63) then
      bif (A.inb t74 (A.vlen t52)) then
        c_144 (A.vget t52 t74 0) (fun r5 =>
          bif (A.not r5) then
            kret_0 false
          else
            c_193 (A.vget t52 t74 1) (fun r7 =>
              bif (A.not r7) then
                kret_0 false
              else
                impl_RowsOk_l0 A c_144 c_193 n l1 t52 t63 (A.add .i64 t74 1) kret_0 kx0_0))
      else
        none
    else
      kx0_0 l1
noncomputable def impl_RowsOk_f (A : PM.Prims) (c_144 : impl_isCell_T) (c_193 : impl_isValue_T) (l : List (List Int)) (k : (Bool) → PM.R) : PM.R :=
  impl_RowsOk_l0 A c_144 c_193 A.fuel l l (A.vlen l) 0 (fun t269 =>
    k t269) (fun l810 =>
    k (A.le (A.vlen l810) 300))
noncomputable def impl_RowsOk (A : PM.Prims) : impl_RowsOk_T := impl_RowsOk_f A (impl_isCell A) (impl_isValue A)
noncomputable def impl_RowsOk_L (A : PM.Prims) (c_144 : impl_isCell_T) (c_193 : impl_isValue_T) (n : Nat) : PM.Lam := fun cur σ K =>
  match cur, σ, K with
  | 0, ⟨[(0, .arr (.vecs 161 2 l1)), (5, .arr (.vecs 161 2 t52)), (6, .int .i64 t63), (7, .int .i64 t74)], []⟩, K => impl_RowsOk_l0 A c_144 c_193 n l1 t52 t63 t74 (fun t26 => K .ret ⟨[(2, .bool t26)], []⟩) (fun l8 => K (.exit 0) ⟨[(0, .arr (.vecs 161 2 l8))], []⟩)
  | _, _, _ => none
noncomputable def impl_RowsOk_E (A : PM.Prims) (c_144 : impl_isCell_T) (c_193 : impl_isValue_T) : PM.Env := ⟨[(144, ⟨[], impl_isCell_w c_144, none⟩), (193, ⟨[], impl_isValue_w c_193, none⟩)], [], [(0, [0, 5, 6, 7], [0, 2])], [(0, [0]), (1, [0, 5, 6, 7]), (2, [0, 5, 6, 7, 8]), (3, [0, 4, 5, 6, 7]), (4, [0, 5, 6, 7, 20]), (5, [2]), (6, [0, 5, 6, 7]), (7, [2])], impl_RowsOk_L A c_144 c_193 A.fuel⟩
theorem impl_RowsOk_l0_ok (A : PM.Prims) (c_144 : impl_isCell_T) (c_193 : impl_isValue_T) (n : Nat) (l1 : List (List Int)) (t52 : List (List Int)) (t63 : Int) (t74 : Int) (K : Go.Exit → PM.S → PM.R) : impl_RowsOk_L A c_144 c_193 (n + 1) 0 ⟨[(0, .arr (.vecs 161 2 l1)), (5, .arr (.vecs 161 2 t52)), (6, .int .i64 t63), (7, .int .i64 t74)], []⟩ K = PM.roundF A cx (PM.runD A cx (impl_RowsOk_E A c_144 c_193).inl (impl_RowsOk_E A c_144 c_193).Γ 3) (impl_RowsOk_E A c_144 c_193) (impl_RowsOk_L A c_144 c_193 n) 0 Go.Proofs.Try.f128 ⟨[(0, .arr (.vecs 161 2 l1)), (5, .arr (.vecs 161 2 t52)), (6, .int .i64 t63), (7, .int .i64 t74)], []⟩ K := by kernel_rfl
theorem impl_RowsOk_ok (A : PM.Prims) (c_144 : impl_isCell_T) (c_193 : impl_isValue_T) (l : List (List Int)) (k : PM.V → PM.R) : PM.pfun A cx [] (impl_RowsOk_E A c_144 c_193) Go.Proofs.Try.f128 [.arr (.vecs 161 2 l)] k = impl_RowsOk_f A c_144 c_193 l (fun r0 => k (.bool r0)) := by kernel_rfl

theorem impl_RowsOk_fn : PM.FnIs Try.prog 128 Try.f128 := .of Try.func128 (by kernel_rfl) (by kernel_rfl)
theorem impl_RowsOk_g : PM.GOk Try.prog cx 128 ⟨[], impl_RowsOk_w (impl_RowsOk PM.std), none⟩ := by
  refine ⟨impl_RowsOk_fn.enter, fun _ ds k r h => ?_, fun hm => absurd rfl hm, fun _ e => (by cases e)⟩
  change impl_RowsOk_w (impl_RowsOk PM.std) ds k = some r at h
  unfold impl_RowsOk_w at h
  split at h
  · exact PM.pfun_ok (E := impl_RowsOk_E PM.std (impl_isCell PM.std) (impl_isValue PM.std)) (L := fun n => impl_RowsOk_L PM.std (impl_isCell PM.std) (impl_isValue PM.std) n) (N := PM.std.fuel) cx_ok (.cons impl_isCell_g (.cons impl_isValue_g .nil)) mixed .nil impl_RowsOk_fn (by kernel_rfl) ⟨rfl, fun cur σ K => by
      dsimp only [impl_RowsOk_L]
      split <;> rfl, fun n cur σ K r h => by
      dsimp only [impl_RowsOk_L] at h
      split at h
      · exact (impl_RowsOk_l0_ok PM.std (impl_isCell PM.std) (impl_isValue PM.std) n _ _ _ _ K).symm.trans h
      · cases h⟩
      ((impl_RowsOk_ok PM.std (impl_isCell PM.std) (impl_isValue PM.std) _ k).trans h)
  · cases h

abbrev impl_FamOk_T := (List Int) → (List Int) → (List (List Int)) → (List (List PM.C)) → (List Int) → ((Bool) → PM.R) → PM.R
noncomputable def impl_FamOk_w (c : impl_FamOk_T) (ds : List PM.V) (k : PM.V → PM.R) : PM.R :=
  match ds with
  | [.agg [.arr (.ints 3 .i64 s_Cells), .arr (.ints 3 .i64 s_Regs), .arr (.vecs 161 2 s_Writes), .arr (.rows 233 s_Kids), .arr (.ints 3 .i64 s_Acts)]] => c s_Cells s_Regs s_Writes s_Kids s_Acts (fun r0 => k (.bool r0))
  | _ => none
noncomputable def impl_FamOk_l0 (A : PM.Prims) (c_134 : impl_within_T) (c_128 : impl_RowsOk_T) (c_97 : impl_areValues_T) (c_166 : impl_KidOk_T) : Nat → (List (List C)) → (Int) → (Int) → (List Int) → (List Int) → (List (List Int)) → (List (List C)) → (List Int) → ((Bool) → PM.R) → ((List Int) → (List Int) → (List (List Int)) → (List (List C)) → (List Int) → PM.R) → PM.R
  | 0, _, _, _, _, _, _, _, _, _, _ => none
  | n + 1, t61, t72, t83, o04, o05, o06, o07, o08, kret_0, kx0_0 =>
    bif (A.lt t83 t72) then
      bif (A.inb t83 (A.rlen t61)) then
        c_166 (A.rsv 4 t61 t83 0) (fun r9 =>
          bif (A.not r9) then
            kret_0 false
          else
            impl_FamOk_l0 A c_134 c_128 c_97 c_166 n t61 t72 (A.add .i64 t83 1) o04 o05 o06 o07 o08 kret_0 kx0_0)
      else
        none
    else
      kx0_0 o04 o05 o06 o07 o08
noncomputable def impl_FamOk_f (A : PM.Prims) (c_134 : impl_within_T) (c_128 : impl_RowsOk_T) (c_97 : impl_areValues_T) (c_166 : impl_KidOk_T) (s_Cells : List Int) (s_Regs : List Int) (s_Writes : List (List Int)) (s_Kids : List (List PM.C)) (s_Acts : List Int) (k : (Bool) → PM.R) : PM.R :=
  impl_FamOk_l0 A c_134 c_128 c_97 c_166 A.fuel s_Kids (A.rlen s_Kids) 0 s_Cells s_Regs s_Writes s_Kids s_Acts (fun t21016 =>
    k t21016) (fun o01117 o01218 o01319 o01420 o01521 =>
    c_97 o01117 8 (fun r22 =>
      bif r22 then
        c_97 o01218 4 (fun r23 =>
          bif r23 then
            c_128 o01319 (fun r24 =>
              bif r24 then
                c_134 (A.rlen o01420) 1 3 (fun r25 =>
                  bif r25 then
                    k (A.le (A.ilen o01521) 300)
                  else
                    k false)
              else
                k false)
          else
            k false)
      else
        k false))
noncomputable def impl_FamOk (A : PM.Prims) : impl_FamOk_T := impl_FamOk_f A (impl_within A) (impl_RowsOk A) (impl_areValues A) (impl_KidOk A)
noncomputable def impl_FamOk_L (A : PM.Prims) (c_134 : impl_within_T) (c_128 : impl_RowsOk_T) (c_97 : impl_areValues_T) (c_166 : impl_KidOk_T) (n : Nat) : PM.Lam := fun cur σ K =>
  match cur, σ, K with
  | 0, ⟨[(1, .pbox 0 0), (6, .arr (.rows 233 t61)), (7, .int .i64 t72), (8, .int .i64 t83)], [(0, .box [.arr (.ints 3 .i64 o04), .arr (.ints 3 .i64 o05), .arr (.vecs 161 2 o06), .arr (.rows 233 o07), .arr (.ints 3 .i64 o08)])]⟩, K => impl_FamOk_l0 A c_134 c_128 c_97 c_166 n t61 t72 t83 o04 o05 o06 o07 o08 (fun t210 => K .ret ⟨[(2, .bool t210)], []⟩) (fun o011 o012 o013 o014 o015 => K (.exit 0) ⟨[(1, .pbox 0 0)], [(0, .box [.arr (.ints 3 .i64 o011), .arr (.ints 3 .i64 o012), .arr (.vecs 161 2 o013), .arr (.rows 233 o014), .arr (.ints 3 .i64 o015)])]⟩)
  | _, _, _ => none
noncomputable def impl_FamOk_E (A : PM.Prims) (c_134 : impl_within_T) (c_128 : impl_RowsOk_T) (c_97 : impl_areValues_T) (c_166 : impl_KidOk_T) : PM.Env := ⟨[(134, ⟨[], impl_within_w c_134, none⟩), (128, ⟨[], impl_RowsOk_w c_128, none⟩), (97, ⟨[], impl_areValues_w c_97, none⟩), (166, ⟨[], impl_KidOk_w c_166, none⟩)], [], [(0, [1, 6, 7, 8], [1, 2])], [(0, [1]), (1, [1, 6, 7, 8]), (2, [1, 6, 7, 8, 9]), (3, [1, 4, 6, 7, 8]), (4, [1, 6, 7, 8, 15]), (5, [2]), (6, [1, 6, 7, 8]), (7, [2])], impl_FamOk_L A c_134 c_128 c_97 c_166 A.fuel⟩
theorem impl_FamOk_l0_ok (A : PM.Prims) (c_134 : impl_within_T) (c_128 : impl_RowsOk_T) (c_97 : impl_areValues_T) (c_166 : impl_KidOk_T) (n : Nat) (t61 : List (List C)) (t72 : Int) (t83 : Int) (o04 : List Int) (o05 : List Int) (o06 : List (List Int)) (o07 : List (List C)) (o08 : List Int) (K : Go.Exit → PM.S → PM.R) : impl_FamOk_L A c_134 c_128 c_97 c_166 (n + 1) 0 ⟨[(1, .pbox 0 0), (6, .arr (.rows 233 t61)), (7, .int .i64 t72), (8, .int .i64 t83)], [(0, .box [.arr (.ints 3 .i64 o04), .arr (.ints 3 .i64 o05), .arr (.vecs 161 2 o06), .arr (.rows 233 o07), .arr (.ints 3 .i64 o08)])]⟩ K = PM.roundF A cx (PM.runD A cx (impl_FamOk_E A c_134 c_128 c_97 c_166).inl (impl_FamOk_E A c_134 c_128 c_97 c_166).Γ 3) (impl_FamOk_E A c_134 c_128 c_97 c_166) (impl_FamOk_L A c_134 c_128 c_97 c_166 n) 0 Go.Proofs.Try.f75 ⟨[(1, .pbox 0 0), (6, .arr (.rows 233 t61)), (7, .int .i64 t72), (8, .int .i64 t83)], [(0, .box [.arr (.ints 3 .i64 o04), .arr (.ints 3 .i64 o05), .arr (.vecs 161 2 o06), .arr (.rows 233 o07), .arr (.ints 3 .i64 o08)])]⟩ K := by kernel_rfl
theorem impl_FamOk_ok (A : PM.Prims) (c_134 : impl_within_T) (c_128 : impl_RowsOk_T) (c_97 : impl_areValues_T) (c_166 : impl_KidOk_T) (s_Cells : List Int) (s_Regs : List Int) (s_Writes : List (List Int)) (s_Kids : List (List PM.C)) (s_Acts : List Int) (k : PM.V → PM.R) : PM.pfun A cx [] (impl_FamOk_E A c_134 c_128 c_97 c_166) Go.Proofs.Try.f75 [.agg [.arr (.ints 3 .i64 s_Cells), .arr (.ints 3 .i64 s_Regs), .arr (.vecs 161 2 s_Writes), .arr (.rows 233 s_Kids), .arr (.ints 3 .i64 s_Acts)]] k = impl_FamOk_f A c_134 c_128 c_97 c_166 s_Cells s_Regs s_Writes s_Kids s_Acts (fun r0 => k (.bool r0)) := by kernel_rfl

theorem impl_FamOk_fn : PM.FnIs Try.prog 75 Try.f75 := .of Try.func75 (by kernel_rfl) (by kernel_rfl)
theorem impl_FamOk_g : PM.GOk Try.prog cx 75 ⟨[], impl_FamOk_w (impl_FamOk PM.std), none⟩ := by
  refine ⟨impl_FamOk_fn.enter, fun _ ds k r h => ?_, fun hm => absurd rfl hm, fun _ e => (by cases e)⟩
  change impl_FamOk_w (impl_FamOk PM.std) ds k = some r at h
  unfold impl_FamOk_w at h
  split at h
  · exact PM.pfun_ok (E := impl_FamOk_E PM.std (impl_within PM.std) (impl_RowsOk PM.std) (impl_areValues PM.std) (impl_KidOk PM.std)) (L := fun n => impl_FamOk_L PM.std (impl_within PM.std) (impl_RowsOk PM.std) (impl_areValues PM.std) (impl_KidOk PM.std) n) (N := PM.std.fuel) cx_ok (.cons impl_within_g (.cons impl_RowsOk_g (.cons impl_areValues_g (.cons impl_KidOk_g .nil)))) mixed .nil impl_FamOk_fn (by kernel_rfl) ⟨rfl, fun cur σ K => by
      dsimp only [impl_FamOk_L]
      split <;> rfl, fun n cur σ K r h => by
      dsimp only [impl_FamOk_L] at h
      split at h
      · exact (impl_FamOk_l0_ok PM.std (impl_within PM.std) (impl_RowsOk PM.std) (impl_areValues PM.std) (impl_KidOk PM.std) n _ _ _ _ _ _ _ _ K).symm.trans h
      · cases h⟩
      ((impl_FamOk_ok PM.std (impl_within PM.std) (impl_RowsOk PM.std) (impl_areValues PM.std) (impl_KidOk PM.std) _ _ _ _ _ k).trans h)
  · cases h

abbrev impl_copyInts_T := (List Int) → ((List Int) → PM.R) → PM.R
noncomputable def impl_copyInts_w (c : impl_copyInts_T) (ds : List PM.V) (k : PM.V → PM.R) : PM.R :=
  match ds with
  | [.arr (.ints 3 .i64 l)] => c l (fun r0 => k (.arr (.ints 3 .i64 r0)))
  | _ => none
noncomputable def impl_copyInts_f (A : PM.Prims) (l : List Int) (k : (List Int) → PM.R) : PM.R :=
  bif (A.room (A.ilen []) (A.ilen l)) then
    k (A.iapp [] l)
  else
    none
noncomputable def impl_copyInts (A : PM.Prims) : impl_copyInts_T := impl_copyInts_f A
noncomputable def impl_copyInts_L (A : PM.Prims) (n : Nat) : PM.Lam := fun cur σ K =>
  match cur, σ, K with
  | _, _, _ => none
noncomputable def impl_copyInts_E (A : PM.Prims) : PM.Env := ⟨[], [], [], [(0, [0]), (1, [2])], impl_copyInts_L A A.fuel⟩
theorem impl_copyInts_ok (A : PM.Prims) (l : List Int) (k : PM.V → PM.R) : PM.pfun A cx [] (impl_copyInts_E A) Go.Proofs.Try.f101 [.arr (.ints 3 .i64 l)] k = impl_copyInts_f A l (fun r0 => k (.arr (.ints 3 .i64 r0))) := by kernel_rfl

theorem impl_copyInts_fn : PM.FnIs Try.prog 101 Try.f101 := .of Try.func101 (by kernel_rfl) (by kernel_rfl)
theorem impl_copyInts_g : PM.GOk Try.prog cx 101 ⟨[], impl_copyInts_w (impl_copyInts PM.std), none⟩ := by
  refine ⟨impl_copyInts_fn.enter, fun _ ds k r h => ?_, fun hm => absurd rfl hm, fun _ e => (by cases e)⟩
  change impl_copyInts_w (impl_copyInts PM.std) ds k = some r at h
  unfold impl_copyInts_w at h
  split at h
  · exact PM.pfun_ok (E := impl_copyInts_E PM.std) (L := fun n => impl_copyInts_L PM.std n) (N := PM.std.fuel) cx_ok .nil mixed .nil impl_copyInts_fn (by kernel_rfl) ⟨rfl, fun _ _ _ => rfl, fun n cur σ K r h => by cases h⟩
      ((impl_copyInts_ok PM.std _ k).trans h)
  · cases h

abbrev impl_Overlay_T := (List Int) → (List (List Int)) → ((List Int) → PM.R) → PM.R
noncomputable def impl_Overlay_w (c : impl_Overlay_T) (ds : List PM.V) (k : PM.V → PM.R) : PM.R :=
  match ds with
  | [.arr (.ints 3 .i64 cells), .arr (.vecs 161 2 l)] => c cells l (fun r0 => k (.arr (.ints 3 .i64 r0)))
  | _ => none
noncomputable def impl_Overlay_l0 (A : PM.Prims) (c_128 : impl_RowsOk_T) (c_97 : impl_areValues_T) (c_101 : impl_copyInts_T) : Nat → (List (List Int)) → (Int) → (Int) → (List Int) → ((List Int) → PM.R) → PM.R
  | 0, _, _, _, _, _ => none
  | n + 1, t184, t195, t206, o07, kx0_0 =>
    bif (A.lt t206 t195) then
      bif (A.inb t206 (A.vlen t184)) then
        bif (A.inb (A.vget t184 t206 0) (A.ilen o07)) then
          impl_Overlay_l0 A c_128 c_97 c_101 n t184 t195 (A.add .i64 t206 1) (A.iset o07 (A.vget t184 t206 0) (A.vget t184 t206 1)) kx0_0
        else
          none
      else
        none
    else
      kx0_0 o07
noncomputable def impl_Overlay_f (A : PM.Prims) (c_128 : impl_RowsOk_T) (c_97 : impl_areValues_T) (c_101 : impl_copyInts_T) (cells : List Int) (l : List (List Int)) (k : (List Int) → PM.R) : PM.R :=
  c_97 cells 8 (fun r1 =>
    bif (A.not r1) then
      k []
    else
      c_128 l (fun r2 =>
        bif (A.not r2) then
          k []
        else
          c_101 cells (fun r3 =>
            impl_Overlay_l0 A c_128 c_97 c_101 A.fuel l (A.vlen l) 0 r3 (fun o089 =>
              k o089))))
noncomputable def impl_Overlay (A : PM.Prims) : impl_Overlay_T := impl_Overlay_f A (impl_RowsOk A) (impl_areValues A) (impl_copyInts A)
noncomputable def impl_Overlay_L (A : PM.Prims) (c_128 : impl_RowsOk_T) (c_97 : impl_areValues_T) (c_101 : impl_copyInts_T) (n : Nat) : PM.Lam := fun cur σ K =>
  match cur, σ, K with
  | 0, ⟨[(5, .sref 0), (18, .arr (.vecs 161 2 t184)), (19, .int .i64 t195), (20, .int .i64 t206)], [(0, .arr true (.ints 3 .i64 o07))]⟩, K => impl_Overlay_l0 A c_128 c_97 c_101 n t184 t195 t206 o07 (fun o08 => K (.exit 0) ⟨[(5, .sref 0)], [(0, .arr true (.ints 3 .i64 o08))]⟩)
  | _, _, _ => none
noncomputable def impl_Overlay_E (A : PM.Prims) (c_128 : impl_RowsOk_T) (c_97 : impl_areValues_T) (c_101 : impl_copyInts_T) : PM.Env := ⟨[(128, ⟨[], impl_RowsOk_w c_128, none⟩), (97, ⟨[], impl_areValues_w c_97, none⟩), (101, ⟨[], impl_copyInts_w c_101, none⟩)], [], [(0, [5, 18, 19, 20], [4, 5])], [(0, [0, 1]), (1, [0, 1, 15]), (2, [4]), (3, [1, 5]), (4, [5, 18, 19, 20]), (5, [5, 18, 19, 20, 21]), (6, [5, 7, 18, 19, 20]), (7, [5, 18, 19, 20]), (8, [5, 18, 19, 20]), (9, [4])], impl_Overlay_L A c_128 c_97 c_101 A.fuel⟩
theorem impl_Overlay_l0_ok (A : PM.Prims) (c_128 : impl_RowsOk_T) (c_97 : impl_areValues_T) (c_101 : impl_copyInts_T) (n : Nat) (t184 : List (List Int)) (t195 : Int) (t206 : Int) (o07 : List Int) (K : Go.Exit → PM.S → PM.R) : impl_Overlay_L A c_128 c_97 c_101 (n + 1) 0 ⟨[(5, .sref 0), (18, .arr (.vecs 161 2 t184)), (19, .int .i64 t195), (20, .int .i64 t206)], [(0, .arr true (.ints 3 .i64 o07))]⟩ K = PM.roundF A cx (PM.runD A cx (impl_Overlay_E A c_128 c_97 c_101).inl (impl_Overlay_E A c_128 c_97 c_101).Γ 3) (impl_Overlay_E A c_128 c_97 c_101) (impl_Overlay_L A c_128 c_97 c_101 n) 0 Go.Proofs.Try.f102 ⟨[(5, .sref 0), (18, .arr (.vecs 161 2 t184)), (19, .int .i64 t195), (20, .int .i64 t206)], [(0, .arr true (.ints 3 .i64 o07))]⟩ K := by kernel_rfl
theorem impl_Overlay_ok (A : PM.Prims) (c_128 : impl_RowsOk_T) (c_97 : impl_areValues_T) (c_101 : impl_copyInts_T) (cells : List Int) (l : List (List Int)) (k : PM.V → PM.R) : PM.pfun A cx [] (impl_Overlay_E A c_128 c_97 c_101) Go.Proofs.Try.f102 [.arr (.ints 3 .i64 cells), .arr (.vecs 161 2 l)] k = impl_Overlay_f A c_128 c_97 c_101 cells l (fun r0 => k (.arr (.ints 3 .i64 r0))) := by kernel_rfl

theorem impl_Overlay_fn : PM.FnIs Try.prog 102 Try.f102 := .of Try.func102 (by kernel_rfl) (by kernel_rfl)
theorem impl_Overlay_g : PM.GOk Try.prog cx 102 ⟨[], impl_Overlay_w (impl_Overlay PM.std), none⟩ := by
  refine ⟨impl_Overlay_fn.enter, fun _ ds k r h => ?_, fun hm => absurd rfl hm, fun _ e => (by cases e)⟩
  change impl_Overlay_w (impl_Overlay PM.std) ds k = some r at h
  unfold impl_Overlay_w at h
  split at h
  · exact PM.pfun_ok (E := impl_Overlay_E PM.std (impl_RowsOk PM.std) (impl_areValues PM.std) (impl_copyInts PM.std)) (L := fun n => impl_Overlay_L PM.std (impl_RowsOk PM.std) (impl_areValues PM.std) (impl_copyInts PM.std) n) (N := PM.std.fuel) cx_ok (.cons impl_RowsOk_g (.cons impl_areValues_g (.cons impl_copyInts_g .nil))) mixed .nil impl_Overlay_fn (by kernel_rfl) ⟨rfl, fun cur σ K => by
      dsimp only [impl_Overlay_L]
      split <;> rfl, fun n cur σ K r h => by
      dsimp only [impl_Overlay_L] at h
      split at h
      · exact (impl_Overlay_l0_ok PM.std (impl_RowsOk PM.std) (impl_areValues PM.std) (impl_copyInts PM.std) n _ _ _ _ K).symm.trans h
      · cases h⟩
      ((impl_Overlay_ok PM.std (impl_RowsOk PM.std) (impl_areValues PM.std) (impl_copyInts PM.std) _ _ k).trans h)
  · cases h

abbrev laws_eqIntS_T := (List Int) → (List Int) → ((Bool) → PM.R) → PM.R
noncomputable def laws_eqIntS_w (c : laws_eqIntS_T) (ds : List PM.V) (k : PM.V → PM.R) : PM.R :=
  match ds with
  | [.arr (.ints 3 .i64 a), .arr (.ints 3 .i64 b)] => c a b (fun r0 => k (.bool r0))
  | _ => none
noncomputable def laws_eqIntS_l0 (A : PM.Prims) : Nat → (List Int) → (List Int) → (Int) → ((Bool) → PM.R) → (Unit → PM.R) → PM.R
  | 0, _, _, _, _, _ => none
  | n + 1, a1, b2, i3, kret_0, kx0_0 =>
    bif (A.lt i3 (A.ilen a1)) then
      bif (A.inb i3 (A.ilen a1)) then
        bif (A.inb i3 (A.ilen b2)) then
          bif (A.not (A.eq (A.iget a1 i3) (A.iget b2 i3))) then
            kret_0 false
          else
            laws_eqIntS_l0 A n a1 b2 (A.add .i64 i3 1) kret_0 kx0_0
        else
          none
      else
        none
    else
      kx0_0 ()
noncomputable def laws_eqIntS_f (A : PM.Prims) (a : List Int) (b : List Int) (k : (Bool) → PM.R) : PM.R :=
  bif (A.not (A.eq (A.ilen a) (A.ilen b))) then
    k false
  else
    laws_eqIntS_l0 A A.fuel a b 0 (fun t445 =>
      k t445) (fun _ =>
      k true)
noncomputable def laws_eqIntS (A : PM.Prims) : laws_eqIntS_T := laws_eqIntS_f A
noncomputable def laws_eqIntS_L (A : PM.Prims) (n : Nat) : PM.Lam := fun cur σ K =>
  match cur, σ, K with
  | 0, ⟨[(0, .arr (.ints 3 .i64 a1)), (1, .arr (.ints 3 .i64 b2)), (5, .int .i64 i3)], []⟩, K => laws_eqIntS_l0 A n a1 b2 i3 (fun t44 => K .ret ⟨[(4, .bool t44)], []⟩) (fun _ => K (.exit 0) ⟨[], []⟩)
  | _, _, _ => none
noncomputable def laws_eqIntS_E (A : PM.Prims) : PM.Env := ⟨[], [], [(0, [0, 1, 5], [4])], [(0, [0, 1]), (1, [0, 1, 10]), (2, [4]), (3, [0, 1, 5]), (4, [0, 1, 5, 14]), (5, [0, 1, 5]), (6, [0, 1, 5, 25]), (7, [4]), (8, [4])], laws_eqIntS_L A A.fuel⟩
theorem laws_eqIntS_l0_ok (A : PM.Prims) (n : Nat) (a1 : List Int) (b2 : List Int) (i3 : Int) (K : Go.Exit → PM.S → PM.R) : laws_eqIntS_L A (n + 1) 0 ⟨[(0, .arr (.ints 3 .i64 a1)), (1, .arr (.ints 3 .i64 b2)), (5, .int .i64 i3)], []⟩ K = PM.roundF A cx (PM.runD A cx (laws_eqIntS_E A).inl (laws_eqIntS_E A).Γ 3) (laws_eqIntS_E A) (laws_eqIntS_L A n) 0 Go.Proofs.Try.f40 ⟨[(0, .arr (.ints 3 .i64 a1)), (1, .arr (.ints 3 .i64 b2)), (5, .int .i64 i3)], []⟩ K := by kernel_rfl
theorem laws_eqIntS_ok (A : PM.Prims) (a : List Int) (b : List Int) (k : PM.V → PM.R) : PM.pfun A cx [] (laws_eqIntS_E A) Go.Proofs.Try.f40 [.arr (.ints 3 .i64 a), .arr (.ints 3 .i64 b)] k = laws_eqIntS_f A a b (fun r0 => k (.bool r0)) := by kernel_rfl

theorem laws_eqIntS_fn : PM.FnIs Try.prog 40 Try.f40 := .of Try.func40 (by kernel_rfl) (by kernel_rfl)
theorem laws_eqIntS_g : PM.GOk Try.prog cx 40 ⟨[], laws_eqIntS_w (laws_eqIntS PM.std), none⟩ := by
  refine ⟨laws_eqIntS_fn.enter, fun _ ds k r h => ?_, fun hm => absurd rfl hm, fun _ e => (by cases e)⟩
  change laws_eqIntS_w (laws_eqIntS PM.std) ds k = some r at h
  unfold laws_eqIntS_w at h
  split at h
  · exact PM.pfun_ok (E := laws_eqIntS_E PM.std) (L := fun n => laws_eqIntS_L PM.std n) (N := PM.std.fuel) cx_ok .nil mixed .nil laws_eqIntS_fn (by kernel_rfl) ⟨rfl, fun cur σ K => by
      dsimp only [laws_eqIntS_L]
      split <;> rfl, fun n cur σ K r h => by
      dsimp only [laws_eqIntS_L] at h
      split at h
      · exact (laws_eqIntS_l0_ok PM.std n _ _ _ K).symm.trans h
      · cases h⟩
      ((laws_eqIntS_ok PM.std _ _ k).trans h)
  · cases h

abbrev laws_eqRow_T := (Int) → (Int) → (Int) → (Int) → ((Bool) → PM.R) → PM.R
noncomputable def laws_eqRow_w (c : laws_eqRow_T) (ds : List PM.V) (k : PM.V → PM.R) : PM.R :=
  match ds with
  | [.agg [.int .i64 a_Cell, .int .i64 a_Val], .agg [.int .i64 b_Cell, .int .i64 b_Val]] => c a_Cell a_Val b_Cell b_Val (fun r0 => k (.bool r0))
  | _ => none
noncomputable def laws_eqRow_f (A : PM.Prims) (a_Cell : Int) (a_Val : Int) (b_Cell : Int) (b_Val : Int) (k : (Bool) → PM.R) : PM.R :=
  bif (A.not (A.eq a_Cell b_Cell)) then
    k false
  else
    bif (A.not (A.eq a_Val b_Val)) then
      k false
    else
      k true
noncomputable def laws_eqRow (A : PM.Prims) : laws_eqRow_T := laws_eqRow_f A
noncomputable def laws_eqRow_L (A : PM.Prims) (n : Nat) : PM.Lam := fun cur σ K =>
  match cur, σ, K with
  | _, _, _ => none
noncomputable def laws_eqRow_E (A : PM.Prims) : PM.Env := ⟨[], [], [], [(0, [2, 3]), (1, [2, 3, 9]), (2, [4]), (3, [14]), (4, [4]), (5, [4])], laws_eqRow_L A A.fuel⟩
theorem laws_eqRow_ok (A : PM.Prims) (a_Cell : Int) (a_Val : Int) (b_Cell : Int) (b_Val : Int) (k : PM.V → PM.R) : PM.pfun A cx [] (laws_eqRow_E A) Go.Proofs.Try.f159 [.agg [.int .i64 a_Cell, .int .i64 a_Val], .agg [.int .i64 b_Cell, .int .i64 b_Val]] k = laws_eqRow_f A a_Cell a_Val b_Cell b_Val (fun r0 => k (.bool r0)) := by kernel_rfl

theorem laws_eqRow_fn : PM.FnIs Try.prog 159 Try.f159 := .of Try.func159 (by kernel_rfl) (by kernel_rfl)
theorem laws_eqRow_g : PM.GOk Try.prog cx 159 ⟨[], laws_eqRow_w (laws_eqRow PM.std), none⟩ := by
  refine ⟨laws_eqRow_fn.enter, fun _ ds k r h => ?_, fun hm => absurd rfl hm, fun _ e => (by cases e)⟩
  change laws_eqRow_w (laws_eqRow PM.std) ds k = some r at h
  unfold laws_eqRow_w at h
  split at h
  · exact PM.pfun_ok (E := laws_eqRow_E PM.std) (L := fun n => laws_eqRow_L PM.std n) (N := PM.std.fuel) cx_ok .nil mixed .nil laws_eqRow_fn (by kernel_rfl) ⟨rfl, fun _ _ _ => rfl, fun n cur σ K r h => by cases h⟩
      ((laws_eqRow_ok PM.std _ _ _ _ k).trans h)
  · cases h

abbrev laws_eqRowS_T := (List (List Int)) → (List (List Int)) → ((Bool) → PM.R) → PM.R
noncomputable def laws_eqRowS_w (c : laws_eqRowS_T) (ds : List PM.V) (k : PM.V → PM.R) : PM.R :=
  match ds with
  | [.arr (.vecs 161 2 a), .arr (.vecs 161 2 b)] => c a b (fun r0 => k (.bool r0))
  | _ => none
noncomputable def laws_eqRowS_l0 (A : PM.Prims) (c_159 : laws_eqRow_T) : Nat → (List (List Int)) → (List (List Int)) → (Int) → ((Bool) → PM.R) → (Unit → PM.R) → PM.R
  | 0, _, _, _, _, _ => none
  | n + 1, a1, b2, i3, kret_0, kx0_0 =>
    bif (A.lt i3 (A.vlen a1)) then
      bif (A.inb i3 (A.vlen a1)) then
        bif (A.inb i3 (A.vlen b2)) then
          c_159 (A.vget a1 i3 0) (A.vget a1 i3 1) (A.vget b2 i3 0) (A.vget b2 i3 1) (fun r4 =>
            bif (A.not r4) then
              kret_0 false
            else
              laws_eqRowS_l0 A c_159 n a1 b2 (A.add .i64 i3 1) kret_0 kx0_0)
        else
          none
      else
        none
    else
      kx0_0 ()
noncomputable def laws_eqRowS_f (A : PM.Prims) (c_159 : laws_eqRow_T) (a : List (List Int)) (b : List (List Int)) (k : (Bool) → PM.R) : PM.R :=
  bif (A.not (A.eq (A.vlen a) (A.vlen b))) then
    k false
  else
    laws_eqRowS_l0 A c_159 A.fuel a b 0 (fun t456 =>
      k t456) (fun _ =>
      k true)
noncomputable def laws_eqRowS (A : PM.Prims) : laws_eqRowS_T := laws_eqRowS_f A (laws_eqRow A)
noncomputable def laws_eqRowS_L (A : PM.Prims) (c_159 : laws_eqRow_T) (n : Nat) : PM.Lam := fun cur σ K =>
  match cur, σ, K with
  | 0, ⟨[(0, .arr (.vecs 161 2 a1)), (1, .arr (.vecs 161 2 b2)), (5, .int .i64 i3)], []⟩, K => laws_eqRowS_l0 A c_159 n a1 b2 i3 (fun t45 => K .ret ⟨[(4, .bool t45)], []⟩) (fun _ => K (.exit 0) ⟨[], []⟩)
  | _, _, _ => none
noncomputable def laws_eqRowS_E (A : PM.Prims) (c_159 : laws_eqRow_T) : PM.Env := ⟨[(159, ⟨[], laws_eqRow_w c_159, none⟩)], [], [(0, [0, 1, 5], [4])], [(0, [0, 1]), (1, [0, 1, 10]), (2, [4]), (3, [0, 1, 5]), (4, [0, 1, 5, 14]), (5, [0, 1, 5]), (6, [0, 1, 5, 26]), (7, [4]), (8, [4])], laws_eqRowS_L A c_159 A.fuel⟩
theorem laws_eqRowS_l0_ok (A : PM.Prims) (c_159 : laws_eqRow_T) (n : Nat) (a1 : List (List Int)) (b2 : List (List Int)) (i3 : Int) (K : Go.Exit → PM.S → PM.R) : laws_eqRowS_L A c_159 (n + 1) 0 ⟨[(0, .arr (.vecs 161 2 a1)), (1, .arr (.vecs 161 2 b2)), (5, .int .i64 i3)], []⟩ K = PM.roundF A cx (PM.runD A cx (laws_eqRowS_E A c_159).inl (laws_eqRowS_E A c_159).Γ 3) (laws_eqRowS_E A c_159) (laws_eqRowS_L A c_159 n) 0 Go.Proofs.Try.f66 ⟨[(0, .arr (.vecs 161 2 a1)), (1, .arr (.vecs 161 2 b2)), (5, .int .i64 i3)], []⟩ K := by kernel_rfl
theorem laws_eqRowS_ok (A : PM.Prims) (c_159 : laws_eqRow_T) (a : List (List Int)) (b : List (List Int)) (k : PM.V → PM.R) : PM.pfun A cx [] (laws_eqRowS_E A c_159) Go.Proofs.Try.f66 [.arr (.vecs 161 2 a), .arr (.vecs 161 2 b)] k = laws_eqRowS_f A c_159 a b (fun r0 => k (.bool r0)) := by kernel_rfl

theorem laws_eqRowS_fn : PM.FnIs Try.prog 66 Try.f66 := .of Try.func66 (by kernel_rfl) (by kernel_rfl)
theorem laws_eqRowS_g : PM.GOk Try.prog cx 66 ⟨[], laws_eqRowS_w (laws_eqRowS PM.std), none⟩ := by
  refine ⟨laws_eqRowS_fn.enter, fun _ ds k r h => ?_, fun hm => absurd rfl hm, fun _ e => (by cases e)⟩
  change laws_eqRowS_w (laws_eqRowS PM.std) ds k = some r at h
  unfold laws_eqRowS_w at h
  split at h
  · exact PM.pfun_ok (E := laws_eqRowS_E PM.std (laws_eqRow PM.std)) (L := fun n => laws_eqRowS_L PM.std (laws_eqRow PM.std) n) (N := PM.std.fuel) cx_ok (.cons laws_eqRow_g .nil) mixed .nil laws_eqRowS_fn (by kernel_rfl) ⟨rfl, fun cur σ K => by
      dsimp only [laws_eqRowS_L]
      split <;> rfl, fun n cur σ K r h => by
      dsimp only [laws_eqRowS_L] at h
      split at h
      · exact (laws_eqRowS_l0_ok PM.std (laws_eqRow PM.std) n _ _ _ K).symm.trans h
      · cases h⟩
      ((laws_eqRowS_ok PM.std (laws_eqRow PM.std) _ _ k).trans h)
  · cases h

abbrev laws_eqOp_T := (Int) → (Int) → (Int) → (Int) → (Int) → (Int) → (Int) → (Int) → ((Bool) → PM.R) → PM.R
noncomputable def laws_eqOp_w (c : laws_eqOp_T) (ds : List PM.V) (k : PM.V → PM.R) : PM.R :=
  match ds with
  | [.agg [.int .i64 a_Kind, .int .i64 a_A, .int .i64 a_B, .int .i64 a_C], .agg [.int .i64 b_Kind, .int .i64 b_A, .int .i64 b_B, .int .i64 b_C]] => c a_Kind a_A a_B a_C b_Kind b_A b_B b_C (fun r0 => k (.bool r0))
  | _ => none
noncomputable def laws_eqOp_f (A : PM.Prims) (a_Kind : Int) (a_A : Int) (a_B : Int) (a_C : Int) (b_Kind : Int) (b_A : Int) (b_B : Int) (b_C : Int) (k : (Bool) → PM.R) : PM.R :=
  bif (A.not (A.eq a_Kind b_Kind)) then
    k false
  else
    bif (A.not (A.eq a_A b_A)) then
      k false
    else
      bif (A.not (A.eq a_B b_B)) then
        k false
      else
        bif (A.not (A.eq a_C b_C)) then
          k false
        else
          k true
noncomputable def laws_eqOp (A : PM.Prims) : laws_eqOp_T := laws_eqOp_f A
noncomputable def laws_eqOp_L (A : PM.Prims) (n : Nat) : PM.Lam := fun cur σ K =>
  match cur, σ, K with
  | _, _, _ => none
noncomputable def laws_eqOp_E (A : PM.Prims) : PM.Env := ⟨[], [], [], [(0, [2, 3]), (1, [2, 3, 9]), (2, [4]), (3, [2, 3, 14]), (4, [4]), (5, [2, 3, 19]), (6, [4]), (7, [24]), (8, [4]), (9, [4])], laws_eqOp_L A A.fuel⟩
theorem laws_eqOp_ok (A : PM.Prims) (a_Kind : Int) (a_A : Int) (a_B : Int) (a_C : Int) (b_Kind : Int) (b_A : Int) (b_B : Int) (b_C : Int) (k : PM.V → PM.R) : PM.pfun A cx [] (laws_eqOp_E A) Go.Proofs.Try.f320 [.agg [.int .i64 a_Kind, .int .i64 a_A, .int .i64 a_B, .int .i64 a_C], .agg [.int .i64 b_Kind, .int .i64 b_A, .int .i64 b_B, .int .i64 b_C]] k = laws_eqOp_f A a_Kind a_A a_B a_C b_Kind b_A b_B b_C (fun r0 => k (.bool r0)) := by kernel_rfl

theorem laws_eqOp_fn : PM.FnIs Try.prog 320 Try.f320 := .of Try.func320 (by kernel_rfl) (by kernel_rfl)
theorem laws_eqOp_g : PM.GOk Try.prog cx 320 ⟨[], laws_eqOp_w (laws_eqOp PM.std), none⟩ := by
  refine ⟨laws_eqOp_fn.enter, fun _ ds k r h => ?_, fun hm => absurd rfl hm, fun _ e => (by cases e)⟩
  change laws_eqOp_w (laws_eqOp PM.std) ds k = some r at h
  unfold laws_eqOp_w at h
  split at h
  · exact PM.pfun_ok (E := laws_eqOp_E PM.std) (L := fun n => laws_eqOp_L PM.std n) (N := PM.std.fuel) cx_ok .nil mixed .nil laws_eqOp_fn (by kernel_rfl) ⟨rfl, fun _ _ _ => rfl, fun n cur σ K r h => by cases h⟩
      ((laws_eqOp_ok PM.std _ _ _ _ _ _ _ _ k).trans h)
  · cases h

abbrev laws_eqOpS_T := (List (List Int)) → (List (List Int)) → ((Bool) → PM.R) → PM.R
noncomputable def laws_eqOpS_w (c : laws_eqOpS_T) (ds : List PM.V) (k : PM.V → PM.R) : PM.R :=
  match ds with
  | [.arr (.vecs 312 4 a), .arr (.vecs 312 4 b)] => c a b (fun r0 => k (.bool r0))
  | _ => none
noncomputable def laws_eqOpS_l0 (A : PM.Prims) (c_320 : laws_eqOp_T) : Nat → (List (List Int)) → (List (List Int)) → (Int) → ((Bool) → PM.R) → (Unit → PM.R) → PM.R
  | 0, _, _, _, _, _ => none
  | n + 1, a1, b2, i3, kret_0, kx0_0 =>
    bif (A.lt i3 (A.vlen a1)) then
      bif (A.inb i3 (A.vlen a1)) then
        bif (A.inb i3 (A.vlen b2)) then
          c_320 (A.vget a1 i3 0) (A.vget a1 i3 1) (A.vget a1 i3 2) (A.vget a1 i3 3) (A.vget b2 i3 0) (A.vget b2 i3 1) (A.vget b2 i3 2) (A.vget b2 i3 3) (fun r4 =>
            bif (A.not r4) then
              kret_0 false
            else
              laws_eqOpS_l0 A c_320 n a1 b2 (A.add .i64 i3 1) kret_0 kx0_0)
        else
          none
      else
        none
    else
      kx0_0 ()
noncomputable def laws_eqOpS_f (A : PM.Prims) (c_320 : laws_eqOp_T) (a : List (List Int)) (b : List (List Int)) (k : (Bool) → PM.R) : PM.R :=
  bif (A.not (A.eq (A.vlen a) (A.vlen b))) then
    k false
  else
    laws_eqOpS_l0 A c_320 A.fuel a b 0 (fun t456 =>
      k t456) (fun _ =>
      k true)
noncomputable def laws_eqOpS (A : PM.Prims) : laws_eqOpS_T := laws_eqOpS_f A (laws_eqOp A)
noncomputable def laws_eqOpS_L (A : PM.Prims) (c_320 : laws_eqOp_T) (n : Nat) : PM.Lam := fun cur σ K =>
  match cur, σ, K with
  | 0, ⟨[(0, .arr (.vecs 312 4 a1)), (1, .arr (.vecs 312 4 b2)), (5, .int .i64 i3)], []⟩, K => laws_eqOpS_l0 A c_320 n a1 b2 i3 (fun t45 => K .ret ⟨[(4, .bool t45)], []⟩) (fun _ => K (.exit 0) ⟨[], []⟩)
  | _, _, _ => none
noncomputable def laws_eqOpS_E (A : PM.Prims) (c_320 : laws_eqOp_T) : PM.Env := ⟨[(320, ⟨[], laws_eqOp_w c_320, none⟩)], [], [(0, [0, 1, 5], [4])], [(0, [0, 1]), (1, [0, 1, 10]), (2, [4]), (3, [0, 1, 5]), (4, [0, 1, 5, 14]), (5, [0, 1, 5]), (6, [0, 1, 5, 26]), (7, [4]), (8, [4])], laws_eqOpS_L A c_320 A.fuel⟩
theorem laws_eqOpS_l0_ok (A : PM.Prims) (c_320 : laws_eqOp_T) (n : Nat) (a1 : List (List Int)) (b2 : List (List Int)) (i3 : Int) (K : Go.Exit → PM.S → PM.R) : laws_eqOpS_L A c_320 (n + 1) 0 ⟨[(0, .arr (.vecs 312 4 a1)), (1, .arr (.vecs 312 4 b2)), (5, .int .i64 i3)], []⟩ K = PM.roundF A cx (PM.runD A cx (laws_eqOpS_E A c_320).inl (laws_eqOpS_E A c_320).Γ 3) (laws_eqOpS_E A c_320) (laws_eqOpS_L A c_320 n) 0 Go.Proofs.Try.f286 ⟨[(0, .arr (.vecs 312 4 a1)), (1, .arr (.vecs 312 4 b2)), (5, .int .i64 i3)], []⟩ K := by kernel_rfl
theorem laws_eqOpS_ok (A : PM.Prims) (c_320 : laws_eqOp_T) (a : List (List Int)) (b : List (List Int)) (k : PM.V → PM.R) : PM.pfun A cx [] (laws_eqOpS_E A c_320) Go.Proofs.Try.f286 [.arr (.vecs 312 4 a), .arr (.vecs 312 4 b)] k = laws_eqOpS_f A c_320 a b (fun r0 => k (.bool r0)) := by kernel_rfl

theorem laws_eqOpS_fn : PM.FnIs Try.prog 286 Try.f286 := .of Try.func286 (by kernel_rfl) (by kernel_rfl)
theorem laws_eqOpS_g : PM.GOk Try.prog cx 286 ⟨[], laws_eqOpS_w (laws_eqOpS PM.std), none⟩ := by
  refine ⟨laws_eqOpS_fn.enter, fun _ ds k r h => ?_, fun hm => absurd rfl hm, fun _ e => (by cases e)⟩
  change laws_eqOpS_w (laws_eqOpS PM.std) ds k = some r at h
  unfold laws_eqOpS_w at h
  split at h
  · exact PM.pfun_ok (E := laws_eqOpS_E PM.std (laws_eqOp PM.std)) (L := fun n => laws_eqOpS_L PM.std (laws_eqOp PM.std) n) (N := PM.std.fuel) cx_ok (.cons laws_eqOp_g .nil) mixed .nil laws_eqOpS_fn (by kernel_rfl) ⟨rfl, fun cur σ K => by
      dsimp only [laws_eqOpS_L]
      split <;> rfl, fun n cur σ K r h => by
      dsimp only [laws_eqOpS_L] at h
      split at h
      · exact (laws_eqOpS_l0_ok PM.std (laws_eqOp PM.std) n _ _ _ K).symm.trans h
      · cases h⟩
      ((laws_eqOpS_ok PM.std (laws_eqOp PM.std) _ _ k).trans h)
  · cases h

abbrev laws_eqKid_T := (List (List Int)) → (List (List Int)) → ((Bool) → PM.R) → PM.R
noncomputable def laws_eqKid_w (c : laws_eqKid_T) (ds : List PM.V) (k : PM.V → PM.R) : PM.R :=
  match ds with
  | [.agg [.arr (.vecs 312 4 a_Code)], .agg [.arr (.vecs 312 4 b_Code)]] => c a_Code b_Code (fun r0 => k (.bool r0))
  | _ => none
noncomputable def laws_eqKid_f (A : PM.Prims) (c_286 : laws_eqOpS_T) (a_Code : List (List Int)) (b_Code : List (List Int)) (k : (Bool) → PM.R) : PM.R :=
  c_286 a_Code b_Code (fun r1 =>
    bif (A.not r1) then
      k false
    else
      k true)
noncomputable def laws_eqKid (A : PM.Prims) : laws_eqKid_T := laws_eqKid_f A (laws_eqOpS A)
noncomputable def laws_eqKid_L (A : PM.Prims) (c_286 : laws_eqOpS_T) (n : Nat) : PM.Lam := fun cur σ K =>
  match cur, σ, K with
  | _, _, _ => none
noncomputable def laws_eqKid_E (A : PM.Prims) (c_286 : laws_eqOpS_T) : PM.Env := ⟨[(286, ⟨[], laws_eqOpS_w c_286, none⟩)], [], [], [(0, [2, 3]), (1, [10]), (2, [4]), (3, [4])], laws_eqKid_L A c_286 A.fuel⟩
theorem laws_eqKid_ok (A : PM.Prims) (c_286 : laws_eqOpS_T) (a_Code : List (List Int)) (b_Code : List (List Int)) (k : PM.V → PM.R) : PM.pfun A cx [] (laws_eqKid_E A c_286) Go.Proofs.Try.f229 [.agg [.arr (.vecs 312 4 a_Code)], .agg [.arr (.vecs 312 4 b_Code)]] k = laws_eqKid_f A c_286 a_Code b_Code (fun r0 => k (.bool r0)) := by kernel_rfl

theorem laws_eqKid_fn : PM.FnIs Try.prog 229 Try.f229 := .of Try.func229 (by kernel_rfl) (by kernel_rfl)
theorem laws_eqKid_g : PM.GOk Try.prog cx 229 ⟨[], laws_eqKid_w (laws_eqKid PM.std), none⟩ := by
  refine ⟨laws_eqKid_fn.enter, fun _ ds k r h => ?_, fun hm => absurd rfl hm, fun _ e => (by cases e)⟩
  change laws_eqKid_w (laws_eqKid PM.std) ds k = some r at h
  unfold laws_eqKid_w at h
  split at h
  · exact PM.pfun_ok (E := laws_eqKid_E PM.std (laws_eqOpS PM.std)) (L := fun n => laws_eqKid_L PM.std (laws_eqOpS PM.std) n) (N := PM.std.fuel) cx_ok (.cons laws_eqOpS_g .nil) mixed .nil laws_eqKid_fn (by kernel_rfl) ⟨rfl, fun _ _ _ => rfl, fun n cur σ K r h => by cases h⟩
      ((laws_eqKid_ok PM.std (laws_eqOpS PM.std) _ _ k).trans h)
  · cases h

abbrev laws_eqKidS_T := (List (List PM.C)) → (List (List PM.C)) → ((Bool) → PM.R) → PM.R
noncomputable def laws_eqKidS_w (c : laws_eqKidS_T) (ds : List PM.V) (k : PM.V → PM.R) : PM.R :=
  match ds with
  | [.arr (.rows 233 a), .arr (.rows 233 b)] => c a b (fun r0 => k (.bool r0))
  | _ => none
noncomputable def laws_eqKidS_l0 (A : PM.Prims) (c_229 : laws_eqKid_T) : Nat → (List (List C)) → (List (List C)) → (Int) → ((Bool) → PM.R) → (Unit → PM.R) → PM.R
  | 0, _, _, _, _, _ => none
  | n + 1, a1, b2, i3, kret_0, kx0_0 =>
    bif (A.lt i3 (A.rlen a1)) then
      bif (A.inb i3 (A.rlen a1)) then
        bif (A.inb i3 (A.rlen b2)) then
          c_229 (A.rsv 4 a1 i3 0) (A.rsv 4 b2 i3 0) (fun r4 =>
            bif (A.not r4) then
              kret_0 false
            else
              laws_eqKidS_l0 A c_229 n a1 b2 (A.add .i64 i3 1) kret_0 kx0_0)
        else
          none
      else
        none
    else
      kx0_0 ()
noncomputable def laws_eqKidS_f (A : PM.Prims) (c_229 : laws_eqKid_T) (a : List (List PM.C)) (b : List (List PM.C)) (k : (Bool) → PM.R) : PM.R :=
  bif (A.not (A.eq (A.rlen a) (A.rlen b))) then
    k false
  else
    laws_eqKidS_l0 A c_229 A.fuel a b 0 (fun t456 =>
      k t456) (fun _ =>
      k true)
noncomputable def laws_eqKidS (A : PM.Prims) : laws_eqKidS_T := laws_eqKidS_f A (laws_eqKid A)
noncomputable def laws_eqKidS_L (A : PM.Prims) (c_229 : laws_eqKid_T) (n : Nat) : PM.Lam := fun cur σ K =>
  match cur, σ, K with
  | 0, ⟨[(0, .arr (.rows 233 a1)), (1, .arr (.rows 233 b2)), (5, .int .i64 i3)], []⟩, K => laws_eqKidS_l0 A c_229 n a1 b2 i3 (fun t45 => K .ret ⟨[(4, .bool t45)], []⟩) (fun _ => K (.exit 0) ⟨[], []⟩)
  | _, _, _ => none
noncomputable def laws_eqKidS_E (A : PM.Prims) (c_229 : laws_eqKid_T) : PM.Env := ⟨[(229, ⟨[], laws_eqKid_w c_229, none⟩)], [], [(0, [0, 1, 5], [4])], [(0, [0, 1]), (1, [0, 1, 10]), (2, [4]), (3, [0, 1, 5]), (4, [0, 1, 5, 14]), (5, [0, 1, 5]), (6, [0, 1, 5, 26]), (7, [4]), (8, [4])], laws_eqKidS_L A c_229 A.fuel⟩
theorem laws_eqKidS_l0_ok (A : PM.Prims) (c_229 : laws_eqKid_T) (n : Nat) (a1 : List (List C)) (b2 : List (List C)) (i3 : Int) (K : Go.Exit → PM.S → PM.R) : laws_eqKidS_L A c_229 (n + 1) 0 ⟨[(0, .arr (.rows 233 a1)), (1, .arr (.rows 233 b2)), (5, .int .i64 i3)], []⟩ K = PM.roundF A cx (PM.runD A cx (laws_eqKidS_E A c_229).inl (laws_eqKidS_E A c_229).Γ 3) (laws_eqKidS_E A c_229) (laws_eqKidS_L A c_229 n) 0 Go.Proofs.Try.f167 ⟨[(0, .arr (.rows 233 a1)), (1, .arr (.rows 233 b2)), (5, .int .i64 i3)], []⟩ K := by kernel_rfl
theorem laws_eqKidS_ok (A : PM.Prims) (c_229 : laws_eqKid_T) (a : List (List PM.C)) (b : List (List PM.C)) (k : PM.V → PM.R) : PM.pfun A cx [] (laws_eqKidS_E A c_229) Go.Proofs.Try.f167 [.arr (.rows 233 a), .arr (.rows 233 b)] k = laws_eqKidS_f A c_229 a b (fun r0 => k (.bool r0)) := by kernel_rfl

theorem laws_eqKidS_fn : PM.FnIs Try.prog 167 Try.f167 := .of Try.func167 (by kernel_rfl) (by kernel_rfl)
theorem laws_eqKidS_g : PM.GOk Try.prog cx 167 ⟨[], laws_eqKidS_w (laws_eqKidS PM.std), none⟩ := by
  refine ⟨laws_eqKidS_fn.enter, fun _ ds k r h => ?_, fun hm => absurd rfl hm, fun _ e => (by cases e)⟩
  change laws_eqKidS_w (laws_eqKidS PM.std) ds k = some r at h
  unfold laws_eqKidS_w at h
  split at h
  · exact PM.pfun_ok (E := laws_eqKidS_E PM.std (laws_eqKid PM.std)) (L := fun n => laws_eqKidS_L PM.std (laws_eqKid PM.std) n) (N := PM.std.fuel) cx_ok (.cons laws_eqKid_g .nil) mixed .nil laws_eqKidS_fn (by kernel_rfl) ⟨rfl, fun cur σ K => by
      dsimp only [laws_eqKidS_L]
      split <;> rfl, fun n cur σ K r h => by
      dsimp only [laws_eqKidS_L] at h
      split at h
      · exact (laws_eqKidS_l0_ok PM.std (laws_eqKid PM.std) n _ _ _ K).symm.trans h
      · cases h⟩
      ((laws_eqKidS_ok PM.std (laws_eqKid PM.std) _ _ k).trans h)
  · cases h

abbrev laws_eqFamScript_T := (List Int) → (List Int) → (List (List Int)) → (List (List PM.C)) → (List Int) → (List Int) → (List Int) → (List (List Int)) → (List (List PM.C)) → (List Int) → ((Bool) → PM.R) → PM.R
noncomputable def laws_eqFamScript_w (c : laws_eqFamScript_T) (ds : List PM.V) (k : PM.V → PM.R) : PM.R :=
  match ds with
  | [.agg [.arr (.ints 3 .i64 a_Cells), .arr (.ints 3 .i64 a_Regs), .arr (.vecs 161 2 a_Writes), .arr (.rows 233 a_Kids), .arr (.ints 3 .i64 a_Acts)], .agg [.arr (.ints 3 .i64 b_Cells), .arr (.ints 3 .i64 b_Regs), .arr (.vecs 161 2 b_Writes), .arr (.rows 233 b_Kids), .arr (.ints 3 .i64 b_Acts)]] => c a_Cells a_Regs a_Writes a_Kids a_Acts b_Cells b_Regs b_Writes b_Kids b_Acts (fun r0 => k (.bool r0))
  | _ => none
noncomputable def laws_eqFamScript_f (A : PM.Prims) (c_40 : laws_eqIntS_T) (c_66 : laws_eqRowS_T) (c_167 : laws_eqKidS_T) (a_Cells : List Int) (a_Regs : List Int) (a_Writes : List (List Int)) (a_Kids : List (List PM.C)) (a_Acts : List Int) (b_Cells : List Int) (b_Regs : List Int) (b_Writes : List (List Int)) (b_Kids : List (List PM.C)) (b_Acts : List Int) (k : (Bool) → PM.R) : PM.R :=
  c_40 a_Cells b_Cells (fun r1 =>
    bif (A.not r1) then
      k false
    else
      c_40 a_Regs b_Regs (fun r2 =>
        bif (A.not r2) then
          k false
        else
          c_66 a_Writes b_Writes (fun r3 =>
            bif (A.not r3) then
              k false
            else
              c_167 a_Kids b_Kids (fun r4 =>
                bif (A.not r4) then
                  k false
                else
                  c_40 a_Acts b_Acts (fun r5 =>
                    bif (A.not r5) then
                      k false
                    else
                      k true)))))
noncomputable def laws_eqFamScript (A : PM.Prims) : laws_eqFamScript_T := laws_eqFamScript_f A (laws_eqIntS A) (laws_eqRowS A) (laws_eqKidS A)
noncomputable def laws_eqFamScript_L (A : PM.Prims) (c_40 : laws_eqIntS_T) (c_66 : laws_eqRowS_T) (c_167 : laws_eqKidS_T) (n : Nat) : PM.Lam := fun cur σ K =>
  match cur, σ, K with
  | _, _, _ => none
noncomputable def laws_eqFamScript_E (A : PM.Prims) (c_40 : laws_eqIntS_T) (c_66 : laws_eqRowS_T) (c_167 : laws_eqKidS_T) : PM.Env := ⟨[(40, ⟨[], laws_eqIntS_w c_40, none⟩), (66, ⟨[], laws_eqRowS_w c_66, none⟩), (167, ⟨[], laws_eqKidS_w c_167, none⟩)], [], [], [(0, [2, 3]), (1, [2, 3, 10]), (2, [4]), (3, [2, 3, 16]), (4, [4]), (5, [2, 3, 22]), (6, [4]), (7, [2, 3, 28]), (8, [4]), (9, [34]), (10, [4]), (11, [4])], laws_eqFamScript_L A c_40 c_66 c_167 A.fuel⟩
theorem laws_eqFamScript_ok (A : PM.Prims) (c_40 : laws_eqIntS_T) (c_66 : laws_eqRowS_T) (c_167 : laws_eqKidS_T) (a_Cells : List Int) (a_Regs : List Int) (a_Writes : List (List Int)) (a_Kids : List (List PM.C)) (a_Acts : List Int) (b_Cells : List Int) (b_Regs : List Int) (b_Writes : List (List Int)) (b_Kids : List (List PM.C)) (b_Acts : List Int) (k : PM.V → PM.R) : PM.pfun A cx [] (laws_eqFamScript_E A c_40 c_66 c_167) Go.Proofs.Try.f76 [.agg [.arr (.ints 3 .i64 a_Cells), .arr (.ints 3 .i64 a_Regs), .arr (.vecs 161 2 a_Writes), .arr (.rows 233 a_Kids), .arr (.ints 3 .i64 a_Acts)], .agg [.arr (.ints 3 .i64 b_Cells), .arr (.ints 3 .i64 b_Regs), .arr (.vecs 161 2 b_Writes), .arr (.rows 233 b_Kids), .arr (.ints 3 .i64 b_Acts)]] k = laws_eqFamScript_f A c_40 c_66 c_167 a_Cells a_Regs a_Writes a_Kids a_Acts b_Cells b_Regs b_Writes b_Kids b_Acts (fun r0 => k (.bool r0)) := by kernel_rfl

theorem laws_eqFamScript_fn : PM.FnIs Try.prog 76 Try.f76 := .of Try.func76 (by kernel_rfl) (by kernel_rfl)
theorem laws_eqFamScript_g : PM.GOk Try.prog cx 76 ⟨[], laws_eqFamScript_w (laws_eqFamScript PM.std), none⟩ := by
  refine ⟨laws_eqFamScript_fn.enter, fun _ ds k r h => ?_, fun hm => absurd rfl hm, fun _ e => (by cases e)⟩
  change laws_eqFamScript_w (laws_eqFamScript PM.std) ds k = some r at h
  unfold laws_eqFamScript_w at h
  split at h
  · exact PM.pfun_ok (E := laws_eqFamScript_E PM.std (laws_eqIntS PM.std) (laws_eqRowS PM.std) (laws_eqKidS PM.std)) (L := fun n => laws_eqFamScript_L PM.std (laws_eqIntS PM.std) (laws_eqRowS PM.std) (laws_eqKidS PM.std) n) (N := PM.std.fuel) cx_ok (.cons laws_eqIntS_g (.cons laws_eqRowS_g (.cons laws_eqKidS_g .nil))) mixed .nil laws_eqFamScript_fn (by kernel_rfl) ⟨rfl, fun _ _ _ => rfl, fun n cur σ K r h => by cases h⟩
      ((laws_eqFamScript_ok PM.std (laws_eqIntS PM.std) (laws_eqRowS PM.std) (laws_eqKidS PM.std) _ _ _ _ _ _ _ _ _ _ k).trans h)
  · cases h

abbrev laws_markIntS_T := (List Int) → (Int) → ((Int) → (List Int) → PM.R) → PM.R
noncomputable def laws_markIntS_w (c : laws_markIntS_T) (ds : List PM.V) (k : PM.V → PM.R) : PM.R :=
  match ds with
  | [.arr (.ints 3 .i64 a), .int .i64 k_] => c a k_ (fun r0 o0 => k (.tup [.int .i64 r0, .arr (.ints 3 .i64 o0)]))
  | _ => none
noncomputable def laws_markIntS_l0 (A : PM.Prims) : Nat → (Int) → (Int) → (List Int) → ((Int) → (List Int) → PM.R) → PM.R
  | 0, _, _, _, _ => none
  | n + 1, k1, i2, o03, kx0_0 =>
    bif (A.lt i2 (A.ilen o03)) then
      bif (A.inb i2 (A.ilen o03)) then
        laws_markIntS_l0 A n (A.add .i64 k1 1) (A.add .i64 i2 1) (A.iset o03 i2 k1) kx0_0
      else
        none
    else
      kx0_0 k1 o03
noncomputable def laws_markIntS_f (A : PM.Prims) (a : List Int) (k_ : Int) (k : (Int) → (List Int) → PM.R) : PM.R :=
  laws_markIntS_l0 A A.fuel k_ 0 a (fun k46 o057 =>
    k k46 o057)
noncomputable def laws_markIntS (A : PM.Prims) : laws_markIntS_T := laws_markIntS_f A
noncomputable def laws_markIntS_L (A : PM.Prims) (n : Nat) : PM.Lam := fun cur σ K =>
  match cur, σ, K with
  | 0, ⟨[(0, .sref 0), (1, .int .i64 k1), (5, .int .i64 i2)], [(0, .arr false (.ints 3 .i64 o03))]⟩, K => laws_markIntS_l0 A n k1 i2 o03 (fun k4 o05 => K (.exit 0) ⟨[(0, .sref 0), (1, .int .i64 k4)], [(0, .arr false (.ints 3 .i64 o05))]⟩)
  | _, _, _ => none
noncomputable def laws_markIntS_E (A : PM.Prims) : PM.Env := ⟨[], [], [(0, [0, 1, 5], [0, 1, 4])], [(0, [0, 1]), (1, [0, 1, 5]), (2, [0, 1, 5, 9]), (3, [0, 1, 5]), (4, [0, 1, 5]), (5, [0, 1, 5]), (6, [0, 4])], laws_markIntS_L A A.fuel⟩
theorem laws_markIntS_l0_ok (A : PM.Prims) (n : Nat) (k1 : Int) (i2 : Int) (o03 : List Int) (K : Go.Exit → PM.S → PM.R) : laws_markIntS_L A (n + 1) 0 ⟨[(0, .sref 0), (1, .int .i64 k1), (5, .int .i64 i2)], [(0, .arr false (.ints 3 .i64 o03))]⟩ K = PM.roundF A cx (PM.runD A cx (laws_markIntS_E A).inl (laws_markIntS_E A).Γ 3) (laws_markIntS_E A) (laws_markIntS_L A n) 0 Go.Proofs.Try.f54 ⟨[(0, .sref 0), (1, .int .i64 k1), (5, .int .i64 i2)], [(0, .arr false (.ints 3 .i64 o03))]⟩ K := by kernel_rfl
theorem laws_markIntS_ok (A : PM.Prims) (a : List Int) (k_ : Int) (k : PM.V → PM.R) : PM.pfun A cx [true, false] (laws_markIntS_E A) Go.Proofs.Try.f54 [.arr (.ints 3 .i64 a), .int .i64 k_] k = laws_markIntS_f A a k_ (fun r0 o0 => k (.tup [.int .i64 r0, .arr (.ints 3 .i64 o0)])) := by kernel_rfl

theorem laws_markIntS_fn : PM.FnIs Try.prog 54 Try.f54 := .of Try.func54 (by kernel_rfl) (by kernel_rfl)
theorem laws_markIntS_g : PM.GOk Try.prog cx 54 ⟨[true, false], laws_markIntS_w (laws_markIntS PM.std), none⟩ := by
  refine ⟨laws_markIntS_fn.enter, fun hm => (by cases hm), fun _ ds k r h => ?_, fun _ e => (by cases e)⟩
  change laws_markIntS_w (laws_markIntS PM.std) ds k = some r at h
  unfold laws_markIntS_w at h
  split at h
  · exact PM.pfun_okM (List.cons_ne_nil _ _) (E := laws_markIntS_E PM.std) (L := fun n => laws_markIntS_L PM.std n) (N := PM.std.fuel) cx_ok .nil mixed .nil laws_markIntS_fn (by kernel_rfl) ⟨rfl, fun cur σ K => by
      dsimp only [laws_markIntS_L]
      split <;> rfl, fun n cur σ K r h => by
      dsimp only [laws_markIntS_L] at h
      split at h
      · exact (laws_markIntS_l0_ok PM.std n _ _ _ K).symm.trans h
      · cases h⟩
      ((laws_markIntS_ok PM.std _ _ k).trans h)
  · cases h

abbrev laws_heldIntS_T := (List Int) → (Int) → ((Int) → PM.R) → PM.R
noncomputable def laws_heldIntS_w (c : laws_heldIntS_T) (ds : List PM.V) (k : PM.V → PM.R) : PM.R :=
  match ds with
  | [.arr (.ints 3 .i64 a), .int .i64 k_] => c a k_ (fun r0 => k (.int .i64 r0))
  | _ => none
noncomputable def laws_heldIntS_l0 (A : PM.Prims) : Nat → (List Int) → (Int) → (Int) → ((Int) → PM.R) → ((Int) → PM.R) → PM.R
  | 0, _, _, _, _, _ => none
  | n + 1, a1, k2, i3, kret_0, kx0_0 =>
    bif (A.lt i3 (A.ilen a1)) then
      bif (A.inb i3 (A.ilen a1)) then
        bif (A.not (A.eq (A.iget a1 i3) k2)) then
          kret_0 (-1)
        else
          laws_heldIntS_l0 A n a1 (A.add .i64 k2 1) (A.add .i64 i3 1) kret_0 kx0_0
      else
        none
    else
      kx0_0 k2
noncomputable def laws_heldIntS_f (A : PM.Prims) (a : List Int) (k_ : Int) (k : (Int) → PM.R) : PM.R :=
  laws_heldIntS_l0 A A.fuel a k_ 0 (fun t446 =>
    k t446) (fun k57 =>
    k k57)
noncomputable def laws_heldIntS (A : PM.Prims) : laws_heldIntS_T := laws_heldIntS_f A
noncomputable def laws_heldIntS_L (A : PM.Prims) (n : Nat) : PM.Lam := fun cur σ K =>
  match cur, σ, K with
  | 0, ⟨[(0, .arr (.ints 3 .i64 a1)), (1, .int .i64 k2), (5, .int .i64 i3)], []⟩, K => laws_heldIntS_l0 A n a1 k2 i3 (fun t44 => K .ret ⟨[(4, .int .i64 t44)], []⟩) (fun k5 => K (.exit 0) ⟨[(1, .int .i64 k5)], []⟩)
  | _, _, _ => none
noncomputable def laws_heldIntS_E (A : PM.Prims) : PM.Env := ⟨[], [], [(0, [0, 1, 5], [1, 4])], [(0, [0, 1]), (1, [0, 1, 5]), (2, [0, 1, 5, 9]), (3, [0, 1, 5]), (4, [0, 1, 5, 17]), (5, [4]), (6, [0, 1, 5]), (7, [4])], laws_heldIntS_L A A.fuel⟩
theorem laws_heldIntS_l0_ok (A : PM.Prims) (n : Nat) (a1 : List Int) (k2 : Int) (i3 : Int) (K : Go.Exit → PM.S → PM.R) : laws_heldIntS_L A (n + 1) 0 ⟨[(0, .arr (.ints 3 .i64 a1)), (1, .int .i64 k2), (5, .int .i64 i3)], []⟩ K = PM.roundF A cx (PM.runD A cx (laws_heldIntS_E A).inl (laws_heldIntS_E A).Γ 3) (laws_heldIntS_E A) (laws_heldIntS_L A n) 0 Go.Proofs.Try.f56 ⟨[(0, .arr (.ints 3 .i64 a1)), (1, .int .i64 k2), (5, .int .i64 i3)], []⟩ K := by kernel_rfl
theorem laws_heldIntS_ok (A : PM.Prims) (a : List Int) (k_ : Int) (k : PM.V → PM.R) : PM.pfun A cx [] (laws_heldIntS_E A) Go.Proofs.Try.f56 [.arr (.ints 3 .i64 a), .int .i64 k_] k = laws_heldIntS_f A a k_ (fun r0 => k (.int .i64 r0)) := by kernel_rfl

theorem laws_heldIntS_fn : PM.FnIs Try.prog 56 Try.f56 := .of Try.func56 (by kernel_rfl) (by kernel_rfl)
theorem laws_heldIntS_g : PM.GOk Try.prog cx 56 ⟨[], laws_heldIntS_w (laws_heldIntS PM.std), none⟩ := by
  refine ⟨laws_heldIntS_fn.enter, fun _ ds k r h => ?_, fun hm => absurd rfl hm, fun _ e => (by cases e)⟩
  change laws_heldIntS_w (laws_heldIntS PM.std) ds k = some r at h
  unfold laws_heldIntS_w at h
  split at h
  · exact PM.pfun_ok (E := laws_heldIntS_E PM.std) (L := fun n => laws_heldIntS_L PM.std n) (N := PM.std.fuel) cx_ok .nil mixed .nil laws_heldIntS_fn (by kernel_rfl) ⟨rfl, fun cur σ K => by
      dsimp only [laws_heldIntS_L]
      split <;> rfl, fun n cur σ K r h => by
      dsimp only [laws_heldIntS_L] at h
      split at h
      · exact (laws_heldIntS_l0_ok PM.std n _ _ _ K).symm.trans h
      · cases h⟩
      ((laws_heldIntS_ok PM.std _ _ k).trans h)
  · cases h

abbrev spec_l7Order_T := (List Int) → (Int) → ((List Int) → (Bool) → PM.R) → PM.R
noncomputable def spec_l7Order_w (c : spec_l7Order_T) (ds : List PM.V) (k : PM.V → PM.R) : PM.R :=
  match ds with
  | [.arr (.ints 3 .i64 order), .int .i64 n_] => c order n_ (fun r0 r1 => k (.tup [.arr (.ints 3 .i64 r0), .bool r1]))
  | _ => none
noncomputable def spec_l7Order_l2 (A : PM.Prims) (c_103 : spec_l1In_T) : Nat → (Int) → (Int) → (List Int) → (List Bool) → ((List Int) → PM.R) → PM.R
  | 0, _, _, _, _, _ => none
  | n + 1, n17, k18, o019, o120, kx2_2 =>
    bif (A.lt k18 n17) then
      bif (A.inb k18 (A.blen o120)) then
        bif (A.not (A.bget o120 k18)) then
          bif (A.room (A.ilen o019) (A.ilen [k18])) then
            spec_l7Order_l2 A c_103 n n17 (A.add .i64 k18 1) (A.iapp o019 [k18]) o120 kx2_2
          else
            none
        else
          spec_l7Order_l2 A c_103 n n17 (A.add .i64 k18 1) o019 o120 kx2_2
      else
        none
    else
      kx2_2 o019
noncomputable def spec_l7Order_l0 (A : PM.Prims) (c_103 : spec_l1In_T) : Nat → (List Int) → (Int) → (Int) → (List Int) → (List Bool) → ((Bool) → (List Int) → PM.R) → ((Int) → (List Int) → (List Bool) → PM.R) → PM.R
  | 0, _, _, _, _, _, _, _ => none
  | n + 1, order1, n2, i3, o04, o15, kret_0, kx0_0 =>
    bif (A.lt i3 (A.ilen order1)) then
      bif (A.inb i3 (A.ilen order1)) then
        c_103 (A.iget order1 i3) 0 (A.sub .i64 n2 1) (fun r6 =>
          bif (A.not r6) then
            kret_0 false o04
          else
            bif (A.inb (A.iget order1 i3) (A.blen o15)) then
              bif (A.bget o15 (A.iget order1 i3)) then
                kret_0 false o04
              else
                bif (A.inb (A.iget order1 i3) (A.blen o15)) then
                  bif (A.room (A.ilen o04) (A.ilen [(A.iget order1 i3)])) then
                    spec_l7Order_l0 A c_103 n order1 n2 (A.add .i64 i3 1) (A.iapp o04 [(A.iget order1 i3)]) (A.bset o15 (A.iget order1 i3) true) kret_0 kx0_0
                  else
                    none
                else
                  none
            else
              none)
      else
        none
    else
      kx0_0 n2 o04 o15
noncomputable def spec_l7Order_f (A : PM.Prims) (c_103 : spec_l1In_T) (order : List Int) (n_ : Int) (k : (List Int) → (Bool) → PM.R) : PM.R :=
  bif (A.mkOk 3) then
    bif (A.le 3 3) then
      bif (A.mkOk 3) then
        spec_l7Order_l0 A c_103 A.fuel order n_ 0 [] (A.bzero 3) (fun t5712 o0813 =>
          k o0813 t5712) (fun n914 o01015 o11116 =>
          spec_l7Order_l2 A c_103 A.fuel n914 0 o01015 o11116 (fun o02122 =>
            k o02122 true))
      else
        none
    else
      none
  else
    none
noncomputable def spec_l7Order (A : PM.Prims) : spec_l7Order_T := spec_l7Order_f A (spec_l1In A)
noncomputable def spec_l7Order_L (A : PM.Prims) (c_103 : spec_l1In_T) (n : Nat) : PM.Lam := fun cur σ K =>
  match cur, σ, K with
  | 0, ⟨[(0, .arr (.ints 3 .i64 order1)), (1, .int .i64 n2), (6, .sref 0), (7, .sref 1), (8, .int .i64 i3)], [(0, .arr true (.ints 3 .i64 o04)), (1, .arr true (.bools 4 o15))]⟩, K => spec_l7Order_l0 A c_103 n order1 n2 i3 o04 o15 (fun t57 o08 => K .ret ⟨[(4, .sref 0), (5, .bool t57)], [(0, .arr true (.ints 3 .i64 o08))]⟩) (fun n9 o010 o111 => K (.exit 0) ⟨[(1, .int .i64 n9), (6, .sref 0), (7, .sref 1)], [(0, .arr true (.ints 3 .i64 o010)), (1, .arr true (.bools 4 o111))]⟩)
  | 2, ⟨[(1, .int .i64 n17), (6, .sref 0), (7, .sref 1), (10, .int .i64 k18)], [(0, .arr true (.ints 3 .i64 o019)), (1, .arr true (.bools 4 o120))]⟩, K => spec_l7Order_l2 A c_103 n n17 k18 o019 o120 (fun o021 => K (.exit 2) ⟨[(6, .sref 0)], [(0, .arr true (.ints 3 .i64 o021))]⟩)
  | _, _, _ => none
noncomputable def spec_l7Order_E (A : PM.Prims) (c_103 : spec_l1In_T) : PM.Env := ⟨[(103, ⟨[], spec_l1In_w c_103, none⟩)], [], [(0, [0, 1, 6, 7, 8], [1, 4, 5, 6, 7]), (2, [1, 6, 7, 10], [4, 5, 6])], [(0, [0, 1]), (1, [0, 1, 6]), (2, [0, 1, 6, 7]), (3, [0, 1, 6, 7, 8]), (4, [0, 1, 6, 7, 8, 16]), (5, [0, 1, 6, 7, 8]), (6, [0, 1, 6, 7, 8, 9]), (7, [0, 1, 6, 7, 8, 9, 33]), (8, [4, 5]), (9, [0, 1, 6, 7, 8, 9]), (10, [0, 1, 6, 7, 8]), (11, [1, 6, 7, 10]), (12, [1, 6, 7, 10, 44]), (13, [1, 6, 7, 10]), (14, [1, 6, 7, 10, 51]), (15, [1, 6, 7, 10]), (16, [4, 5])], spec_l7Order_L A c_103 A.fuel⟩
theorem spec_l7Order_l0_ok (A : PM.Prims) (c_103 : spec_l1In_T) (n : Nat) (order1 : List Int) (n2 : Int) (i3 : Int) (o04 : List Int) (o15 : List Bool) (K : Go.Exit → PM.S → PM.R) : spec_l7Order_L A c_103 (n + 1) 0 ⟨[(0, .arr (.ints 3 .i64 order1)), (1, .int .i64 n2), (6, .sref 0), (7, .sref 1), (8, .int .i64 i3)], [(0, .arr true (.ints 3 .i64 o04)), (1, .arr true (.bools 4 o15))]⟩ K = PM.roundF A cx (PM.runD A cx (spec_l7Order_E A c_103).inl (spec_l7Order_E A c_103).Γ 3) (spec_l7Order_E A c_103) (spec_l7Order_L A c_103 n) 0 Go.Proofs.Try.f184 ⟨[(0, .arr (.ints 3 .i64 order1)), (1, .int .i64 n2), (6, .sref 0), (7, .sref 1), (8, .int .i64 i3)], [(0, .arr true (.ints 3 .i64 o04)), (1, .arr true (.bools 4 o15))]⟩ K := by kernel_rfl
theorem spec_l7Order_l2_ok (A : PM.Prims) (c_103 : spec_l1In_T) (n : Nat) (n17 : Int) (k18 : Int) (o019 : List Int) (o120 : List Bool) (K : Go.Exit → PM.S → PM.R) : spec_l7Order_L A c_103 (n + 1) 2 ⟨[(1, .int .i64 n17), (6, .sref 0), (7, .sref 1), (10, .int .i64 k18)], [(0, .arr true (.ints 3 .i64 o019)), (1, .arr true (.bools 4 o120))]⟩ K = PM.roundF A cx (PM.runD A cx (spec_l7Order_E A c_103).inl (spec_l7Order_E A c_103).Γ 3) (spec_l7Order_E A c_103) (spec_l7Order_L A c_103 n) 2 Go.Proofs.Try.f184 ⟨[(1, .int .i64 n17), (6, .sref 0), (7, .sref 1), (10, .int .i64 k18)], [(0, .arr true (.ints 3 .i64 o019)), (1, .arr true (.bools 4 o120))]⟩ K := by kernel_rfl
theorem spec_l7Order_ok (A : PM.Prims) (c_103 : spec_l1In_T) (order : List Int) (n_ : Int) (k : PM.V → PM.R) : PM.pfun A cx [] (spec_l7Order_E A c_103) Go.Proofs.Try.f184 [.arr (.ints 3 .i64 order), .int .i64 n_] k = spec_l7Order_f A c_103 order n_ (fun r0 r1 => k (.tup [.arr (.ints 3 .i64 r0), .bool r1])) := by kernel_rfl

theorem spec_l7Order_fn : PM.FnIs Try.prog 184 Try.f184 := .of Try.func184 (by kernel_rfl) (by kernel_rfl)
theorem spec_l7Order_g : PM.GOk Try.prog cx 184 ⟨[], spec_l7Order_w (spec_l7Order PM.std), none⟩ := by
  refine ⟨spec_l7Order_fn.enter, fun _ ds k r h => ?_, fun hm => absurd rfl hm, fun _ e => (by cases e)⟩
  change spec_l7Order_w (spec_l7Order PM.std) ds k = some r at h
  unfold spec_l7Order_w at h
  split at h
  · exact PM.pfun_ok (E := spec_l7Order_E PM.std (spec_l1In PM.std)) (L := fun n => spec_l7Order_L PM.std (spec_l1In PM.std) n) (N := PM.std.fuel) cx_ok (.cons spec_l1In_g .nil) mixed .nil spec_l7Order_fn (by kernel_rfl) ⟨rfl, fun cur σ K => by
      dsimp only [spec_l7Order_L]
      split <;> rfl, fun n cur σ K r h => by
      dsimp only [spec_l7Order_L] at h
      split at h
      · exact (spec_l7Order_l0_ok PM.std (spec_l1In PM.std) n _ _ _ _ _ K).symm.trans h
      · exact (spec_l7Order_l2_ok PM.std (spec_l1In PM.std) n _ _ _ _ K).symm.trans h
      · cases h⟩
      ((spec_l7Order_ok PM.std (spec_l1In PM.std) _ _ k).trans h)
  · cases h

abbrev spec_l7Copy_T := (List Int) → (List Int) → (Int) → ((List Int) → (List Int) → (Int) → PM.R) → PM.R
noncomputable def spec_l7Copy_w (c : spec_l7Copy_T) (ds : List PM.V) (k : PM.V → PM.R) : PM.R :=
  match ds with
  | [.agg [.arr (.ints 3 .i64 s_Cells), .arr (.ints 3 .i64 s_Map), .int .i64 s_Count]] => c s_Cells s_Map s_Count (fun r0_Cells r0_Map r0_Count => k (.agg [.arr (.ints 3 .i64 r0_Cells), .arr (.ints 3 .i64 r0_Map), .int .i64 r0_Count]))
  | _ => none
noncomputable def spec_l7Copy_f (A : PM.Prims) (s_Cells : List Int) (s_Map : List Int) (s_Count : Int) (k : (List Int) → (List Int) → (Int) → PM.R) : PM.R :=
  bif (A.room (A.ilen []) (A.ilen s_Cells)) then
    bif (A.room (A.ilen []) (A.ilen s_Map)) then
      k (A.iapp [] s_Cells) (A.iapp [] s_Map) s_Count
    else
      none
  else
    none
noncomputable def spec_l7Copy (A : PM.Prims) : spec_l7Copy_T := spec_l7Copy_f A
noncomputable def spec_l7Copy_L (A : PM.Prims) (n : Nat) : PM.Lam := fun cur σ K =>
  match cur, σ, K with
  | _, _, _ => none
noncomputable def spec_l7Copy_E (A : PM.Prims) : PM.Env := ⟨[], [], [], [(0, [1, 2]), (1, [2])], spec_l7Copy_L A A.fuel⟩
theorem spec_l7Copy_ok (A : PM.Prims) (s_Cells : List Int) (s_Map : List Int) (s_Count : Int) (k : PM.V → PM.R) : PM.pfun A cx [] (spec_l7Copy_E A) Go.Proofs.Try.f289 [.agg [.arr (.ints 3 .i64 s_Cells), .arr (.ints 3 .i64 s_Map), .int .i64 s_Count]] k = spec_l7Copy_f A s_Cells s_Map s_Count (fun r0_Cells r0_Map r0_Count => k (.agg [.arr (.ints 3 .i64 r0_Cells), .arr (.ints 3 .i64 r0_Map), .int .i64 r0_Count])) := by kernel_rfl

theorem spec_l7Copy_fn : PM.FnIs Try.prog 289 Try.f289 := .of Try.func289 (by kernel_rfl) (by kernel_rfl)
theorem spec_l7Copy_g : PM.GOk Try.prog cx 289 ⟨[], spec_l7Copy_w (spec_l7Copy PM.std), none⟩ := by
  refine ⟨spec_l7Copy_fn.enter, fun _ ds k r h => ?_, fun hm => absurd rfl hm, fun _ e => (by cases e)⟩
  change spec_l7Copy_w (spec_l7Copy PM.std) ds k = some r at h
  unfold spec_l7Copy_w at h
  split at h
  · exact PM.pfun_ok (E := spec_l7Copy_E PM.std) (L := fun n => spec_l7Copy_L PM.std n) (N := PM.std.fuel) cx_ok .nil mixed .nil spec_l7Copy_fn (by kernel_rfl) ⟨rfl, fun _ _ _ => rfl, fun n cur σ K r h => by cases h⟩
      ((spec_l7Copy_ok PM.std _ _ _ k).trans h)
  · cases h

abbrev spec_EndOf_T := (List (List Int)) → (Int) → ((Int) → PM.R) → PM.R
noncomputable def spec_EndOf_w (c : spec_EndOf_T) (ds : List PM.V) (k : PM.V → PM.R) : PM.R :=
  match ds with
  | [.arr (.vecs 312 4 code), .int .i64 i] => c code i (fun r0 => k (.int .i64 r0))
  | _ => none
noncomputable def spec_EndOf_l0 (A : PM.Prims) : Nat → (List (List Int)) → (Int) → (Int) → ((Int) → PM.R) → (Unit → PM.R) → PM.R
  | 0, _, _, _, _, _ => none
  | n + 1, code1, d2, k3, kret_0, kx0_0 =>
    bif (A.lt k3 (A.vlen code1)) then
      bif (A.inb k3 (A.vlen code1)) then
        bif (A.eq (A.vget code1 k3 0) 8) then
          bif (A.inb k3 (A.vlen code1)) then
            bif (A.eq (A.vget code1 k3 0) 9) then
              bif (A.eq (A.sub .i64 (A.add .i64 d2 1) 1) 0) then
                kret_0 k3
              else
                spec_EndOf_l0 A n code1 (A.sub .i64 (A.add .i64 d2 1) 1) (A.add .i64 k3 1) kret_0 kx0_0
            else
              bif (A.eq (A.add .i64 d2 1) 0) then
                kret_0 k3
              else
                spec_EndOf_l0 A n code1 (A.add .i64 d2 1) (A.add .i64 k3 1) kret_0 kx0_0
          else
            none
        else
          bif (A.inb k3 (A.vlen code1)) then
            bif (A.eq (A.vget code1 k3 0) 9) then
              bif (A.eq (A.sub .i64 d2 1) 0) then
                kret_0 k3
              else
                spec_EndOf_l0 A n code1 (A.sub .i64 d2 1) (A.add .i64 k3 1) kret_0 kx0_0
            else
              bif (A.eq d2 0) then
                kret_0 k3
              else
                spec_EndOf_l0 A n code1 d2 (A.add .i64 k3 1) kret_0 kx0_0
          else
            none
      else
        none
    else
      kx0_0 ()
noncomputable def spec_EndOf_f (A : PM.Prims) (code : List (List Int)) (i : Int) (k : (Int) → PM.R) : PM.R :=
  bif (A.lt i 0) then
    k (-1)
  else
    bif (A.le (A.vlen code) i) then
      k (-1)
    else
      bif (A.inb i (A.vlen code)) then
        bif (A.not (A.eq (A.vget code i 0) 8)) then
          k (-1)
        else
          spec_EndOf_l0 A A.fuel code 0 i (fun t445 =>
            k t445) (fun _ =>
            k (-1))
      else
        none
noncomputable def spec_EndOf (A : PM.Prims) : spec_EndOf_T := spec_EndOf_f A
noncomputable def spec_EndOf_L (A : PM.Prims) (n : Nat) : PM.Lam := fun cur σ K =>
  match cur, σ, K with
  | 0, ⟨[(0, .arr (.vecs 312 4 code1)), (5, .int .i64 d2), (6, .int .i64 k3)], []⟩, K => spec_EndOf_l0 A n code1 d2 k3 (fun t44 => K .ret ⟨[(4, .int .i64 t44)], []⟩) (fun _ => K (.exit 0) ⟨[], []⟩)
  | _, _, _ => none
noncomputable def spec_EndOf_E (A : PM.Prims) : PM.Env := ⟨[], [], [(0, [0, 5, 6], [4])], [(0, [0, 1]), (1, [0, 1, 22]), (2, [4]), (3, [0, 1, 5]), (4, [0, 5, 6]), (5, [0, 5, 6, 27]), (6, [0, 5, 6]), (7, [0, 5, 6, 35]), (8, [0, 5, 6]), (9, [0, 5, 6, 43]), (10, [0, 5, 6]), (11, [0, 5, 6, 47]), (12, [4]), (13, [4])], spec_EndOf_L A A.fuel⟩
theorem spec_EndOf_l0_ok (A : PM.Prims) (n : Nat) (code1 : List (List Int)) (d2 : Int) (k3 : Int) (K : Go.Exit → PM.S → PM.R) : spec_EndOf_L A (n + 1) 0 ⟨[(0, .arr (.vecs 312 4 code1)), (5, .int .i64 d2), (6, .int .i64 k3)], []⟩ K = PM.roundF A cx (PM.runD A cx (spec_EndOf_E A).inl (spec_EndOf_E A).Γ 3) (spec_EndOf_E A) (spec_EndOf_L A n) 0 Go.Proofs.Try.f290 ⟨[(0, .arr (.vecs 312 4 code1)), (5, .int .i64 d2), (6, .int .i64 k3)], []⟩ K := by kernel_rfl
theorem spec_EndOf_ok (A : PM.Prims) (code : List (List Int)) (i : Int) (k : PM.V → PM.R) : PM.pfun A cx [] (spec_EndOf_E A) Go.Proofs.Try.f290 [.arr (.vecs 312 4 code), .int .i64 i] k = spec_EndOf_f A code i (fun r0 => k (.int .i64 r0)) := by kernel_rfl

theorem spec_EndOf_fn : PM.FnIs Try.prog 290 Try.f290 := .of Try.func290 (by kernel_rfl) (by kernel_rfl)
theorem spec_EndOf_g : PM.GOk Try.prog cx 290 ⟨[], spec_EndOf_w (spec_EndOf PM.std), none⟩ := by
  refine ⟨spec_EndOf_fn.enter, fun _ ds k r h => ?_, fun hm => absurd rfl hm, fun _ e => (by cases e)⟩
  change spec_EndOf_w (spec_EndOf PM.std) ds k = some r at h
  unfold spec_EndOf_w at h
  split at h
  · exact PM.pfun_ok (E := spec_EndOf_E PM.std) (L := fun n => spec_EndOf_L PM.std n) (N := PM.std.fuel) cx_ok .nil mixed .nil spec_EndOf_fn (by kernel_rfl) ⟨rfl, fun cur σ K => by
      dsimp only [spec_EndOf_L]
      split <;> rfl, fun n cur σ K r h => by
      dsimp only [spec_EndOf_L] at h
      split at h
      · exact (spec_EndOf_l0_ok PM.std n _ _ _ K).symm.trans h
      · cases h⟩
      ((spec_EndOf_ok PM.std _ _ k).trans h)
  · cases h

abbrev spec_Calc_T := (Int) → (Int) → (Int) → (Int) → (List Int) → ((List Int) → (Bool) → PM.R) → PM.R
noncomputable def spec_Calc_w (c : spec_Calc_T) (ds : List PM.V) (k : PM.V → PM.R) : PM.R :=
  match ds with
  | [.agg [.int .i64 ___Kind, .int .i64 ___A, .int .i64 ___B, .int .i64 ___C], .arr (.ints 3 .i64 a)] => c ___Kind ___A ___B ___C a (fun r0 r1 => k (.tup [.arr (.ints 3 .i64 r0), .bool r1]))
  | _ => none
noncomputable def spec_Calc_f (A : PM.Prims) (c_163 : spec_l4Regs_T) (c_280 : spec_OpOk_T) (___Kind : Int) (___A : Int) (___B : Int) (___C : Int) (a : List Int) (k : (List Int) → (Bool) → PM.R) : PM.R :=
  bif (A.room (A.ilen []) (A.ilen a)) then
    c_280 ___Kind ___A ___B ___C (fun r1 =>
      bif (A.not r1) then
        k (A.iapp [] a) false
      else
        c_163 a (fun r2 =>
          bif (A.not r2) then
            k (A.iapp [] a) false
          else
            bif (A.lt 4 ___Kind) then
              k (A.iapp [] a) false
            else
              bif (A.eq ___Kind 1) then
                bif (A.inb ___A (A.ilen (A.iapp [] a))) then
                  k (A.iset (A.iapp [] a) ___A ___B) true
                else
                  none
              else
                bif (A.inb ___B (A.ilen a)) then
                  bif (A.inb ___C (A.ilen a)) then
                    bif (A.eq ___Kind 2) then
                      bif (A.nz 65536) then
                        bif (A.inb ___A (A.ilen (A.iapp [] a))) then
                          k (A.iset (A.iapp [] a) ___A (A.rem .i64 (A.add .i64 (A.iget a ___B) (A.iget a ___C)) 65536)) true
                        else
                          none
                      else
                        none
                    else
                      bif (A.eq ___Kind 3) then
                        bif (A.nz 65536) then
                          bif (A.inb ___A (A.ilen (A.iapp [] a))) then
                            k (A.iset (A.iapp [] a) ___A (A.rem .i64 (A.add .i64 (A.sub .i64 (A.iget a ___B) (A.iget a ___C)) 65536) 65536)) true
                          else
                            none
                        else
                          none
                      else
                        bif (A.inb ___A (A.ilen (A.iapp [] a))) then
                          bif (A.lt (A.iget a ___B) (A.iget a ___C)) then
                            bif (A.inb ___A (A.ilen (A.iset (A.iapp [] a) ___A 0))) then
                              k (A.iset (A.iset (A.iapp [] a) ___A 0) ___A 1) true
                            else
                              none
                          else
                            k (A.iset (A.iapp [] a) ___A 0) true
                        else
                          none
                  else
                    none
                else
                  none))
  else
    none
noncomputable def spec_Calc (A : PM.Prims) : spec_Calc_T := spec_Calc_f A (spec_l4Regs A) (spec_OpOk A)
noncomputable def spec_Calc_L (A : PM.Prims) (c_163 : spec_l4Regs_T) (c_280 : spec_OpOk_T) (n : Nat) : PM.Lam := fun cur σ K =>
  match cur, σ, K with
  | _, _, _ => none
noncomputable def spec_Calc_E (A : PM.Prims) (c_163 : spec_l4Regs_T) (c_280 : spec_OpOk_T) : PM.Env := ⟨[(163, ⟨[], spec_l4Regs_w c_163, none⟩), (280, ⟨[], spec_OpOk_w c_280, none⟩)], [], [], [(0, [1, 2]), (1, [1, 2, 6]), (2, [1, 2, 6, 24]), (3, [4, 5]), (4, [1, 2, 6, 28]), (5, [6]), (6, [4, 5]), (7, [1, 2, 6, 7]), (8, [2, 6, 7, 8]), (9, [2, 6, 7, 8, 47]), (10, [2, 6, 7, 8]), (11, [2, 6, 54]), (12, [6]), (13, [2, 6, 7, 8, 47, 59]), (14, [6]), (15, [2, 6, 7, 8, 69]), (16, [6]), (17, [4, 5])], spec_Calc_L A c_163 c_280 A.fuel⟩
theorem spec_Calc_ok (A : PM.Prims) (c_163 : spec_l4Regs_T) (c_280 : spec_OpOk_T) (___Kind : Int) (___A : Int) (___B : Int) (___C : Int) (a : List Int) (k : PM.V → PM.R) : PM.pfun A cx [] (spec_Calc_E A c_163 c_280) Go.Proofs.Try.f291 [.agg [.int .i64 ___Kind, .int .i64 ___A, .int .i64 ___B, .int .i64 ___C], .arr (.ints 3 .i64 a)] k = spec_Calc_f A c_163 c_280 ___Kind ___A ___B ___C a (fun r0 r1 => k (.tup [.arr (.ints 3 .i64 r0), .bool r1])) := by kernel_rfl

theorem spec_Calc_fn : PM.FnIs Try.prog 291 Try.f291 := .of Try.func291 (by kernel_rfl) (by kernel_rfl)
theorem spec_Calc_g : PM.GOk Try.prog cx 291 ⟨[], spec_Calc_w (spec_Calc PM.std), none⟩ := by
  refine ⟨spec_Calc_fn.enter, fun _ ds k r h => ?_, fun hm => absurd rfl hm, fun _ e => (by cases e)⟩
  change spec_Calc_w (spec_Calc PM.std) ds k = some r at h
  unfold spec_Calc_w at h
  split at h
  · exact PM.pfun_ok (E := spec_Calc_E PM.std (spec_l4Regs PM.std) (spec_OpOk PM.std)) (L := fun n => spec_Calc_L PM.std (spec_l4Regs PM.std) (spec_OpOk PM.std) n) (N := PM.std.fuel) cx_ok (.cons spec_l4Regs_g (.cons spec_OpOk_g .nil)) mixed .nil spec_Calc_fn (by kernel_rfl) ⟨rfl, fun _ _ _ => rfl, fun n cur σ K r h => by cases h⟩
      ((spec_Calc_ok PM.std (spec_l4Regs PM.std) (spec_OpOk PM.std) _ _ _ _ _ k).trans h)
  · cases h

abbrev spec_l7Walk_T := (List (List Int)) → (List (List PM.C)) → (List Int) → (List Int) → (List Int) → (List Int) → (Int) → ((Int) → (List Int) → (List Int) → (List Int) → (Int) → PM.R) → PM.R
noncomputable def spec_l7Walk_w (c : spec_l7Walk_T) (ds : List PM.V) (k : PM.V → PM.R) : PM.R :=
  match ds with
  | [.arr (.vecs 312 4 __), .arr (.rows 233 a), .arr (.ints 3 .i64 r), .arr (.ints 3 .i64 r_3), .agg [.arr (.ints 3 .i64 p4_Cells), .arr (.ints 3 .i64 p4_Map), .int .i64 p4_Count]] => c __ a r r_3 p4_Cells p4_Map p4_Count (fun r0_Out r0_Regs r0_Things_Cells r0_Things_Map r0_Things_Count => k (.agg [.int .i64 r0_Out, .arr (.ints 3 .i64 r0_Regs), .arr (.ints 3 .i64 r0_Things_Cells), .arr (.ints 3 .i64 r0_Things_Map), .int .i64 r0_Things_Count]))
  | _ => none
noncomputable def spec_l7Walk_l5 (A : PM.Prims) (c_289 : spec_l7Copy_T) (c_290 : spec_EndOf_T) (c_291 : spec_Calc_T) : Nat → (List (List Int)) → (List (List C)) → (List Int) → (Int) → (Int) → (List Int) → (Int) → (Int) → (Int) → (Int) → (List (List C)) → (List Int) → (List Int) → (List Int) → (List Int) → (List Int) → (List Int) → (List Int) → (List Int) → ((List (List Int)) → (List (List C)) → (List Int) → (Int) → (List Int) → (Int) → (Int) → (Int) → (Int) → (List (List C)) → (List Int) → (List Int) → (List Int) → (List Int) → (List Int) → (List Int) → (List Int) → PM.R) → PM.R
  | 0, _, _, _, _, _, _, _, _, _, _, _, _, _, _, _, _, _, _, _, _ => none
  | n + 1, code91, kids92, order93, next94, i95, o096, o197, o298, o299, o3100, o4101, o5102, o6103, o7104, o8105, o9106, o10107, o11108, o12109, kx5_5 =>
    bif (A.lt i95 (A.ilen o5102)) then
      bif (A.inb i95 (A.ilen o5102)) then
        bif (A.inb i95 (A.ilen o096)) then
          spec_l7Walk_l5 A c_289 c_290 c_291 n code91 kids92 order93 next94 (A.add .i64 i95 1) (A.iset o096 i95 (A.iget o5102 i95)) o197 o298 o299 o3100 o4101 o5102 o6103 o7104 o8105 o9106 o10107 o11108 o12109 kx5_5
        else
          none
      else
        none
    else
      kx5_5 code91 kids92 order93 next94 o096 o197 o298 o299 o3100 o4101 o6103 o7104 o8105 o9106 o10107 o11108 o12109
noncomputable def spec_l7Walk_l3 (A : PM.Prims) (c_289 : spec_l7Copy_T) (c_290 : spec_EndOf_T) (c_291 : spec_Calc_T) : Nat → (List (List Int)) → (List (List C)) → (List Int) → (Int) → (Int) → (List Int) → (Int) → (Int) → (Int) → (Int) → (List (List C)) → (List Int) → (List Int) → (List Int) → (List Int) → (List Int) → (List Int) → (List Int) → (List Int) → ((List (List Int)) → (List (List C)) → (List Int) → (Int) → (List Int) → (Int) → (Int) → (Int) → (Int) → (List (List C)) → (List Int) → (List Int) → (List Int) → (List Int) → (List Int) → (List Int) → (List Int) → (List Int) → PM.R) → PM.R
  | 0, _, _, _, _, _, _, _, _, _, _, _, _, _, _, _, _, _, _, _, _ => none
  | n + 1, code36, kids37, order38, next39, i40, o041, o142, o243, o244, o345, o446, o547, o648, o749, o850, o951, o1052, o1153, o1254, kx3_3 =>
    bif (A.lt i40 (A.ilen order38)) then
      bif (A.inb i40 (A.ilen order38)) then
        bif (A.inb (A.iget order38 i40) (A.rlen kids37)) then
          none
        else
          none
      else
        none
    else
      kx3_3 code36 kids37 order38 next39 o041 o142 o243 o244 o345 o446 o547 o648 o749 o850 o951 o1052 o1153 o1254
noncomputable def spec_l7Walk_l0 (A : PM.Prims) (c_289 : spec_l7Copy_T) (c_290 : spec_EndOf_T) (c_291 : spec_Calc_T) : Nat → (List (List Int)) → (List (List C)) → (List Int) → (Int) → (List Int) → (Int) → (Int) → (Int) → (Int) → (List (List C)) → (List Int) → (List Int) → (List Int) → (List Int) → (List Int) → (List Int) → (List Int) → ((Int) → (Int) → (List Int) → (List Int) → (List Int) → PM.R) → ((List Int) → (Int) → (Int) → (Int) → (List Int) → (List Int) → (List Int) → (List Int) → (List Int) → PM.R) → PM.R
  | 0, _, _, _, _, _, _, _, _, _, _, _, _, _, _, _, _, _, _, _ => none
  | n + 1, code7, kids8, order9, pc10, o011, o112, o213, o214, o315, o416, o517, o618, o719, o820, o921, o1022, o1123, kret_0, kx0_0 =>
    bif (A.lt pc10 (A.vlen code7)) then
      bif (A.inb pc10 (A.vlen code7)) then
        bif (A.eq (A.vget code7 pc10 0) 5) then
          bif (A.inb (A.vget code7 pc10 2) (A.ilen o517)) then
            bif (A.inb (A.vget code7 pc10 1) (A.ilen o011)) then
              spec_l7Walk_l0 A c_289 c_290 c_291 n code7 kids8 order9 (A.add .i64 pc10 1) (A.iset o011 (A.vget code7 pc10 1) (A.iget o517 (A.vget code7 pc10 2))) o112 o213 o214 o315 o416 o517 o618 o719 o820 o921 o1022 o1123 kret_0 kx0_0
            else
              none
          else
            none
        else
          bif (A.eq (A.vget code7 pc10 0) 6) then
            bif (A.inb (A.vget code7 pc10 2) (A.ilen o011)) then
              bif (A.inb (A.vget code7 pc10 1) (A.ilen o517)) then
                spec_l7Walk_l0 A c_289 c_290 c_291 n code7 kids8 order9 (A.add .i64 pc10 1) o011 o112 o213 o214 o315 o416 (A.iset o517 (A.vget code7 pc10 1) (A.iget o011 (A.vget code7 pc10 2))) o618 o719 o820 o921 o1022 o1123 kret_0 kx0_0
              else
                none
            else
              none
          else
            bif (A.eq (A.vget code7 pc10 0) 7) then
              bif (A.inb (A.vget code7 pc10 1) (A.ilen o011)) then
                bif (A.eq (A.iget o011 (A.vget code7 pc10 1)) 0) then
                  spec_l7Walk_l0 A c_289 c_290 c_291 n code7 kids8 order9 (A.add .i64 (A.add .i64 pc10 1) (A.vget code7 pc10 2)) o011 o112 o213 o214 o315 o416 o517 o618 o719 o820 o921 o1022 o1123 kret_0 kx0_0
                else
                  spec_l7Walk_l0 A c_289 c_290 c_291 n code7 kids8 order9 (A.add .i64 pc10 1) o011 o112 o213 o214 o315 o416 o517 o618 o719 o820 o921 o1022 o1123 kret_0 kx0_0
              else
                none
            else
              bif (A.eq (A.vget code7 pc10 0) 8) then
                bif (A.room (A.ilen []) (A.ilen o011)) then
                  c_289 o517 o618 o112 (fun r24 r25 r26 =>
                    bif (A.room (A.rlen o416) (A.rlen [[(.i pc10), (.s (A.ofi (A.iapp [] o011))), (.s (A.ofi r24)), (.s (A.ofi r25)), (.i r26)]])) then
                      spec_l7Walk_l0 A c_289 c_290 c_291 n code7 kids8 order9 (A.add .i64 pc10 1) o011 o112 o213 o214 o315 (A.rapp o416 [[(.i pc10), (.s (A.ofi (A.iapp [] o011))), (.s (A.ofi r24)), (.s (A.ofi r25)), (.i r26)]]) o517 o618 o719 o820 o921 o1022 o1123 kret_0 kx0_0
                    else
                      none)
                else
                  none
              else
                bif (A.eq (A.vget code7 pc10 0) 9) then
                  bif (A.inb (A.sub .i64 (A.rlen o416) 1) (A.rlen o416)) then
                    bif (A.subb 0 (A.sub .i64 (A.rlen o416) 1) (A.rlen o416)) then
                      bif (A.inb (A.rint o416 (A.sub .i64 (A.rlen o416) 1) 0) (A.vlen code7)) then
                        bif (A.inb (A.vget code7 (A.rint o416 (A.sub .i64 (A.rlen o416) 1) 0) 1) (A.ilen o011)) then
                          spec_l7Walk_l0 A c_289 c_290 c_291 n code7 kids8 order9 (A.add .i64 pc10 1) (A.iset o011 (A.vget code7 (A.rint o416 (A.sub .i64 (A.rlen o416) 1) 0) 1) 1) o112 o213 o214 o315 (A.rsub o416 0 (A.sub .i64 (A.rlen o416) 1)) o517 o618 o719 o820 o921 o1022 o1123 kret_0 kx0_0
                        else
                          none
                      else
                        none
                    else
                      none
                  else
                    none
                else
                  bif (A.eq (A.vget code7 pc10 0) 10) then
                    bif (A.eq (A.rlen o416) 0) then
                      kret_0 2 o315 o011 o1022 o1123
                    else
                      bif (A.inb (A.sub .i64 (A.rlen o416) 1) (A.rlen o416)) then
                        bif (A.subb 0 (A.sub .i64 (A.rlen o416) 1) (A.rlen o416)) then
                          bif (A.room (A.ilen []) (A.ilen (A.rsi o416 (A.sub .i64 (A.rlen o416) 1) 1))) then
                            c_289 (A.rsi o416 (A.sub .i64 (A.rlen o416) 1) 2) (A.rsi o416 (A.sub .i64 (A.rlen o416) 1) 3) (A.rint o416 (A.sub .i64 (A.rlen o416) 1) 4) (fun r32 r33 r34 =>
                              bif (A.inb (A.rint o416 (A.sub .i64 (A.rlen o416) 1) 0) (A.vlen code7)) then
                                bif (A.inb (A.vget code7 (A.rint o416 (A.sub .i64 (A.rlen o416) 1) 0) 1) (A.ilen (A.iapp [] (A.rsi o416 (A.sub .i64 (A.rlen o416) 1) 1)))) then
                                  c_290 code7 (A.rint o416 (A.sub .i64 (A.rlen o416) 1) 0) (fun r35 =>
                                    spec_l7Walk_l0 A c_289 c_290 c_291 n code7 kids8 order9 (A.add .i64 r35 1) (A.iset (A.iapp [] (A.rsi o416 (A.sub .i64 (A.rlen o416) 1) 1)) (A.vget code7 (A.rint o416 (A.sub .i64 (A.rlen o416) 1) 0) 1) 0) r34 o213 o214 o315 (A.rsub o416 0 (A.sub .i64 (A.rlen o416) 1)) r32 r33 o719 o820 o921 o1022 o1123 kret_0 kx0_0)
                                else
                                  none
                              else
                                none)
                          else
                            none
                        else
                          none
                      else
                        none
                  else
                    bif (A.eq (A.vget code7 pc10 0) 11) then
                      bif (A.mkOk (A.rlen kids8)) then
                        bif (A.le (A.rlen kids8) (A.rlen kids8)) then
                          bif (A.mkOk (A.rlen kids8)) then
                            spec_l7Walk_l3 A c_289 c_290 c_291 A.fuel code7 kids8 order9 (A.add .i64 pc10 1) 0 o011 o112 o213 o214 o315 o416 (A.izero (A.rlen kids8)) o517 o618 o719 o820 o921 o1022 o1123 (fun code5573 kids5674 order5775 next5876 o05977 o16078 o26179 o26280 o36381 o46482 o56583 o66684 o76785 o86886 o96987 o107088 o117189 o127290 =>
                              spec_l7Walk_l5 A c_289 c_290 c_291 A.fuel code5573 kids5674 order5775 next5876 0 o05977 o16078 o26179 o26280 o36381 o46482 o56583 o66684 o76785 o86886 o96987 o107088 o117189 o127290 (fun code110127 kids111128 order112129 next113130 o0114131 o1115132 o2116133 o2117134 o3118135 o4119136 o5120137 o6121138 o7122139 o8123140 o9124141 o10125142 o11126143 =>
                                spec_l7Walk_l0 A c_289 c_290 c_291 n code110127 kids111128 order112129 next113130 o0114131 o1115132 o2116133 o2117134 o3118135 o4119136 o5120137 o6121138 o7122139 o8123140 o9124141 o10125142 o11126143 kret_0 kx0_0))
                          else
                            none
                        else
                          none
                      else
                        none
                    else
                      bif (A.eq (A.vget code7 pc10 0) 12) then
                        bif (A.inb (A.vget code7 pc10 1) (A.ilen o618)) then
                          bif (A.inb (A.vget code7 pc10 2) (A.ilen o011)) then
                            bif (A.inb (A.vget code7 pc10 1) (A.ilen o618)) then
                              bif (A.nz 65536) then
                                bif (A.inb (A.vget code7 pc10 3) (A.ilen o011)) then
                                  spec_l7Walk_l0 A c_289 c_290 c_291 n code7 kids8 order9 (A.add .i64 pc10 1) (A.iset o011 (A.vget code7 pc10 3) (A.rem .i64 (A.iget o618 (A.vget code7 pc10 1)) 65536)) o112 o213 o214 o315 o416 o517 (A.iset o618 (A.vget code7 pc10 1) (A.add .i64 1 (A.iget o011 (A.vget code7 pc10 2)))) o719 o820 o921 o1022 o1123 kret_0 kx0_0
                                else
                                  none
                              else
                                none
                            else
                              none
                          else
                            none
                        else
                          none
                      else
                        bif (A.eq (A.vget code7 pc10 0) 13) then
                          bif (A.inb (A.vget code7 pc10 2) (A.ilen o618)) then
                            bif (A.nz 65536) then
                              bif (A.inb (A.vget code7 pc10 1) (A.ilen o011)) then
                                spec_l7Walk_l0 A c_289 c_290 c_291 n code7 kids8 order9 (A.add .i64 pc10 1) (A.iset o011 (A.vget code7 pc10 1) (A.rem .i64 (A.iget o618 (A.vget code7 pc10 2)) 65536)) o112 o213 o214 o315 o416 o517 o618 o719 o820 o921 o1022 o1123 kret_0 kx0_0
                              else
                                none
                            else
                              none
                          else
                            none
                        else
                          bif (A.eq (A.vget code7 pc10 0) 14) then
                            bif (A.inb (A.vget code7 pc10 1) (A.ilen o618)) then
                              bif (A.inb (A.vget code7 pc10 1) (A.ilen o618)) then
                                bif (A.nz 65536) then
                                  bif (A.inb (A.vget code7 pc10 2) (A.ilen o011)) then
                                    spec_l7Walk_l0 A c_289 c_290 c_291 n code7 kids8 order9 (A.add .i64 pc10 1) (A.iset o011 (A.vget code7 pc10 2) (A.rem .i64 (A.iget o618 (A.vget code7 pc10 1)) 65536)) o112 o213 o214 o315 o416 o517 (A.iset o618 (A.vget code7 pc10 1) 0) o719 o820 o921 o1022 o1123 kret_0 kx0_0
                                  else
                                    none
                                else
                                  none
                              else
                                none
                            else
                              none
                          else
                            bif (A.eq (A.vget code7 pc10 0) 15) then
                              bif (A.inb (A.vget code7 pc10 1) (A.ilen o011)) then
                                bif (A.nz 65536) then
                                  spec_l7Walk_l0 A c_289 c_290 c_291 n code7 kids8 order9 (A.add .i64 pc10 1) o011 (A.rem .i64 (A.add .i64 o112 (A.iget o011 (A.vget code7 pc10 1))) 65536) o213 o214 o315 o416 o517 o618 o719 o820 o921 o1022 o1123 kret_0 kx0_0
                                else
                                  none
                              else
                                none
                            else
                              bif (A.eq (A.vget code7 pc10 0) 16) then
                                bif (A.inb (A.vget code7 pc10 1) (A.ilen o011)) then
                                  spec_l7Walk_l0 A c_289 c_290 c_291 n code7 kids8 order9 (A.add .i64 pc10 1) (A.iset o011 (A.vget code7 pc10 1) o112) o112 o213 o214 o315 o416 o517 o618 o719 o820 o921 o1022 o1123 kret_0 kx0_0
                                else
                                  none
                              else
                                c_291 (A.vget code7 pc10 0) (A.vget code7 pc10 1) (A.vget code7 pc10 2) (A.vget code7 pc10 3) o011 (fun r144 r145 =>
                                  spec_l7Walk_l0 A c_289 c_290 c_291 n code7 kids8 order9 (A.add .i64 pc10 1) r144 o112 o213 o214 o315 o416 o517 o618 o719 o820 o921 o1022 o1123 kret_0 kx0_0)
      else
        none
    else
      kx0_0 o011 o112 o213 o214 o517 o618 o719 o820 o921
noncomputable def spec_l7Walk_f (A : PM.Prims) (c_289 : spec_l7Copy_T) (c_290 : spec_EndOf_T) (c_291 : spec_Calc_T) (__ : List (List Int)) (a : List (List PM.C)) (r : List Int) (r_3 : List Int) (p4_Cells : List Int) (p4_Map : List Int) (p4_Count : Int) (k : (Int) → (List Int) → (List Int) → (List Int) → (Int) → PM.R) : PM.R :=
  c_289 p4_Cells p4_Map p4_Count (fun r1 r2 r3 =>
    bif (A.room (A.ilen []) (A.ilen r_3)) then
      c_289 p4_Cells p4_Map p4_Count (fun r4 r5 r6 =>
        spec_l7Walk_l0 A c_289 c_290 c_291 A.fuel __ a r 0 (A.iapp [] r_3) r6 0 0 r3 [] r4 r5 [] [] [] r1 r2 (fun o027155 o028156 o129157 o230158 o331159 =>
          k o027155 o129157 o230158 o331159 o028156) (fun o0146160 o1147161 o2148162 o2149163 o3150164 o4151165 o5152166 o6153167 o7154168 =>
          k 1 o0146160 o3150164 o4151165 o1147161))
    else
      none)
noncomputable def spec_l7Walk (A : PM.Prims) : spec_l7Walk_T := spec_l7Walk_f A (spec_l7Copy A) (spec_EndOf A) (spec_Calc A)
noncomputable def spec_l7Walk_L (A : PM.Prims) (c_289 : spec_l7Copy_T) (c_290 : spec_EndOf_T) (c_291 : spec_Calc_T) (n : Nat) : PM.Lam := fun cur σ K =>
  match cur, σ, K with
  | 0, ⟨[(0, .arr (.vecs 312 4 code7)), (1, .arr (.rows 233 kids8)), (2, .arr (.ints 3 .i64 order9)), (3, .sref 0), (9, .pbox 1 0), (10, .pbox 2 0), (11, .pbox 3 0), (12, .sref 4), (13, .int .i64 pc10)], [(0, .arr true (.ints 3 .i64 o011)), (1, .box [.sref 5, .sref 6, .int .i64 o112]), (2, .box [.int .i64 o213, .sref 7, .sref 8, .sref 9, .int .i64 o214]), (3, .box [.sref 10, .sref 11, .int .i64 o315]), (4, .arr true (.rows 378 o416)), (5, .arr true (.ints 3 .i64 o517)), (6, .arr true (.ints 3 .i64 o618)), (7, .arr true (.ints 3 .i64 o719)), (8, .arr true (.ints 3 .i64 o820)), (9, .arr true (.ints 3 .i64 o921)), (10, .arr true (.ints 3 .i64 o1022)), (11, .arr true (.ints 3 .i64 o1123))]⟩, K => spec_l7Walk_l0 A c_289 c_290 c_291 n code7 kids8 order9 pc10 o011 o112 o213 o214 o315 o416 o517 o618 o719 o820 o921 o1022 o1123 (fun o027 o028 o129 o230 o331 => K .ret ⟨[(10, .pbox 0 0)], [(0, .box [.int .i64 o027, .sref 1, .sref 2, .sref 3, .int .i64 o028]), (1, .arr true (.ints 3 .i64 o129)), (2, .arr true (.ints 3 .i64 o230)), (3, .arr true (.ints 3 .i64 o331))]⟩) (fun o0146 o1147 o2148 o2149 o3150 o4151 o5152 o6153 o7154 => K (.exit 0) ⟨[(3, .sref 0), (9, .pbox 1 0), (10, .pbox 2 0)], [(0, .arr true (.ints 3 .i64 o0146)), (1, .box [.sref 3, .sref 4, .int .i64 o1147]), (2, .box [.int .i64 o2148, .sref 5, .sref 6, .sref 7, .int .i64 o2149]), (3, .arr true (.ints 3 .i64 o3150)), (4, .arr true (.ints 3 .i64 o4151)), (5, .arr true (.ints 3 .i64 o5152)), (6, .arr true (.ints 3 .i64 o6153)), (7, .arr true (.ints 3 .i64 o7154))]⟩)
  | 3, ⟨[(0, .arr (.vecs 312 4 code36)), (1, .arr (.rows 233 kids37)), (2, .arr (.ints 3 .i64 order38)), (3, .sref 0), (9, .pbox 1 0), (10, .pbox 2 0), (11, .pbox 3 0), (12, .sref 4), (15, .int .i64 next39), (18, .sref 5), (19, .int .i64 i40)], [(0, .arr true (.ints 3 .i64 o041)), (1, .box [.sref 6, .sref 7, .int .i64 o142]), (2, .box [.int .i64 o243, .sref 8, .sref 9, .sref 10, .int .i64 o244]), (3, .box [.sref 11, .sref 12, .int .i64 o345]), (4, .arr true (.rows 378 o446)), (5, .arr true (.ints 3 .i64 o547)), (6, .arr true (.ints 3 .i64 o648)), (7, .arr true (.ints 3 .i64 o749)), (8, .arr true (.ints 3 .i64 o850)), (9, .arr true (.ints 3 .i64 o951)), (10, .arr true (.ints 3 .i64 o1052)), (11, .arr true (.ints 3 .i64 o1153)), (12, .arr true (.ints 3 .i64 o1254))]⟩, K => spec_l7Walk_l3 A c_289 c_290 c_291 n code36 kids37 order38 next39 i40 o041 o142 o243 o244 o345 o446 o547 o648 o749 o850 o951 o1052 o1153 o1254 (fun code55 kids56 order57 next58 o059 o160 o261 o262 o363 o464 o565 o666 o767 o868 o969 o1070 o1171 o1272 => K (.exit 3) ⟨[(0, .arr (.vecs 312 4 code55)), (1, .arr (.rows 233 kids56)), (2, .arr (.ints 3 .i64 order57)), (3, .sref 0), (9, .pbox 1 0), (10, .pbox 2 0), (11, .pbox 3 0), (12, .sref 4), (15, .int .i64 next58), (18, .sref 5)], [(0, .arr true (.ints 3 .i64 o059)), (1, .box [.sref 6, .sref 7, .int .i64 o160]), (2, .box [.int .i64 o261, .sref 8, .sref 9, .sref 10, .int .i64 o262]), (3, .box [.sref 11, .sref 12, .int .i64 o363]), (4, .arr true (.rows 378 o464)), (5, .arr true (.ints 3 .i64 o565)), (6, .arr true (.ints 3 .i64 o666)), (7, .arr true (.ints 3 .i64 o767)), (8, .arr true (.ints 3 .i64 o868)), (9, .arr true (.ints 3 .i64 o969)), (10, .arr true (.ints 3 .i64 o1070)), (11, .arr true (.ints 3 .i64 o1171)), (12, .arr true (.ints 3 .i64 o1272))]⟩)
  | 5, ⟨[(0, .arr (.vecs 312 4 code91)), (1, .arr (.rows 233 kids92)), (2, .arr (.ints 3 .i64 order93)), (3, .sref 0), (9, .pbox 1 0), (10, .pbox 2 0), (11, .pbox 3 0), (12, .sref 4), (15, .int .i64 next94), (18, .sref 5), (21, .int .i64 i95)], [(0, .arr true (.ints 3 .i64 o096)), (1, .box [.sref 6, .sref 7, .int .i64 o197]), (2, .box [.int .i64 o298, .sref 8, .sref 9, .sref 10, .int .i64 o299]), (3, .box [.sref 11, .sref 12, .int .i64 o3100]), (4, .arr true (.rows 378 o4101)), (5, .arr true (.ints 3 .i64 o5102)), (6, .arr true (.ints 3 .i64 o6103)), (7, .arr true (.ints 3 .i64 o7104)), (8, .arr true (.ints 3 .i64 o8105)), (9, .arr true (.ints 3 .i64 o9106)), (10, .arr true (.ints 3 .i64 o10107)), (11, .arr true (.ints 3 .i64 o11108)), (12, .arr true (.ints 3 .i64 o12109))]⟩, K => spec_l7Walk_l5 A c_289 c_290 c_291 n code91 kids92 order93 next94 i95 o096 o197 o298 o299 o3100 o4101 o5102 o6103 o7104 o8105 o9106 o10107 o11108 o12109 (fun code110 kids111 order112 next113 o0114 o1115 o2116 o2117 o3118 o4119 o5120 o6121 o7122 o8123 o9124 o10125 o11126 => K (.exit 5) ⟨[(0, .arr (.vecs 312 4 code110)), (1, .arr (.rows 233 kids111)), (2, .arr (.ints 3 .i64 order112)), (3, .sref 0), (9, .pbox 1 0), (10, .pbox 2 0), (11, .pbox 3 0), (12, .sref 4), (15, .int .i64 next113)], [(0, .arr true (.ints 3 .i64 o0114)), (1, .box [.sref 5, .sref 6, .int .i64 o1115]), (2, .box [.int .i64 o2116, .sref 7, .sref 8, .sref 9, .int .i64 o2117]), (3, .box [.sref 10, .sref 11, .int .i64 o3118]), (4, .arr true (.rows 378 o4119)), (5, .arr true (.ints 3 .i64 o5120)), (6, .arr true (.ints 3 .i64 o6121)), (7, .arr true (.ints 3 .i64 o7122)), (8, .arr true (.ints 3 .i64 o8123)), (9, .arr true (.ints 3 .i64 o9124)), (10, .arr true (.ints 3 .i64 o10125)), (11, .arr true (.ints 3 .i64 o11126))]⟩)
  | _, _, _ => none
noncomputable def spec_l7Walk_E (A : PM.Prims) (c_289 : spec_l7Copy_T) (c_290 : spec_EndOf_T) (c_291 : spec_Calc_T) : PM.Env := ⟨[(289, ⟨[], spec_l7Copy_w c_289, none⟩), (290, ⟨[], spec_EndOf_w c_290, none⟩), (291, ⟨[], spec_Calc_w c_291, none⟩)], [], [(0, [0, 1, 2, 3, 9, 10, 11, 12, 13], [3, 9, 10]), (3, [0, 1, 2, 3, 9, 10, 11, 12, 15, 18, 19], [0, 1, 2, 3, 9, 10, 11, 12, 15, 18]), (5, [0, 1, 2, 3, 9, 10, 11, 12, 15, 18, 21], [0, 1, 2, 3, 9, 10, 11, 12, 15])], [(0, [0, 1, 2, 3, 9, 10]), (1, [0, 1, 2, 3, 9, 10, 11]), (2, [0, 1, 2, 3, 9, 10, 11]), (3, [0, 1, 2, 3, 9, 10, 11]), (4, [0, 1, 2, 3, 9, 10, 11, 12]), (5, [0, 1, 2, 3, 9, 10, 11, 12, 13]), (6, [0, 1, 2, 3, 9, 10, 11, 12, 13, 37]), (7, [0, 1, 2, 3, 9, 10, 11, 12, 13, 14]), (8, [0, 1, 2, 3, 9, 10, 11, 12, 13, 14, 15]), (9, [0, 1, 2, 3, 9, 10, 11, 12, 13, 14, 15, 45]), (10, [0, 1, 2, 9, 10, 11, 12, 15, 24]), (11, [0, 1, 2, 3, 9, 10, 11, 12, 15]), (12, [0, 1, 2, 3, 9, 10, 11, 12, 13, 14, 15, 45, 53]), (13, [0, 1, 2, 3, 9, 10, 11, 12, 15]), (14, [0, 1, 2, 3, 9, 10, 11, 12, 13, 14, 15, 45, 65]), (15, [0, 1, 2, 3, 9, 10, 11, 12, 15]), (16, [0, 1, 2, 3, 9, 10, 11, 12, 13, 14, 15, 45, 77]), (17, [0, 1, 2, 3, 9, 10, 11, 12, 14, 15, 84]), (18, [0, 1, 2, 3, 9, 10, 11, 12, 15]), (19, [0, 1, 2, 3, 9, 10, 11, 12, 13, 14, 15, 45, 89]), (20, [0, 1, 2, 3, 9, 10, 11, 12, 15]), (21, [0, 1, 2, 3, 9, 10, 11, 12, 14, 15, 45, 101]), (22, [0, 1, 2, 3, 9, 10, 11, 12, 15, 16]), (23, [0, 1, 2, 3, 9, 10, 11, 12, 15, 16]), (24, [0, 1, 2, 3, 9, 10, 11, 12, 15]), (25, [0, 1, 2, 3, 9, 10, 11, 12, 14, 15, 45, 122]), (26, [0, 1, 2, 3, 9, 10, 11, 12, 126]), (27, [10]), (28, [0, 1, 2, 9, 10, 11, 12, 17]), (29, [0, 1, 2, 9, 10, 11, 12, 17]), (30, [0, 1, 2, 3, 9, 10, 11, 12, 17]), (31, [0, 1, 2, 3, 9, 10, 11, 12, 17]), (32, [0, 1, 2, 3, 9, 10, 11, 12, 17]), (33, [0, 1, 2, 3, 9, 10, 11, 12, 15]), (34, [0, 1, 2, 3, 9, 10, 11, 12, 14, 15, 45, 161]), (35, [0, 1, 2, 3, 9, 10, 11, 12, 15, 18]), (36, [0, 1, 2, 3, 9, 10, 11, 12, 15, 18, 19]), (37, [0, 1, 2, 3, 9, 10, 11, 12, 15, 18, 19, 169]), (38, [0, 1, 2, 3, 9, 10, 11, 12, 15, 18, 19]), (39, [0, 1, 2, 3, 9, 10, 11, 12, 15, 18, 19, 20]), (40, [0, 1, 2, 3, 9, 10, 11, 12, 15, 18, 19, 20]), (41, [0, 1, 2, 3, 9, 10, 11, 12, 15, 18, 19, 20, 187]), (42, [0, 1, 2, 3, 9, 10, 11, 12, 15, 18, 19]), (43, [0, 1, 2, 3, 9, 10, 11, 12, 15, 18, 21]), (44, [0, 1, 2, 3, 9, 10, 11, 12, 15, 18, 21, 201]), (45, [0, 1, 2, 3, 9, 10, 11, 12, 15, 18, 21]), (46, [0, 1, 2, 3, 9, 10, 11, 12, 15, 18, 21]), (47, [0, 1, 2, 3, 9, 10, 11, 12, 14, 15, 45, 211]), (48, [0, 1, 2, 3, 9, 10, 11, 12, 14, 15, 22]), (49, [0, 1, 2, 3, 9, 10, 11, 12, 14, 15, 22]), (50, [0, 1, 2, 3, 9, 10, 11, 12, 15]), (51, [0, 1, 2, 3, 9, 10, 11, 12, 14, 15, 45, 236]), (52, [0, 1, 2, 3, 9, 10, 11, 12, 15]), (53, [0, 1, 2, 3, 9, 10, 11, 12, 14, 15, 45, 249]), (54, [0, 1, 2, 3, 9, 10, 11, 12, 14, 15, 23]), (55, [0, 1, 2, 3, 9, 10, 11, 12, 14, 15, 23]), (56, [0, 1, 2, 3, 9, 10, 11, 12, 15]), (57, [0, 1, 2, 3, 9, 10, 11, 12, 14, 15, 45, 268]), (58, [0, 1, 2, 3, 9, 10, 11, 12, 15]), (59, [0, 1, 2, 3, 9, 10, 11, 12, 14, 15, 280]), (60, [0, 1, 2, 3, 9, 10, 11, 12, 15]), (61, [0, 1, 2, 3, 9, 10, 11, 12, 13]), (62, [10])], spec_l7Walk_L A c_289 c_290 c_291 A.fuel⟩
theorem spec_l7Walk_l0_ok (A : PM.Prims) (c_289 : spec_l7Copy_T) (c_290 : spec_EndOf_T) (c_291 : spec_Calc_T) (n : Nat) (code7 : List (List Int)) (kids8 : List (List C)) (order9 : List Int) (pc10 : Int) (o011 : List Int) (o112 : Int) (o213 : Int) (o214 : Int) (o315 : Int) (o416 : List (List C)) (o517 : List Int) (o618 : List Int) (o719 : List Int) (o820 : List Int) (o921 : List Int) (o1022 : List Int) (o1123 : List Int) (K : Go.Exit → PM.S → PM.R) : spec_l7Walk_L A c_289 c_290 c_291 (n + 1) 0 ⟨[(0, .arr (.vecs 312 4 code7)), (1, .arr (.rows 233 kids8)), (2, .arr (.ints 3 .i64 order9)), (3, .sref 0), (9, .pbox 1 0), (10, .pbox 2 0), (11, .pbox 3 0), (12, .sref 4), (13, .int .i64 pc10)], [(0, .arr true (.ints 3 .i64 o011)), (1, .box [.sref 5, .sref 6, .int .i64 o112]), (2, .box [.int .i64 o213, .sref 7, .sref 8, .sref 9, .int .i64 o214]), (3, .box [.sref 10, .sref 11, .int .i64 o315]), (4, .arr true (.rows 378 o416)), (5, .arr true (.ints 3 .i64 o517)), (6, .arr true (.ints 3 .i64 o618)), (7, .arr true (.ints 3 .i64 o719)), (8, .arr true (.ints 3 .i64 o820)), (9, .arr true (.ints 3 .i64 o921)), (10, .arr true (.ints 3 .i64 o1022)), (11, .arr true (.ints 3 .i64 o1123))]⟩ K = PM.roundF A cx (PM.runD A cx (spec_l7Walk_E A c_289 c_290 c_291).inl (spec_l7Walk_E A c_289 c_290 c_291).Γ 3) (spec_l7Walk_E A c_289 c_290 c_291) (spec_l7Walk_L A c_289 c_290 c_291 n) 0 Go.Proofs.Try.f238 ⟨[(0, .arr (.vecs 312 4 code7)), (1, .arr (.rows 233 kids8)), (2, .arr (.ints 3 .i64 order9)), (3, .sref 0), (9, .pbox 1 0), (10, .pbox 2 0), (11, .pbox 3 0), (12, .sref 4), (13, .int .i64 pc10)], [(0, .arr true (.ints 3 .i64 o011)), (1, .box [.sref 5, .sref 6, .int .i64 o112]), (2, .box [.int .i64 o213, .sref 7, .sref 8, .sref 9, .int .i64 o214]), (3, .box [.sref 10, .sref 11, .int .i64 o315]), (4, .arr true (.rows 378 o416)), (5, .arr true (.ints 3 .i64 o517)), (6, .arr true (.ints 3 .i64 o618)), (7, .arr true (.ints 3 .i64 o719)), (8, .arr true (.ints 3 .i64 o820)), (9, .arr true (.ints 3 .i64 o921)), (10, .arr true (.ints 3 .i64 o1022)), (11, .arr true (.ints 3 .i64 o1123))]⟩ K := by kernel_rfl
theorem spec_l7Walk_l3_ok (A : PM.Prims) (c_289 : spec_l7Copy_T) (c_290 : spec_EndOf_T) (c_291 : spec_Calc_T) (n : Nat) (code36 : List (List Int)) (kids37 : List (List C)) (order38 : List Int) (next39 : Int) (i40 : Int) (o041 : List Int) (o142 : Int) (o243 : Int) (o244 : Int) (o345 : Int) (o446 : List (List C)) (o547 : List Int) (o648 : List Int) (o749 : List Int) (o850 : List Int) (o951 : List Int) (o1052 : List Int) (o1153 : List Int) (o1254 : List Int) (K : Go.Exit → PM.S → PM.R) : spec_l7Walk_L A c_289 c_290 c_291 (n + 1) 3 ⟨[(0, .arr (.vecs 312 4 code36)), (1, .arr (.rows 233 kids37)), (2, .arr (.ints 3 .i64 order38)), (3, .sref 0), (9, .pbox 1 0), (10, .pbox 2 0), (11, .pbox 3 0), (12, .sref 4), (15, .int .i64 next39), (18, .sref 5), (19, .int .i64 i40)], [(0, .arr true (.ints 3 .i64 o041)), (1, .box [.sref 6, .sref 7, .int .i64 o142]), (2, .box [.int .i64 o243, .sref 8, .sref 9, .sref 10, .int .i64 o244]), (3, .box [.sref 11, .sref 12, .int .i64 o345]), (4, .arr true (.rows 378 o446)), (5, .arr true (.ints 3 .i64 o547)), (6, .arr true (.ints 3 .i64 o648)), (7, .arr true (.ints 3 .i64 o749)), (8, .arr true (.ints 3 .i64 o850)), (9, .arr true (.ints 3 .i64 o951)), (10, .arr true (.ints 3 .i64 o1052)), (11, .arr true (.ints 3 .i64 o1153)), (12, .arr true (.ints 3 .i64 o1254))]⟩ K = PM.roundF A cx (PM.runD A cx (spec_l7Walk_E A c_289 c_290 c_291).inl (spec_l7Walk_E A c_289 c_290 c_291).Γ 3) (spec_l7Walk_E A c_289 c_290 c_291) (spec_l7Walk_L A c_289 c_290 c_291 n) 3 Go.Proofs.Try.f238 ⟨[(0, .arr (.vecs 312 4 code36)), (1, .arr (.rows 233 kids37)), (2, .arr (.ints 3 .i64 order38)), (3, .sref 0), (9, .pbox 1 0), (10, .pbox 2 0), (11, .pbox 3 0), (12, .sref 4), (15, .int .i64 next39), (18, .sref 5), (19, .int .i64 i40)], [(0, .arr true (.ints 3 .i64 o041)), (1, .box [.sref 6, .sref 7, .int .i64 o142]), (2, .box [.int .i64 o243, .sref 8, .sref 9, .sref 10, .int .i64 o244]), (3, .box [.sref 11, .sref 12, .int .i64 o345]), (4, .arr true (.rows 378 o446)), (5, .arr true (.ints 3 .i64 o547)), (6, .arr true (.ints 3 .i64 o648)), (7, .arr true (.ints 3 .i64 o749)), (8, .arr true (.ints 3 .i64 o850)), (9, .arr true (.ints 3 .i64 o951)), (10, .arr true (.ints 3 .i64 o1052)), (11, .arr true (.ints 3 .i64 o1153)), (12, .arr true (.ints 3 .i64 o1254))]⟩ K := by kernel_rfl
theorem spec_l7Walk_l5_ok (A : PM.Prims) (c_289 : spec_l7Copy_T) (c_290 : spec_EndOf_T) (c_291 : spec_Calc_T) (n : Nat) (code91 : List (List Int)) (kids92 : List (List C)) (order93 : List Int) (next94 : Int) (i95 : Int) (o096 : List Int) (o197 : Int) (o298 : Int) (o299 : Int) (o3100 : Int) (o4101 : List (List C)) (o5102 : List Int) (o6103 : List Int) (o7104 : List Int) (o8105 : List Int) (o9106 : List Int) (o10107 : List Int) (o11108 : List Int) (o12109 : List Int) (K : Go.Exit → PM.S → PM.R) : spec_l7Walk_L A c_289 c_290 c_291 (n + 1) 5 ⟨[(0, .arr (.vecs 312 4 code91)), (1, .arr (.rows 233 kids92)), (2, .arr (.ints 3 .i64 order93)), (3, .sref 0), (9, .pbox 1 0), (10, .pbox 2 0), (11, .pbox 3 0), (12, .sref 4), (15, .int .i64 next94), (18, .sref 5), (21, .int .i64 i95)], [(0, .arr true (.ints 3 .i64 o096)), (1, .box [.sref 6, .sref 7, .int .i64 o197]), (2, .box [.int .i64 o298, .sref 8, .sref 9, .sref 10, .int .i64 o299]), (3, .box [.sref 11, .sref 12, .int .i64 o3100]), (4, .arr true (.rows 378 o4101)), (5, .arr true (.ints 3 .i64 o5102)), (6, .arr true (.ints 3 .i64 o6103)), (7, .arr true (.ints 3 .i64 o7104)), (8, .arr true (.ints 3 .i64 o8105)), (9, .arr true (.ints 3 .i64 o9106)), (10, .arr true (.ints 3 .i64 o10107)), (11, .arr true (.ints 3 .i64 o11108)), (12, .arr true (.ints 3 .i64 o12109))]⟩ K = PM.roundF A cx (PM.runD A cx (spec_l7Walk_E A c_289 c_290 c_291).inl (spec_l7Walk_E A c_289 c_290 c_291).Γ 3) (spec_l7Walk_E A c_289 c_290 c_291) (spec_l7Walk_L A c_289 c_290 c_291 n) 5 Go.Proofs.Try.f238 ⟨[(0, .arr (.vecs 312 4 code91)), (1, .arr (.rows 233 kids92)), (2, .arr (.ints 3 .i64 order93)), (3, .sref 0), (9, .pbox 1 0), (10, .pbox 2 0), (11, .pbox 3 0), (12, .sref 4), (15, .int .i64 next94), (18, .sref 5), (21, .int .i64 i95)], [(0, .arr true (.ints 3 .i64 o096)), (1, .box [.sref 6, .sref 7, .int .i64 o197]), (2, .box [.int .i64 o298, .sref 8, .sref 9, .sref 10, .int .i64 o299]), (3, .box [.sref 11, .sref 12, .int .i64 o3100]), (4, .arr true (.rows 378 o4101)), (5, .arr true (.ints 3 .i64 o5102)), (6, .arr true (.ints 3 .i64 o6103)), (7, .arr true (.ints 3 .i64 o7104)), (8, .arr true (.ints 3 .i64 o8105)), (9, .arr true (.ints 3 .i64 o9106)), (10, .arr true (.ints 3 .i64 o10107)), (11, .arr true (.ints 3 .i64 o11108)), (12, .arr true (.ints 3 .i64 o12109))]⟩ K := by kernel_rfl
theorem spec_l7Walk_ok (A : PM.Prims) (c_289 : spec_l7Copy_T) (c_290 : spec_EndOf_T) (c_291 : spec_Calc_T) (__ : List (List Int)) (a : List (List PM.C)) (r : List Int) (r_3 : List Int) (p4_Cells : List Int) (p4_Map : List Int) (p4_Count : Int) (k : PM.V → PM.R) : PM.pfun A cx [] (spec_l7Walk_E A c_289 c_290 c_291) Go.Proofs.Try.f238 [.arr (.vecs 312 4 __), .arr (.rows 233 a), .arr (.ints 3 .i64 r), .arr (.ints 3 .i64 r_3), .agg [.arr (.ints 3 .i64 p4_Cells), .arr (.ints 3 .i64 p4_Map), .int .i64 p4_Count]] k = spec_l7Walk_f A c_289 c_290 c_291 __ a r r_3 p4_Cells p4_Map p4_Count (fun r0_Out r0_Regs r0_Things_Cells r0_Things_Map r0_Things_Count => k (.agg [.int .i64 r0_Out, .arr (.ints 3 .i64 r0_Regs), .arr (.ints 3 .i64 r0_Things_Cells), .arr (.ints 3 .i64 r0_Things_Map), .int .i64 r0_Things_Count])) := by kernel_rfl

theorem spec_l7Walk_fn : PM.FnIs Try.prog 238 Try.f238 := .of Try.func238 (by kernel_rfl) (by kernel_rfl)
theorem spec_l7Walk_g : PM.GOk Try.prog cx 238 ⟨[], spec_l7Walk_w (spec_l7Walk PM.std), none⟩ := by
  refine ⟨spec_l7Walk_fn.enter, fun _ ds k r h => ?_, fun hm => absurd rfl hm, fun _ e => (by cases e)⟩
  change spec_l7Walk_w (spec_l7Walk PM.std) ds k = some r at h
  unfold spec_l7Walk_w at h
  split at h
  · exact PM.pfun_ok (E := spec_l7Walk_E PM.std (spec_l7Copy PM.std) (spec_EndOf PM.std) (spec_Calc PM.std)) (L := fun n => spec_l7Walk_L PM.std (spec_l7Copy PM.std) (spec_EndOf PM.std) (spec_Calc PM.std) n) (N := PM.std.fuel) cx_ok (.cons spec_l7Copy_g (.cons spec_EndOf_g (.cons spec_Calc_g .nil))) mixed .nil spec_l7Walk_fn (by kernel_rfl) ⟨rfl, fun cur σ K => by
      dsimp only [spec_l7Walk_L]
      split <;> rfl, fun n cur σ K r h => by
      dsimp only [spec_l7Walk_L] at h
      split at h
      · exact (spec_l7Walk_l0_ok PM.std (spec_l7Copy PM.std) (spec_EndOf PM.std) (spec_Calc PM.std) n _ _ _ _ _ _ _ _ _ _ _ _ _ _ _ _ _ K).symm.trans h
      · exact (spec_l7Walk_l3_ok PM.std (spec_l7Copy PM.std) (spec_EndOf PM.std) (spec_Calc PM.std) n _ _ _ _ _ _ _ _ _ _ _ _ _ _ _ _ _ _ _ K).symm.trans h
      · exact (spec_l7Walk_l5_ok PM.std (spec_l7Copy PM.std) (spec_EndOf PM.std) (spec_Calc PM.std) n _ _ _ _ _ _ _ _ _ _ _ _ _ _ _ _ _ _ _ K).symm.trans h
      · cases h⟩
      ((spec_l7Walk_ok PM.std (spec_l7Copy PM.std) (spec_EndOf PM.std) (spec_Calc PM.std) _ _ _ _ _ _ _ k).trans h)
  · cases h

abbrev spec_SerialKid_T := (List (List Int)) → (List Int) → (List Int) → ((Int) → (List Int) → (List Int) → PM.R) → PM.R
noncomputable def spec_SerialKid_w (c : spec_SerialKid_T) (ds : List PM.V) (k : PM.V → PM.R) : PM.R :=
  match ds with
  | [.arr (.vecs 312 4 code), .arr (.ints 3 .i64 regs), .arr (.ints 3 .i64 cells)] => c code regs cells (fun r0 r1 r2 => k (.tup [.int .i64 r0, .arr (.ints 3 .i64 r1), .arr (.ints 3 .i64 r2)]))
  | _ => none
noncomputable def spec_SerialKid_f (A : PM.Prims) (c_107 : spec_l3Vals_T) (c_163 : spec_l4Regs_T) (c_164 : spec_KidOk_T) (c_238 : spec_l7Walk_T) (code : List (List Int)) (regs : List Int) (cells : List Int) (k : (Int) → (List Int) → (List Int) → PM.R) : PM.R :=
  c_164 code (fun r1 =>
    bif (A.not r1) then
      k 0 [] []
    else
      c_163 regs (fun r2 =>
        bif (A.not r2) then
          k 0 [] []
        else
          c_107 cells (fun r3 =>
            bif (A.not r3) then
              k 0 [] []
            else
              bif (A.mkOk 8) then
                bif (A.le 8 8) then
                  bif (A.mkOk 8) then
                    c_238 code [] [] regs cells (A.izero 8) 0 (fun r4 r5 r6 r7 r8 =>
                      k r4 r5 r6)
                  else
                    none
                else
                  none
              else
                none)))
noncomputable def spec_SerialKid (A : PM.Prims) : spec_SerialKid_T := spec_SerialKid_f A (spec_l3Vals A) (spec_l4Regs A) (spec_KidOk A) (spec_l7Walk A)
noncomputable def spec_SerialKid_L (A : PM.Prims) (c_107 : spec_l3Vals_T) (c_163 : spec_l4Regs_T) (c_164 : spec_KidOk_T) (c_238 : spec_l7Walk_T) (n : Nat) : PM.Lam := fun cur σ K =>
  match cur, σ, K with
  | _, _, _ => none
noncomputable def spec_SerialKid_E (A : PM.Prims) (c_107 : spec_l3Vals_T) (c_163 : spec_l4Regs_T) (c_164 : spec_KidOk_T) (c_238 : spec_l7Walk_T) : PM.Env := ⟨[(107, ⟨[], spec_l3Vals_w c_107, none⟩), (163, ⟨[], spec_l4Regs_w c_163, none⟩), (164, ⟨[], spec_KidOk_w c_164, none⟩), (238, ⟨[], spec_l7Walk_w c_238, none⟩)], [], [], [(0, [0, 1, 2]), (1, [0, 1, 2, 22]), (2, [6, 7, 8]), (3, [9]), (4, [6, 7, 8])], spec_SerialKid_L A c_107 c_163 c_164 c_238 A.fuel⟩
theorem spec_SerialKid_ok (A : PM.Prims) (c_107 : spec_l3Vals_T) (c_163 : spec_l4Regs_T) (c_164 : spec_KidOk_T) (c_238 : spec_l7Walk_T) (code : List (List Int)) (regs : List Int) (cells : List Int) (k : PM.V → PM.R) : PM.pfun A cx [] (spec_SerialKid_E A c_107 c_163 c_164 c_238) Go.Proofs.Try.f185 [.arr (.vecs 312 4 code), .arr (.ints 3 .i64 regs), .arr (.ints 3 .i64 cells)] k = spec_SerialKid_f A c_107 c_163 c_164 c_238 code regs cells (fun r0 r1 r2 => k (.tup [.int .i64 r0, .arr (.ints 3 .i64 r1), .arr (.ints 3 .i64 r2)])) := by kernel_rfl

theorem spec_SerialKid_fn : PM.FnIs Try.prog 185 Try.f185 := .of Try.func185 (by kernel_rfl) (by kernel_rfl)
theorem spec_SerialKid_g : PM.GOk Try.prog cx 185 ⟨[], spec_SerialKid_w (spec_SerialKid PM.std), none⟩ := by
  refine ⟨spec_SerialKid_fn.enter, fun _ ds k r h => ?_, fun hm => absurd rfl hm, fun _ e => (by cases e)⟩
  change spec_SerialKid_w (spec_SerialKid PM.std) ds k = some r at h
  unfold spec_SerialKid_w at h
  split at h
  · exact PM.pfun_ok (E := spec_SerialKid_E PM.std (spec_l3Vals PM.std) (spec_l4Regs PM.std) (spec_KidOk PM.std) (spec_l7Walk PM.std)) (L := fun n => spec_SerialKid_L PM.std (spec_l3Vals PM.std) (spec_l4Regs PM.std) (spec_KidOk PM.std) (spec_l7Walk PM.std) n) (N := PM.std.fuel) cx_ok (.cons spec_l3Vals_g (.cons spec_l4Regs_g (.cons spec_KidOk_g (.cons spec_l7Walk_g .nil)))) mixed .nil spec_SerialKid_fn (by kernel_rfl) ⟨rfl, fun _ _ _ => rfl, fun n cur σ K r h => by cases h⟩
      ((spec_SerialKid_ok PM.std (spec_l3Vals PM.std) (spec_l4Regs PM.std) (spec_KidOk PM.std) (spec_l7Walk PM.std) _ _ _ k).trans h)
  · cases h

abbrev spec_FamSerial_T := (List Int) → (List Int) → (List (List Int)) → (List (List PM.C)) → (List Int) → (List Int) → ((List Int) → (List Int) → PM.R) → PM.R
noncomputable def spec_FamSerial_w (c : spec_FamSerial_T) (ds : List PM.V) (k : PM.V → PM.R) : PM.R :=
  match ds with
  | [.agg [.arr (.ints 3 .i64 ___Cells), .arr (.ints 3 .i64 ___Regs), .arr (.vecs 161 2 ___Writes), .arr (.rows 233 ___Kids), .arr (.ints 3 .i64 ___Acts)], .arr (.ints 3 .i64 a)] => c ___Cells ___Regs ___Writes ___Kids ___Acts a (fun r0 r1 => k (.tup [.arr (.ints 3 .i64 r0), .arr (.ints 3 .i64 r1)]))
  | _ => none
noncomputable def spec_FamSerial_l0 (A : PM.Prims) (c_73 : spec_FamOk_T) (c_184 : spec_l7Order_T) (c_29 : spec_Overlay_T) (c_168 : spec_l13Ints_T) (c_185 : spec_SerialKid_T) : Nat → (Int) → (List Int) → (List Int) → (List (List Int)) → (List (List C)) → (List Int) → (List Int) → (List Int) → (List Int) → ((List Int) → (List Int) → PM.R) → PM.R
  | 0, _, _, _, _, _, _, _, _, _, _ => none
  | n + 1, i6, o07, o08, o09, o010, o011, o112, o213, o314, kx0_0 =>
    bif (A.lt i6 (A.ilen o112)) then
      bif (A.inb i6 (A.ilen o112)) then
        bif (A.inb (A.iget o112 i6) (A.rlen o010)) then
          c_185 (A.rsv 4 o010 (A.iget o112 i6) 0) o08 o213 (fun r15 r16 r17 =>
            bif (A.inb i6 (A.ilen o112)) then
              bif (A.inb (A.iget o112 i6) (A.ilen o314)) then
                bif (A.eq r15 1) then
                  bif (A.inb i6 (A.ilen o112)) then
                    bif (A.inb 0 (A.ilen r16)) then
                      bif (A.inb (A.iget o112 i6) (A.ilen (A.iset o314 (A.iget o112 i6) 0))) then
                        spec_FamSerial_l0 A c_73 c_184 c_29 c_168 c_185 n (A.add .i64 i6 1) o07 o08 o09 o010 o011 o112 r17 (A.iset (A.iset o314 (A.iget o112 i6) 0) (A.iget o112 i6) (A.iget r16 0)) kx0_0
                      else
                        none
                    else
                      none
                  else
                    none
                else
                  spec_FamSerial_l0 A c_73 c_184 c_29 c_168 c_185 n (A.add .i64 i6 1) o07 o08 o09 o010 o011 o112 r17 (A.iset o314 (A.iget o112 i6) 0) kx0_0
              else
                none
            else
              none)
        else
          none
      else
        none
    else
      kx0_0 o213 o314
noncomputable def spec_FamSerial_f (A : PM.Prims) (c_73 : spec_FamOk_T) (c_184 : spec_l7Order_T) (c_29 : spec_Overlay_T) (c_168 : spec_l13Ints_T) (c_185 : spec_SerialKid_T) (___Cells : List Int) (___Regs : List Int) (___Writes : List (List Int)) (___Kids : List (List PM.C)) (___Acts : List Int) (a : List Int) (k : (List Int) → (List Int) → PM.R) : PM.R :=
  c_73 ___Cells ___Regs ___Writes ___Kids ___Acts (fun r1 =>
    bif (A.not r1) then
      k [] []
    else
      c_184 a (A.rlen ___Kids) (fun r2 r3 =>
        bif (A.not r3) then
          k [] []
        else
          c_29 ___Cells ___Writes (fun r4 =>
            c_168 ___Regs (fun r5 =>
              spec_FamSerial_l0 A c_73 c_184 c_29 c_168 c_185 A.fuel 0 ___Cells ___Regs ___Writes ___Kids ___Acts r2 r4 r5 (fun o01820 o11921 =>
                k o11921 o01820)))))
noncomputable def spec_FamSerial (A : PM.Prims) : spec_FamSerial_T := spec_FamSerial_f A (spec_FamOk A) (spec_l7Order A) (spec_Overlay A) (spec_l13Ints A) (spec_SerialKid A)
noncomputable def spec_FamSerial_L (A : PM.Prims) (c_73 : spec_FamOk_T) (c_184 : spec_l7Order_T) (c_29 : spec_Overlay_T) (c_168 : spec_l13Ints_T) (c_185 : spec_SerialKid_T) (n : Nat) : PM.Lam := fun cur σ K =>
  match cur, σ, K with
  | 0, ⟨[(2, .pbox 0 0), (6, .sref 1), (8, .sref 2), (9, .sref 3), (10, .int .i64 i6)], [(0, .box [.arr (.ints 3 .i64 o07), .arr (.ints 3 .i64 o08), .arr (.vecs 161 2 o09), .arr (.rows 233 o010), .arr (.ints 3 .i64 o011)]), (1, .arr true (.ints 3 .i64 o112)), (2, .arr true (.ints 3 .i64 o213)), (3, .arr true (.ints 3 .i64 o314))]⟩, K => spec_FamSerial_l0 A c_73 c_184 c_29 c_168 c_185 n i6 o07 o08 o09 o010 o011 o112 o213 o314 (fun o018 o119 => K (.exit 0) ⟨[(8, .sref 0), (9, .sref 1)], [(0, .arr true (.ints 3 .i64 o018)), (1, .arr true (.ints 3 .i64 o119))]⟩)
  | _, _, _ => none
noncomputable def spec_FamSerial_E (A : PM.Prims) (c_73 : spec_FamOk_T) (c_184 : spec_l7Order_T) (c_29 : spec_Overlay_T) (c_168 : spec_l13Ints_T) (c_185 : spec_SerialKid_T) : PM.Env := ⟨[(73, ⟨[], spec_FamOk_w c_73, none⟩), (184, ⟨[], spec_l7Order_w c_184, none⟩), (29, ⟨[], spec_Overlay_w c_29, none⟩), (168, ⟨[], spec_l13Ints_w c_168, none⟩), (185, ⟨[], spec_SerialKid_w c_185, none⟩)], [], [(0, [2, 6, 8, 9, 10], [4, 5, 8, 9])], [(0, [1, 2]), (1, [1, 2, 16]), (2, [4, 5]), (3, [2, 6, 7]), (4, [2, 6, 28]), (5, [4, 5]), (6, [2, 6, 8]), (7, [2, 6, 8, 9]), (8, [2, 6, 8, 9, 10]), (9, [2, 6, 8, 9, 10, 42]), (10, [2, 6, 8, 9, 10]), (11, [2, 6, 9, 10, 11, 12, 13]), (12, [2, 6, 8, 9, 10, 11, 12]), (13, [2, 6, 8, 9, 10, 11, 12]), (14, [2, 6, 8, 9, 10, 12, 70]), (15, [2, 6, 8, 9, 10]), (16, [4, 5])], spec_FamSerial_L A c_73 c_184 c_29 c_168 c_185 A.fuel⟩
theorem spec_FamSerial_l0_ok (A : PM.Prims) (c_73 : spec_FamOk_T) (c_184 : spec_l7Order_T) (c_29 : spec_Overlay_T) (c_168 : spec_l13Ints_T) (c_185 : spec_SerialKid_T) (n : Nat) (i6 : Int) (o07 : List Int) (o08 : List Int) (o09 : List (List Int)) (o010 : List (List C)) (o011 : List Int) (o112 : List Int) (o213 : List Int) (o314 : List Int) (K : Go.Exit → PM.S → PM.R) : spec_FamSerial_L A c_73 c_184 c_29 c_168 c_185 (n + 1) 0 ⟨[(2, .pbox 0 0), (6, .sref 1), (8, .sref 2), (9, .sref 3), (10, .int .i64 i6)], [(0, .box [.arr (.ints 3 .i64 o07), .arr (.ints 3 .i64 o08), .arr (.vecs 161 2 o09), .arr (.rows 233 o010), .arr (.ints 3 .i64 o011)]), (1, .arr true (.ints 3 .i64 o112)), (2, .arr true (.ints 3 .i64 o213)), (3, .arr true (.ints 3 .i64 o314))]⟩ K = PM.roundF A cx (PM.runD A cx (spec_FamSerial_E A c_73 c_184 c_29 c_168 c_185).inl (spec_FamSerial_E A c_73 c_184 c_29 c_168 c_185).Γ 3) (spec_FamSerial_E A c_73 c_184 c_29 c_168 c_185) (spec_FamSerial_L A c_73 c_184 c_29 c_168 c_185 n) 0 Go.Proofs.Try.f89 ⟨[(2, .pbox 0 0), (6, .sref 1), (8, .sref 2), (9, .sref 3), (10, .int .i64 i6)], [(0, .box [.arr (.ints 3 .i64 o07), .arr (.ints 3 .i64 o08), .arr (.vecs 161 2 o09), .arr (.rows 233 o010), .arr (.ints 3 .i64 o011)]), (1, .arr true (.ints 3 .i64 o112)), (2, .arr true (.ints 3 .i64 o213)), (3, .arr true (.ints 3 .i64 o314))]⟩ K := by kernel_rfl
theorem spec_FamSerial_ok (A : PM.Prims) (c_73 : spec_FamOk_T) (c_184 : spec_l7Order_T) (c_29 : spec_Overlay_T) (c_168 : spec_l13Ints_T) (c_185 : spec_SerialKid_T) (___Cells : List Int) (___Regs : List Int) (___Writes : List (List Int)) (___Kids : List (List PM.C)) (___Acts : List Int) (a : List Int) (k : PM.V → PM.R) : PM.pfun A cx [] (spec_FamSerial_E A c_73 c_184 c_29 c_168 c_185) Go.Proofs.Try.f89 [.agg [.arr (.ints 3 .i64 ___Cells), .arr (.ints 3 .i64 ___Regs), .arr (.vecs 161 2 ___Writes), .arr (.rows 233 ___Kids), .arr (.ints 3 .i64 ___Acts)], .arr (.ints 3 .i64 a)] k = spec_FamSerial_f A c_73 c_184 c_29 c_168 c_185 ___Cells ___Regs ___Writes ___Kids ___Acts a (fun r0 r1 => k (.tup [.arr (.ints 3 .i64 r0), .arr (.ints 3 .i64 r1)])) := by kernel_rfl

theorem spec_FamSerial_fn : PM.FnIs Try.prog 89 Try.f89 := .of Try.func89 (by kernel_rfl) (by kernel_rfl)
theorem spec_FamSerial_g : PM.GOk Try.prog cx 89 ⟨[], spec_FamSerial_w (spec_FamSerial PM.std), none⟩ := by
  refine ⟨spec_FamSerial_fn.enter, fun _ ds k r h => ?_, fun hm => absurd rfl hm, fun _ e => (by cases e)⟩
  change spec_FamSerial_w (spec_FamSerial PM.std) ds k = some r at h
  unfold spec_FamSerial_w at h
  split at h
  · exact PM.pfun_ok (E := spec_FamSerial_E PM.std (spec_FamOk PM.std) (spec_l7Order PM.std) (spec_Overlay PM.std) (spec_l13Ints PM.std) (spec_SerialKid PM.std)) (L := fun n => spec_FamSerial_L PM.std (spec_FamOk PM.std) (spec_l7Order PM.std) (spec_Overlay PM.std) (spec_l13Ints PM.std) (spec_SerialKid PM.std) n) (N := PM.std.fuel) cx_ok (.cons spec_FamOk_g (.cons spec_l7Order_g (.cons spec_Overlay_g (.cons spec_l13Ints_g (.cons spec_SerialKid_g .nil))))) mixed .nil spec_FamSerial_fn (by kernel_rfl) ⟨rfl, fun cur σ K => by
      dsimp only [spec_FamSerial_L]
      split <;> rfl, fun n cur σ K r h => by
      dsimp only [spec_FamSerial_L] at h
      split at h
      · exact (spec_FamSerial_l0_ok PM.std (spec_FamOk PM.std) (spec_l7Order PM.std) (spec_Overlay PM.std) (spec_l13Ints PM.std) (spec_SerialKid PM.std) n _ _ _ _ _ _ _ _ _ K).symm.trans h
      · cases h⟩
      ((spec_FamSerial_ok PM.std (spec_FamOk PM.std) (spec_l7Order PM.std) (spec_Overlay PM.std) (spec_l13Ints PM.std) (spec_SerialKid PM.std) _ _ _ _ _ _ k).trans h)
  · cases h

abbrev slices_Index___int_int__T := (List Int) → (Int) → ((Int) → PM.R) → PM.R
noncomputable def slices_Index___int_int__w (c : slices_Index___int_int__T) (ds : List PM.V) (k : PM.V → PM.R) : PM.R :=
  match ds with
  | [.arr (.ints 3 .i64 s), .int .i64 v] => c s v (fun r0 => k (.int .i64 r0))
  | _ => none
noncomputable def slices_Index___int_int__l0 (A : PM.Prims) : Nat → (List Int) → (Int) → (Int) → (Int) → ((Int) → PM.R) → (Unit → PM.R) → PM.R
  | 0, _, _, _, _, _, _ => none
  | n + 1, s1, v2, t73, t84, kret_0, kx0_0 =>
    bif (A.lt t84 t73) then
      bif (A.inb t84 (A.ilen s1)) then
        bif (A.eq v2 (A.iget s1 t84)) then
          kret_0 t84
        else
          slices_Index___int_int__l0 A n s1 v2 t73 (A.add .i64 t84 1) kret_0 kx0_0
      else
        none
    else
      kx0_0 ()
noncomputable def slices_Index___int_int__f (A : PM.Prims) (s : List Int) (v : Int) (k : (Int) → PM.R) : PM.R :=
  slices_Index___int_int__l0 A A.fuel s v (A.ilen s) 0 (fun t456 =>
    k t456) (fun _ =>
    k (-1))
noncomputable def slices_Index___int_int_ (A : PM.Prims) : slices_Index___int_int__T := slices_Index___int_int__f A
noncomputable def slices_Index___int_int__L (A : PM.Prims) (n : Nat) : PM.Lam := fun cur σ K =>
  match cur, σ, K with
  | 0, ⟨[(0, .arr (.ints 3 .i64 s1)), (1, .int .i64 v2), (7, .int .i64 t73), (8, .int .i64 t84)], []⟩, K => slices_Index___int_int__l0 A n s1 v2 t73 t84 (fun t45 => K .ret ⟨[(4, .int .i64 t45)], []⟩) (fun _ => K (.exit 0) ⟨[], []⟩)
  | _, _, _ => none
noncomputable def slices_Index___int_int__E (A : PM.Prims) : PM.Env := ⟨[], [], [(0, [0, 1, 7, 8], [4])], [(0, [0, 1]), (1, [0, 1, 7, 8]), (2, [0, 1, 7, 8, 9]), (3, [0, 1, 5, 7, 8]), (4, [0, 1, 5, 7, 8, 16]), (5, [4]), (6, [0, 1, 7, 8]), (7, [4])], slices_Index___int_int__L A A.fuel⟩
theorem slices_Index___int_int__l0_ok (A : PM.Prims) (n : Nat) (s1 : List Int) (v2 : Int) (t73 : Int) (t84 : Int) (K : Go.Exit → PM.S → PM.R) : slices_Index___int_int__L A (n + 1) 0 ⟨[(0, .arr (.ints 3 .i64 s1)), (1, .int .i64 v2), (7, .int .i64 t73), (8, .int .i64 t84)], []⟩ K = PM.roundF A cx (PM.runD A cx (slices_Index___int_int__E A).inl (slices_Index___int_int__E A).Γ 3) (slices_Index___int_int__E A) (slices_Index___int_int__L A n) 0 Go.Proofs.Try.f292 ⟨[(0, .arr (.ints 3 .i64 s1)), (1, .int .i64 v2), (7, .int .i64 t73), (8, .int .i64 t84)], []⟩ K := by kernel_rfl
theorem slices_Index___int_int__ok (A : PM.Prims) (s : List Int) (v : Int) (k : PM.V → PM.R) : PM.pfun A cx [] (slices_Index___int_int__E A) Go.Proofs.Try.f292 [.arr (.ints 3 .i64 s), .int .i64 v] k = slices_Index___int_int__f A s v (fun r0 => k (.int .i64 r0)) := by kernel_rfl

theorem slices_Index___int_int__fn : PM.FnIs Try.prog 292 Try.f292 := .of Try.func292 (by kernel_rfl) (by kernel_rfl)
theorem slices_Index___int_int__g : PM.GOk Try.prog cx 292 ⟨[], slices_Index___int_int__w (slices_Index___int_int_ PM.std), none⟩ := by
  refine ⟨slices_Index___int_int__fn.enter, fun _ ds k r h => ?_, fun hm => absurd rfl hm, fun _ e => (by cases e)⟩
  change slices_Index___int_int__w (slices_Index___int_int_ PM.std) ds k = some r at h
  unfold slices_Index___int_int__w at h
  split at h
  · exact PM.pfun_ok (E := slices_Index___int_int__E PM.std) (L := fun n => slices_Index___int_int__L PM.std n) (N := PM.std.fuel) cx_ok .nil mixed .nil slices_Index___int_int__fn (by kernel_rfl) ⟨rfl, fun cur σ K => by
      dsimp only [slices_Index___int_int__L]
      split <;> rfl, fun n cur σ K r h => by
      dsimp only [slices_Index___int_int__L] at h
      split at h
      · exact (slices_Index___int_int__l0_ok PM.std n _ _ _ _ K).symm.trans h
      · cases h⟩
      ((slices_Index___int_int__ok PM.std _ _ k).trans h)
  · cases h

abbrev slices_Contains___int_int__T := (List Int) → (Int) → ((Bool) → PM.R) → PM.R
noncomputable def slices_Contains___int_int__w (c : slices_Contains___int_int__T) (ds : List PM.V) (k : PM.V → PM.R) : PM.R :=
  match ds with
  | [.arr (.ints 3 .i64 s), .int .i64 v] => c s v (fun r0 => k (.bool r0))
  | _ => none
noncomputable def slices_Contains___int_int__f (A : PM.Prims) (c_292 : slices_Index___int_int__T) (s : List Int) (v : Int) (k : (Bool) → PM.R) : PM.R :=
  c_292 s v (fun r1 =>
    k (A.le 0 r1))
noncomputable def slices_Contains___int_int_ (A : PM.Prims) : slices_Contains___int_int__T := slices_Contains___int_int__f A (slices_Index___int_int_ A)
noncomputable def slices_Contains___int_int__L (A : PM.Prims) (c_292 : slices_Index___int_int__T) (n : Nat) : PM.Lam := fun cur σ K =>
  match cur, σ, K with
  | _, _, _ => none
noncomputable def slices_Contains___int_int__E (A : PM.Prims) (c_292 : slices_Index___int_int__T) : PM.Env := ⟨[(292, ⟨[], slices_Index___int_int__w c_292, none⟩)], [], [], [(0, [0, 1]), (1, [4])], slices_Contains___int_int__L A c_292 A.fuel⟩
theorem slices_Contains___int_int__ok (A : PM.Prims) (c_292 : slices_Index___int_int__T) (s : List Int) (v : Int) (k : PM.V → PM.R) : PM.pfun A cx [] (slices_Contains___int_int__E A c_292) Go.Proofs.Try.f239 [.arr (.ints 3 .i64 s), .int .i64 v] k = slices_Contains___int_int__f A c_292 s v (fun r0 => k (.bool r0)) := by kernel_rfl

theorem slices_Contains___int_int__fn : PM.FnIs Try.prog 239 Try.f239 := .of Try.func239 (by kernel_rfl) (by kernel_rfl)
theorem slices_Contains___int_int__g : PM.GOk Try.prog cx 239 ⟨[], slices_Contains___int_int__w (slices_Contains___int_int_ PM.std), none⟩ := by
  refine ⟨slices_Contains___int_int__fn.enter, fun _ ds k r h => ?_, fun hm => absurd rfl hm, fun _ e => (by cases e)⟩
  change slices_Contains___int_int__w (slices_Contains___int_int_ PM.std) ds k = some r at h
  unfold slices_Contains___int_int__w at h
  split at h
  · exact PM.pfun_ok (E := slices_Contains___int_int__E PM.std (slices_Index___int_int_ PM.std)) (L := fun n => slices_Contains___int_int__L PM.std (slices_Index___int_int_ PM.std) n) (N := PM.std.fuel) cx_ok (.cons slices_Index___int_int__g .nil) mixed .nil slices_Contains___int_int__fn (by kernel_rfl) ⟨rfl, fun _ _ _ => rfl, fun n cur σ K r h => by cases h⟩
      ((slices_Contains___int_int__ok PM.std (slices_Index___int_int_ PM.std) _ _ k).trans h)
  · cases h

abbrev impl_orderOk_T := (List Int) → (Int) → ((Bool) → PM.R) → PM.R
noncomputable def impl_orderOk_w (c : impl_orderOk_T) (ds : List PM.V) (k : PM.V → PM.R) : PM.R :=
  match ds with
  | [.arr (.ints 3 .i64 order), .int .i64 kids] => c order kids (fun r0 => k (.bool r0))
  | _ => none
noncomputable def impl_orderOk_l0 (A : PM.Prims) (c_134 : impl_within_T) (c_239 : slices_Contains___int_int__T) : Nat → (List Int) → (Int) → (List Int) → (Int) → (Int) → ((Bool) → PM.R) → (Unit → PM.R) → PM.R
  | 0, _, _, _, _, _, _, _ => none
  | n + 1, order1, kids2, t73, t84, t95, kret_0, kx0_0 =>
    bif (A.lt t95 t84) then
      bif (A.inb t95 (A.ilen t73)) then
        c_134 (A.iget t73 t95) 0 (A.sub .i64 kids2 1) (fun r6 =>
          bif (A.not r6) then
            kret_0 false
          else
            bif (A.subb 0 t95 (A.ilen order1)) then
              c_239 (A.isub order1 0 t95) (A.iget t73 t95) (fun r8 =>
                bif r8 then
                  kret_0 false
                else
                  impl_orderOk_l0 A c_134 c_239 n order1 kids2 t73 t84 (A.add .i64 t95 1) kret_0 kx0_0)
            else
              none)
      else
        none
    else
      kx0_0 ()
noncomputable def impl_orderOk_f (A : PM.Prims) (c_134 : impl_within_T) (c_239 : slices_Contains___int_int__T) (order : List Int) (kids : Int) (k : (Bool) → PM.R) : PM.R :=
  impl_orderOk_l0 A c_134 c_239 A.fuel order kids order (A.ilen order) 0 (fun t479 =>
    k t479) (fun _ =>
    k true)
noncomputable def impl_orderOk (A : PM.Prims) : impl_orderOk_T := impl_orderOk_f A (impl_within A) (slices_Contains___int_int_ A)
noncomputable def impl_orderOk_L (A : PM.Prims) (c_134 : impl_within_T) (c_239 : slices_Contains___int_int__T) (n : Nat) : PM.Lam := fun cur σ K =>
  match cur, σ, K with
  | 0, ⟨[(0, .arr (.ints 3 .i64 order1)), (1, .int .i64 kids2), (7, .arr (.ints 3 .i64 t73)), (8, .int .i64 t84), (9, .int .i64 t95)], []⟩, K => impl_orderOk_l0 A c_134 c_239 n order1 kids2 t73 t84 t95 (fun t47 => K .ret ⟨[(4, .bool t47)], []⟩) (fun _ => K (.exit 0) ⟨[], []⟩)
  | _, _, _ => none
noncomputable def impl_orderOk_E (A : PM.Prims) (c_134 : impl_within_T) (c_239 : slices_Contains___int_int__T) : PM.Env := ⟨[(134, ⟨[], impl_within_w c_134, none⟩), (239, ⟨[], slices_Contains___int_int__w c_239, none⟩)], [], [(0, [0, 1, 7, 8, 9], [4])], [(0, [0, 1]), (1, [0, 1, 7, 8, 9]), (2, [0, 1, 7, 8, 9, 10]), (3, [0, 1, 5, 6, 7, 8, 9]), (4, [0, 1, 7, 8, 9, 25]), (5, [4]), (6, [0, 1, 7, 8, 9]), (7, [4])], impl_orderOk_L A c_134 c_239 A.fuel⟩
theorem impl_orderOk_l0_ok (A : PM.Prims) (c_134 : impl_within_T) (c_239 : slices_Contains___int_int__T) (n : Nat) (order1 : List Int) (kids2 : Int) (t73 : List Int) (t84 : Int) (t95 : Int) (K : Go.Exit → PM.S → PM.R) : impl_orderOk_L A c_134 c_239 (n + 1) 0 ⟨[(0, .arr (.ints 3 .i64 order1)), (1, .int .i64 kids2), (7, .arr (.ints 3 .i64 t73)), (8, .int .i64 t84), (9, .int .i64 t95)], []⟩ K = PM.roundF A cx (PM.runD A cx (impl_orderOk_E A c_134 c_239).inl (impl_orderOk_E A c_134 c_239).Γ 3) (impl_orderOk_E A c_134 c_239) (impl_orderOk_L A c_134 c_239 n) 0 Go.Proofs.Try.f186 ⟨[(0, .arr (.ints 3 .i64 order1)), (1, .int .i64 kids2), (7, .arr (.ints 3 .i64 t73)), (8, .int .i64 t84), (9, .int .i64 t95)], []⟩ K := by kernel_rfl
theorem impl_orderOk_ok (A : PM.Prims) (c_134 : impl_within_T) (c_239 : slices_Contains___int_int__T) (order : List Int) (kids : Int) (k : PM.V → PM.R) : PM.pfun A cx [] (impl_orderOk_E A c_134 c_239) Go.Proofs.Try.f186 [.arr (.ints 3 .i64 order), .int .i64 kids] k = impl_orderOk_f A c_134 c_239 order kids (fun r0 => k (.bool r0)) := by kernel_rfl

theorem impl_orderOk_fn : PM.FnIs Try.prog 186 Try.f186 := .of Try.func186 (by kernel_rfl) (by kernel_rfl)
theorem impl_orderOk_g : PM.GOk Try.prog cx 186 ⟨[], impl_orderOk_w (impl_orderOk PM.std), none⟩ := by
  refine ⟨impl_orderOk_fn.enter, fun _ ds k r h => ?_, fun hm => absurd rfl hm, fun _ e => (by cases e)⟩
  change impl_orderOk_w (impl_orderOk PM.std) ds k = some r at h
  unfold impl_orderOk_w at h
  split at h
  · exact PM.pfun_ok (E := impl_orderOk_E PM.std (impl_within PM.std) (slices_Contains___int_int_ PM.std)) (L := fun n => impl_orderOk_L PM.std (impl_within PM.std) (slices_Contains___int_int_ PM.std) n) (N := PM.std.fuel) cx_ok (.cons impl_within_g (.cons slices_Contains___int_int__g .nil)) mixed .nil impl_orderOk_fn (by kernel_rfl) ⟨rfl, fun cur σ K => by
      dsimp only [impl_orderOk_L]
      split <;> rfl, fun n cur σ K r h => by
      dsimp only [impl_orderOk_L] at h
      split at h
      · exact (impl_orderOk_l0_ok PM.std (impl_within PM.std) (slices_Contains___int_int_ PM.std) n _ _ _ _ _ K).symm.trans h
      · cases h⟩
      ((impl_orderOk_ok PM.std (impl_within PM.std) (slices_Contains___int_int_ PM.std) _ _ k).trans h)
  · cases h

abbrev impl_fullOrder_T := (List Int) → (Int) → ((List Int) → PM.R) → PM.R
noncomputable def impl_fullOrder_w (c : impl_fullOrder_T) (ds : List PM.V) (k : PM.V → PM.R) : PM.R :=
  match ds with
  | [.arr (.ints 3 .i64 order), .int .i64 kids] => c order kids (fun r0 => k (.arr (.ints 3 .i64 r0)))
  | _ => none
noncomputable def impl_fullOrder_l0 (A : PM.Prims) (c_239 : slices_Contains___int_int__T) (c_101 : impl_copyInts_T) : Nat → (List Int) → (Int) → (Int) → (List Int) → ((List Int) → PM.R) → PM.R
  | 0, _, _, _, _, _ => none
  | n + 1, order2, t93, t104, o05, kx0_0 =>
    bif (A.lt t104 t93) then
      c_239 order2 t104 (fun r6 =>
        bif (A.not r6) then
          bif (A.room (A.ilen o05) (A.ilen [t104])) then
            impl_fullOrder_l0 A c_239 c_101 n order2 t93 (A.add .i64 t104 1) (A.iapp o05 [t104]) kx0_0
          else
            none
        else
          impl_fullOrder_l0 A c_239 c_101 n order2 t93 (A.add .i64 t104 1) o05 kx0_0)
    else
      kx0_0 o05
noncomputable def impl_fullOrder_f (A : PM.Prims) (c_239 : slices_Contains___int_int__T) (c_101 : impl_copyInts_T) (order : List Int) (kids : Int) (k : (List Int) → PM.R) : PM.R :=
  c_101 order (fun r1 =>
    impl_fullOrder_l0 A c_239 c_101 A.fuel order kids 0 r1 (fun o078 =>
      k o078))
noncomputable def impl_fullOrder (A : PM.Prims) : impl_fullOrder_T := impl_fullOrder_f A (slices_Contains___int_int_ A) (impl_copyInts A)
noncomputable def impl_fullOrder_L (A : PM.Prims) (c_239 : slices_Contains___int_int__T) (c_101 : impl_copyInts_T) (n : Nat) : PM.Lam := fun cur σ K =>
  match cur, σ, K with
  | 0, ⟨[(0, .arr (.ints 3 .i64 order2)), (5, .sref 0), (9, .int .i64 t93), (10, .int .i64 t104)], [(0, .arr true (.ints 3 .i64 o05))]⟩, K => impl_fullOrder_l0 A c_239 c_101 n order2 t93 t104 o05 (fun o07 => K (.exit 0) ⟨[(5, .sref 0)], [(0, .arr true (.ints 3 .i64 o07))]⟩)
  | _, _, _ => none
noncomputable def impl_fullOrder_E (A : PM.Prims) (c_239 : slices_Contains___int_int__T) (c_101 : impl_copyInts_T) : PM.Env := ⟨[(239, ⟨[], slices_Contains___int_int__w c_239, none⟩), (101, ⟨[], impl_copyInts_w c_101, none⟩)], [], [(0, [0, 5, 9, 10], [4, 5])], [(0, [0, 1]), (1, [0, 1, 5]), (2, [0, 5, 9, 10]), (3, [0, 5, 9, 10, 11]), (4, [0, 5, 6, 9, 10]), (5, [0, 5, 6, 9, 10, 16]), (6, [0, 5, 9, 10]), (7, [0, 5, 9, 10]), (8, [4])], impl_fullOrder_L A c_239 c_101 A.fuel⟩
theorem impl_fullOrder_l0_ok (A : PM.Prims) (c_239 : slices_Contains___int_int__T) (c_101 : impl_copyInts_T) (n : Nat) (order2 : List Int) (t93 : Int) (t104 : Int) (o05 : List Int) (K : Go.Exit → PM.S → PM.R) : impl_fullOrder_L A c_239 c_101 (n + 1) 0 ⟨[(0, .arr (.ints 3 .i64 order2)), (5, .sref 0), (9, .int .i64 t93), (10, .int .i64 t104)], [(0, .arr true (.ints 3 .i64 o05))]⟩ K = PM.roundF A cx (PM.runD A cx (impl_fullOrder_E A c_239 c_101).inl (impl_fullOrder_E A c_239 c_101).Γ 3) (impl_fullOrder_E A c_239 c_101) (impl_fullOrder_L A c_239 c_101 n) 0 Go.Proofs.Try.f187 ⟨[(0, .arr (.ints 3 .i64 order2)), (5, .sref 0), (9, .int .i64 t93), (10, .int .i64 t104)], [(0, .arr true (.ints 3 .i64 o05))]⟩ K := by kernel_rfl
theorem impl_fullOrder_ok (A : PM.Prims) (c_239 : slices_Contains___int_int__T) (c_101 : impl_copyInts_T) (order : List Int) (kids : Int) (k : PM.V → PM.R) : PM.pfun A cx [] (impl_fullOrder_E A c_239 c_101) Go.Proofs.Try.f187 [.arr (.ints 3 .i64 order), .int .i64 kids] k = impl_fullOrder_f A c_239 c_101 order kids (fun r0 => k (.arr (.ints 3 .i64 r0))) := by kernel_rfl

theorem impl_fullOrder_fn : PM.FnIs Try.prog 187 Try.f187 := .of Try.func187 (by kernel_rfl) (by kernel_rfl)
theorem impl_fullOrder_g : PM.GOk Try.prog cx 187 ⟨[], impl_fullOrder_w (impl_fullOrder PM.std), none⟩ := by
  refine ⟨impl_fullOrder_fn.enter, fun _ ds k r h => ?_, fun hm => absurd rfl hm, fun _ e => (by cases e)⟩
  change impl_fullOrder_w (impl_fullOrder PM.std) ds k = some r at h
  unfold impl_fullOrder_w at h
  split at h
  · exact PM.pfun_ok (E := impl_fullOrder_E PM.std (slices_Contains___int_int_ PM.std) (impl_copyInts PM.std)) (L := fun n => impl_fullOrder_L PM.std (slices_Contains___int_int_ PM.std) (impl_copyInts PM.std) n) (N := PM.std.fuel) cx_ok (.cons slices_Contains___int_int__g (.cons impl_copyInts_g .nil)) mixed .nil impl_fullOrder_fn (by kernel_rfl) ⟨rfl, fun cur σ K => by
      dsimp only [impl_fullOrder_L]
      split <;> rfl, fun n cur σ K r h => by
      dsimp only [impl_fullOrder_L] at h
      split at h
      · exact (impl_fullOrder_l0_ok PM.std (slices_Contains___int_int_ PM.std) (impl_copyInts PM.std) n _ _ _ _ K).symm.trans h
      · cases h⟩
      ((impl_fullOrder_ok PM.std (slices_Contains___int_int_ PM.std) (impl_copyInts PM.std) _ _ k).trans h)
  · cases h

abbrev impl_copyThings_T := (List Int) → (List Int) → (Int) → ((List Int) → (List Int) → (Int) → PM.R) → PM.R
noncomputable def impl_copyThings_w (c : impl_copyThings_T) (ds : List PM.V) (k : PM.V → PM.R) : PM.R :=
  match ds with
  | [.agg [.arr (.ints 3 .i64 s_Cells), .arr (.ints 3 .i64 s_Map), .int .i64 s_Count]] => c s_Cells s_Map s_Count (fun r0_Cells r0_Map r0_Count => k (.agg [.arr (.ints 3 .i64 r0_Cells), .arr (.ints 3 .i64 r0_Map), .int .i64 r0_Count]))
  | _ => none
noncomputable def impl_copyThings_f (A : PM.Prims) (c_101 : impl_copyInts_T) (s_Cells : List Int) (s_Map : List Int) (s_Count : Int) (k : (List Int) → (List Int) → (Int) → PM.R) : PM.R :=
  c_101 s_Cells (fun r1 =>
    c_101 s_Map (fun r2 =>
      k r1 r2 s_Count))
noncomputable def impl_copyThings (A : PM.Prims) : impl_copyThings_T := impl_copyThings_f A (impl_copyInts A)
noncomputable def impl_copyThings_L (A : PM.Prims) (c_101 : impl_copyInts_T) (n : Nat) : PM.Lam := fun cur σ K =>
  match cur, σ, K with
  | _, _, _ => none
noncomputable def impl_copyThings_E (A : PM.Prims) (c_101 : impl_copyInts_T) : PM.Env := ⟨[(101, ⟨[], impl_copyInts_w c_101, none⟩)], [], [], [(0, [1, 2]), (1, [2])], impl_copyThings_L A c_101 A.fuel⟩
theorem impl_copyThings_ok (A : PM.Prims) (c_101 : impl_copyInts_T) (s_Cells : List Int) (s_Map : List Int) (s_Count : Int) (k : PM.V → PM.R) : PM.pfun A cx [] (impl_copyThings_E A c_101) Go.Proofs.Try.f293 [.agg [.arr (.ints 3 .i64 s_Cells), .arr (.ints 3 .i64 s_Map), .int .i64 s_Count]] k = impl_copyThings_f A c_101 s_Cells s_Map s_Count (fun r0_Cells r0_Map r0_Count => k (.agg [.arr (.ints 3 .i64 r0_Cells), .arr (.ints 3 .i64 r0_Map), .int .i64 r0_Count])) := by kernel_rfl

theorem impl_copyThings_fn : PM.FnIs Try.prog 293 Try.f293 := .of Try.func293 (by kernel_rfl) (by kernel_rfl)
theorem impl_copyThings_g : PM.GOk Try.prog cx 293 ⟨[], impl_copyThings_w (impl_copyThings PM.std), none⟩ := by
  refine ⟨impl_copyThings_fn.enter, fun _ ds k r h => ?_, fun hm => absurd rfl hm, fun _ e => (by cases e)⟩
  change impl_copyThings_w (impl_copyThings PM.std) ds k = some r at h
  unfold impl_copyThings_w at h
  split at h
  · exact PM.pfun_ok (E := impl_copyThings_E PM.std (impl_copyInts PM.std)) (L := fun n => impl_copyThings_L PM.std (impl_copyInts PM.std) n) (N := PM.std.fuel) cx_ok (.cons impl_copyInts_g .nil) mixed .nil impl_copyThings_fn (by kernel_rfl) ⟨rfl, fun _ _ _ => rfl, fun n cur σ K r h => by cases h⟩
      ((impl_copyThings_ok PM.std (impl_copyInts PM.std) _ _ _ k).trans h)
  · cases h

abbrev impl_Calc_T := (Int) → (Int) → (Int) → (Int) → (List Int) → ((List Int) → (Bool) → PM.R) → PM.R
noncomputable def impl_Calc_w (c : impl_Calc_T) (ds : List PM.V) (k : PM.V → PM.R) : PM.R :=
  match ds with
  | [.agg [.int .i64 ___Kind, .int .i64 ___A, .int .i64 ___B, .int .i64 ___C], .arr (.ints 3 .i64 a)] => c ___Kind ___A ___B ___C a (fun r0 r1 => k (.tup [.arr (.ints 3 .i64 r0), .bool r1]))
  | _ => none
noncomputable def impl_Calc_f (A : PM.Prims) (c_283 : impl_OpOk_T) (c_97 : impl_areValues_T) (c_101 : impl_copyInts_T) (___Kind : Int) (___A : Int) (___B : Int) (___C : Int) (a : List Int) (k : (List Int) → (Bool) → PM.R) : PM.R :=
  c_101 a (fun r1 =>
    c_283 ___Kind ___A ___B ___C (fun r2 =>
      bif (A.not r2) then
        k r1 false
      else
        bif (A.lt 4 ___Kind) then
          k r1 false
        else
          c_97 a 4 (fun r3 =>
            bif (A.not r3) then
              k r1 false
            else
              bif (A.eq ___Kind 1) then
                bif (A.inb ___A (A.ilen r1)) then
                  k (A.iset r1 ___A ___B) true
                else
                  none
              else
                bif (A.eq ___Kind 2) then
                  bif (A.inb ___B (A.ilen a)) then
                    bif (A.inb ___C (A.ilen a)) then
                      bif (A.nz 65536) then
                        bif (A.inb ___A (A.ilen r1)) then
                          k (A.iset r1 ___A (A.rem .i64 (A.add .i64 (A.iget a ___B) (A.iget a ___C)) 65536)) true
                        else
                          none
                      else
                        none
                    else
                      none
                  else
                    none
                else
                  bif (A.eq ___Kind 3) then
                    bif (A.inb ___B (A.ilen a)) then
                      bif (A.inb ___C (A.ilen a)) then
                        bif (A.nz 65536) then
                          bif (A.inb ___A (A.ilen r1)) then
                            k (A.iset r1 ___A (A.rem .i64 (A.add .i64 (A.sub .i64 (A.iget a ___B) (A.iget a ___C)) 65536) 65536)) true
                          else
                            none
                        else
                          none
                      else
                        none
                    else
                      none
                  else
                    bif (A.inb ___A (A.ilen r1)) then
                      bif (A.inb ___B (A.ilen a)) then
                        bif (A.inb ___C (A.ilen a)) then
                          bif (A.lt (A.iget a ___B) (A.iget a ___C)) then
                            bif (A.inb ___A (A.ilen (A.iset r1 ___A 0))) then
                              k (A.iset (A.iset r1 ___A 0) ___A 1) true
                            else
                              none
                          else
                            k (A.iset r1 ___A 0) true
                        else
                          none
                      else
                        none
                    else
                      none)))
noncomputable def impl_Calc (A : PM.Prims) : impl_Calc_T := impl_Calc_f A (impl_OpOk A) (impl_areValues A) (impl_copyInts A)
noncomputable def impl_Calc_L (A : PM.Prims) (c_283 : impl_OpOk_T) (c_97 : impl_areValues_T) (c_101 : impl_copyInts_T) (n : Nat) : PM.Lam := fun cur σ K =>
  match cur, σ, K with
  | _, _, _ => none
noncomputable def impl_Calc_E (A : PM.Prims) (c_283 : impl_OpOk_T) (c_97 : impl_areValues_T) (c_101 : impl_copyInts_T) : PM.Env := ⟨[(283, ⟨[], impl_OpOk_w c_283, none⟩), (97, ⟨[], impl_areValues_w c_97, none⟩), (101, ⟨[], impl_copyInts_w c_101, none⟩)], [], [], [(0, [1, 2]), (1, [1, 2, 6]), (2, [1, 2, 6, 21]), (3, [4, 5]), (4, [1, 2, 6, 24]), (5, [1, 2, 6]), (6, [2, 6, 39]), (7, [6]), (8, [1, 2, 6, 24, 44]), (9, [6]), (10, [1, 2, 6, 24, 52]), (11, [6]), (12, [1, 2, 6, 70]), (13, [6]), (14, [4, 5])], impl_Calc_L A c_283 c_97 c_101 A.fuel⟩
theorem impl_Calc_ok (A : PM.Prims) (c_283 : impl_OpOk_T) (c_97 : impl_areValues_T) (c_101 : impl_copyInts_T) (___Kind : Int) (___A : Int) (___B : Int) (___C : Int) (a : List Int) (k : PM.V → PM.R) : PM.pfun A cx [] (impl_Calc_E A c_283 c_97 c_101) Go.Proofs.Try.f294 [.agg [.int .i64 ___Kind, .int .i64 ___A, .int .i64 ___B, .int .i64 ___C], .arr (.ints 3 .i64 a)] k = impl_Calc_f A c_283 c_97 c_101 ___Kind ___A ___B ___C a (fun r0 r1 => k (.tup [.arr (.ints 3 .i64 r0), .bool r1])) := by kernel_rfl

theorem impl_Calc_fn : PM.FnIs Try.prog 294 Try.f294 := .of Try.func294 (by kernel_rfl) (by kernel_rfl)
theorem impl_Calc_g : PM.GOk Try.prog cx 294 ⟨[], impl_Calc_w (impl_Calc PM.std), none⟩ := by
  refine ⟨impl_Calc_fn.enter, fun _ ds k r h => ?_, fun hm => absurd rfl hm, fun _ e => (by cases e)⟩
  change impl_Calc_w (impl_Calc PM.std) ds k = some r at h
  unfold impl_Calc_w at h
  split at h
  · exact PM.pfun_ok (E := impl_Calc_E PM.std (impl_OpOk PM.std) (impl_areValues PM.std) (impl_copyInts PM.std)) (L := fun n => impl_Calc_L PM.std (impl_OpOk PM.std) (impl_areValues PM.std) (impl_copyInts PM.std) n) (N := PM.std.fuel) cx_ok (.cons impl_OpOk_g (.cons impl_areValues_g (.cons impl_copyInts_g .nil))) mixed .nil impl_Calc_fn (by kernel_rfl) ⟨rfl, fun _ _ _ => rfl, fun n cur σ K r h => by cases h⟩
      ((impl_Calc_ok PM.std (impl_OpOk PM.std) (impl_areValues PM.std) (impl_copyInts PM.std) _ _ _ _ _ k).trans h)
  · cases h

abbrev impl_EndOf_T := (List (List Int)) → (Int) → ((Int) → PM.R) → PM.R
noncomputable def impl_EndOf_w (c : impl_EndOf_T) (ds : List PM.V) (k : PM.V → PM.R) : PM.R :=
  match ds with
  | [.arr (.vecs 312 4 code), .int .i64 i] => c code i (fun r0 => k (.int .i64 r0))
  | _ => none
noncomputable def impl_EndOf_l0 (A : PM.Prims) (c_134 : impl_within_T) (c_319 : impl_opens_T) : Nat → (List (List Int)) → (Int) → (Int) → ((Int) → PM.R) → (Unit → PM.R) → PM.R
  | 0, _, _, _, _, _ => none
  | n + 1, code2, n3, k4, kret_0, kx0_0 =>
    bif (A.lt k4 (A.vlen code2)) then
      bif (A.inb k4 (A.vlen code2)) then
        c_319 (A.vget code2 k4 0) (A.vget code2 k4 1) (A.vget code2 k4 2) (A.vget code2 k4 3) (fun r5 =>
          bif (A.eq (A.add .i64 n3 r5) 0) then
            kret_0 k4
          else
            impl_EndOf_l0 A c_134 c_319 n code2 (A.add .i64 n3 r5) (A.add .i64 k4 1) kret_0 kx0_0)
      else
        none
    else
      kx0_0 ()
noncomputable def impl_EndOf_f (A : PM.Prims) (c_134 : impl_within_T) (c_319 : impl_opens_T) (code : List (List Int)) (i : Int) (k : (Int) → PM.R) : PM.R :=
  c_134 i 0 (A.sub .i64 (A.vlen code) 1) (fun r1 =>
    bif (A.not r1) then
      k (-1)
    else
      bif (A.inb i (A.vlen code)) then
        bif (A.not (A.eq (A.vget code i 0) 8)) then
          k (-1)
        else
          impl_EndOf_l0 A c_134 c_319 A.fuel code 0 i (fun t467 =>
            k t467) (fun _ =>
            k (-1))
      else
        none)
noncomputable def impl_EndOf (A : PM.Prims) : impl_EndOf_T := impl_EndOf_f A (impl_within A) (impl_opens A)
noncomputable def impl_EndOf_L (A : PM.Prims) (c_134 : impl_within_T) (c_319 : impl_opens_T) (n : Nat) : PM.Lam := fun cur σ K =>
  match cur, σ, K with
  | 0, ⟨[(0, .arr (.vecs 312 4 code2)), (5, .int .i64 n3), (6, .int .i64 k4)], []⟩, K => impl_EndOf_l0 A c_134 c_319 n code2 n3 k4 (fun t46 => K .ret ⟨[(4, .int .i64 t46)], []⟩) (fun _ => K (.exit 0) ⟨[], []⟩)
  | _, _, _ => none
noncomputable def impl_EndOf_E (A : PM.Prims) (c_134 : impl_within_T) (c_319 : impl_opens_T) : PM.Env := ⟨[(134, ⟨[], impl_within_w c_134, none⟩), (319, ⟨[], impl_opens_w c_319, none⟩)], [], [(0, [0, 5, 6], [4])], [(0, [0, 1]), (1, [0, 1, 20]), (2, [4]), (3, [0, 1, 5]), (4, [0, 5, 6]), (5, [0, 5, 6, 25]), (6, [0, 5, 6]), (7, [0, 5, 6]), (8, [0, 5, 6, 36]), (9, [4]), (10, [4])], impl_EndOf_L A c_134 c_319 A.fuel⟩
theorem impl_EndOf_l0_ok (A : PM.Prims) (c_134 : impl_within_T) (c_319 : impl_opens_T) (n : Nat) (code2 : List (List Int)) (n3 : Int) (k4 : Int) (K : Go.Exit → PM.S → PM.R) : impl_EndOf_L A c_134 c_319 (n + 1) 0 ⟨[(0, .arr (.vecs 312 4 code2)), (5, .int .i64 n3), (6, .int .i64 k4)], []⟩ K = PM.roundF A cx (PM.runD A cx (impl_EndOf_E A c_134 c_319).inl (impl_EndOf_E A c_134 c_319).Γ 3) (impl_EndOf_E A c_134 c_319) (impl_EndOf_L A c_134 c_319 n) 0 Go.Proofs.Try.f295 ⟨[(0, .arr (.vecs 312 4 code2)), (5, .int .i64 n3), (6, .int .i64 k4)], []⟩ K := by kernel_rfl
theorem impl_EndOf_ok (A : PM.Prims) (c_134 : impl_within_T) (c_319 : impl_opens_T) (code : List (List Int)) (i : Int) (k : PM.V → PM.R) : PM.pfun A cx [] (impl_EndOf_E A c_134 c_319) Go.Proofs.Try.f295 [.arr (.vecs 312 4 code), .int .i64 i] k = impl_EndOf_f A c_134 c_319 code i (fun r0 => k (.int .i64 r0)) := by kernel_rfl

theorem impl_EndOf_fn : PM.FnIs Try.prog 295 Try.f295 := .of Try.func295 (by kernel_rfl) (by kernel_rfl)
theorem impl_EndOf_g : PM.GOk Try.prog cx 295 ⟨[], impl_EndOf_w (impl_EndOf PM.std), none⟩ := by
  refine ⟨impl_EndOf_fn.enter, fun _ ds k r h => ?_, fun hm => absurd rfl hm, fun _ e => (by cases e)⟩
  change impl_EndOf_w (impl_EndOf PM.std) ds k = some r at h
  unfold impl_EndOf_w at h
  split at h
  · exact PM.pfun_ok (E := impl_EndOf_E PM.std (impl_within PM.std) (impl_opens PM.std)) (L := fun n => impl_EndOf_L PM.std (impl_within PM.std) (impl_opens PM.std) n) (N := PM.std.fuel) cx_ok (.cons impl_within_g (.cons impl_opens_g .nil)) mixed .nil impl_EndOf_fn (by kernel_rfl) ⟨rfl, fun cur σ K => by
      dsimp only [impl_EndOf_L]
      split <;> rfl, fun n cur σ K r h => by
      dsimp only [impl_EndOf_L] at h
      split at h
      · exact (impl_EndOf_l0_ok PM.std (impl_within PM.std) (impl_opens PM.std) n _ _ _ K).symm.trans h
      · cases h⟩
      ((impl_EndOf_ok PM.std (impl_within PM.std) (impl_opens PM.std) _ _ k).trans h)
  · cases h

abbrev impl_serial_T := (List (List Int)) → (List (List PM.C)) → (List Int) → (List Int) → (List Int) → (List Int) → (Int) → ((Int) → (List Int) → (List Int) → (List Int) → (Int) → PM.R) → PM.R
noncomputable def impl_serial_w (c : impl_serial_T) (ds : List PM.V) (k : PM.V → PM.R) : PM.R :=
  match ds with
  | [.arr (.vecs 312 4 __), .arr (.rows 233 a), .arr (.ints 3 .i64 r), .arr (.ints 3 .i64 r_3), .agg [.arr (.ints 3 .i64 p4_Cells), .arr (.ints 3 .i64 p4_Map), .int .i64 p4_Count]] => c __ a r r_3 p4_Cells p4_Map p4_Count (fun r0_Out r0_Regs r0_Things_Cells r0_Things_Map r0_Things_Count => k (.agg [.int .i64 r0_Out, .arr (.ints 3 .i64 r0_Regs), .arr (.ints 3 .i64 r0_Things_Cells), .arr (.ints 3 .i64 r0_Things_Map), .int .i64 r0_Things_Count]))
  | _ => none
noncomputable def impl_serial_l3 (A : PM.Prims) (c_101 : impl_copyInts_T) (c_187 : impl_fullOrder_T) (c_293 : impl_copyThings_T) (c_294 : impl_Calc_T) (c_295 : impl_EndOf_T) : Nat → (List (List Int)) → (List (List C)) → (List Int) → (Int) → (Int) → (Int) → (List Int) → (List Int) → (List Int) → (Int) → (Int) → (Int) → (Int) → (List (List C)) → (List Int) → (List Int) → (List Int) → (List Int) → (List Int) → (List Int) → (List Int) → ((List (List Int)) → (List (List C)) → (List Int) → (Int) → (List Int) → (List Int) → (List Int) → (Int) → (Int) → (Int) → (Int) → (List (List C)) → (List Int) → (List Int) → (List Int) → (List Int) → (List Int) → PM.R) → PM.R
  | 0, _, _, _, _, _, _, _, _, _, _, _, _, _, _, _, _, _, _, _, _, _, _ => none
  | n + 1, code44, kids45, order46, i47, t14048, t14149, o050, o151, o152, o153, o254, o255, o356, o457, o558, o659, o760, o861, o962, o1063, o1164, kx3_3 =>
    bif (A.lt t14149 t14048) then
      bif (A.inb t14149 (A.ilen o659)) then
        bif (A.inb (A.iget o659 t14149) (A.rlen kids45)) then
          bif (A.mkOk 8) then
            bif (A.le 8 8) then
              bif (A.mkOk 8) then
                none
              else
                none
            else
              none
          else
            none
        else
          none
      else
        none
    else
      kx3_3 code44 kids45 order46 i47 o050 o151 o152 o153 o254 o255 o356 o457 o760 o861 o962 o1063 o1164
noncomputable def impl_serial_l0 (A : PM.Prims) (c_101 : impl_copyInts_T) (c_187 : impl_fullOrder_T) (c_293 : impl_copyThings_T) (c_294 : impl_Calc_T) (c_295 : impl_EndOf_T) : Nat → (List (List Int)) → (List (List C)) → (List Int) → (Int) → (List Int) → (List Int) → (List Int) → (Int) → (Int) → (Int) → (Int) → (List (List C)) → (List Int) → (List Int) → (List Int) → (List Int) → (List Int) → ((Int) → (Int) → (List Int) → (List Int) → (List Int) → PM.R) → ((List Int) → (Int) → (Int) → (Int) → (List Int) → (List Int) → (List Int) → (List Int) → (List Int) → PM.R) → PM.R
  | 0, _, _, _, _, _, _, _, _, _, _, _, _, _, _, _, _, _, _, _ => none
  | n + 1, code5, kids6, order7, i8, o09, o110, o111, o112, o213, o214, o315, o416, o517, o618, o719, o820, o921, kret_0, kx0_0 =>
    bif (A.lt i8 (A.vlen code5)) then
      bif (A.inb i8 (A.vlen code5)) then
        bif (A.eq (A.vget code5 i8 0) 1) then
          c_294 (A.vget code5 i8 0) (A.vget code5 i8 1) (A.vget code5 i8 2) (A.vget code5 i8 3) o09 (fun r22 r23 =>
            impl_serial_l0 A c_101 c_187 c_293 c_294 c_295 n code5 kids6 order7 (A.add .i64 i8 1) r22 o110 o111 o112 o213 o214 o315 o416 o517 o618 o719 o820 o921 kret_0 kx0_0)
        else
          bif (A.eq (A.vget code5 i8 0) 2) then
            c_294 (A.vget code5 i8 0) (A.vget code5 i8 1) (A.vget code5 i8 2) (A.vget code5 i8 3) o09 (fun r24 r25 =>
              impl_serial_l0 A c_101 c_187 c_293 c_294 c_295 n code5 kids6 order7 (A.add .i64 i8 1) r24 o110 o111 o112 o213 o214 o315 o416 o517 o618 o719 o820 o921 kret_0 kx0_0)
          else
            bif (A.eq (A.vget code5 i8 0) 3) then
              c_294 (A.vget code5 i8 0) (A.vget code5 i8 1) (A.vget code5 i8 2) (A.vget code5 i8 3) o09 (fun r26 r27 =>
                impl_serial_l0 A c_101 c_187 c_293 c_294 c_295 n code5 kids6 order7 (A.add .i64 i8 1) r26 o110 o111 o112 o213 o214 o315 o416 o517 o618 o719 o820 o921 kret_0 kx0_0)
            else
              bif (A.eq (A.vget code5 i8 0) 4) then
                c_294 (A.vget code5 i8 0) (A.vget code5 i8 1) (A.vget code5 i8 2) (A.vget code5 i8 3) o09 (fun r28 r29 =>
                  impl_serial_l0 A c_101 c_187 c_293 c_294 c_295 n code5 kids6 order7 (A.add .i64 i8 1) r28 o110 o111 o112 o213 o214 o315 o416 o517 o618 o719 o820 o921 kret_0 kx0_0)
              else
                bif (A.eq (A.vget code5 i8 0) 7) then
                  bif (A.inb (A.vget code5 i8 1) (A.ilen o09)) then
                    bif (A.eq (A.iget o09 (A.vget code5 i8 1)) 0) then
                      impl_serial_l0 A c_101 c_187 c_293 c_294 c_295 n code5 kids6 order7 (A.add .i64 (A.add .i64 i8 (A.vget code5 i8 2)) 1) o09 o110 o111 o112 o213 o214 o315 o416 o517 o618 o719 o820 o921 kret_0 kx0_0
                    else
                      impl_serial_l0 A c_101 c_187 c_293 c_294 c_295 n code5 kids6 order7 (A.add .i64 i8 1) o09 o110 o111 o112 o213 o214 o315 o416 o517 o618 o719 o820 o921 kret_0 kx0_0
                  else
                    none
                else
                  bif (A.eq (A.vget code5 i8 0) 8) then
                    c_101 o09 (fun r30 =>
                      c_293 o820 o921 o315 (fun r31 r32 r33 =>
                        bif (A.room (A.rlen o416) (A.rlen [[(.i i8), (.s (A.ofi r30)), (.s (A.ofi r31)), (.s (A.ofi r32)), (.i r33)]])) then
                          impl_serial_l0 A c_101 c_187 c_293 c_294 c_295 n code5 kids6 order7 (A.add .i64 i8 1) o09 o110 o111 o112 o213 o214 o315 (A.rapp o416 [[(.i i8), (.s (A.ofi r30)), (.s (A.ofi r31)), (.s (A.ofi r32)), (.i r33)]]) o517 o618 o719 o820 o921 kret_0 kx0_0
                        else
                          none))
                  else
                    bif (A.eq (A.vget code5 i8 0) 9) then
                      bif (A.inb (A.sub .i64 (A.rlen o416) 1) (A.rlen o416)) then
                        bif (A.subb 0 (A.sub .i64 (A.rlen o416) 1) (A.rlen o416)) then
                          bif (A.inb (A.rint o416 (A.sub .i64 (A.rlen o416) 1) 0) (A.vlen code5)) then
                            bif (A.inb (A.vget code5 (A.rint o416 (A.sub .i64 (A.rlen o416) 1) 0) 1) (A.ilen o09)) then
                              impl_serial_l0 A c_101 c_187 c_293 c_294 c_295 n code5 kids6 order7 (A.add .i64 i8 1) (A.iset o09 (A.vget code5 (A.rint o416 (A.sub .i64 (A.rlen o416) 1) 0) 1) 1) o110 o111 o112 o213 o214 o315 (A.rsub o416 0 (A.sub .i64 (A.rlen o416) 1)) o517 o618 o719 o820 o921 kret_0 kx0_0
                            else
                              none
                          else
                            none
                        else
                          none
                      else
                        none
                    else
                      bif (A.eq (A.vget code5 i8 0) 10) then
                        bif (A.eq (A.rlen o416) 0) then
                          c_293 o110 o111 o112 (fun r34 r35 r36 =>
                            kret_0 2 r36 o09 r34 r35)
                        else
                          bif (A.inb (A.sub .i64 (A.rlen o416) 1) (A.rlen o416)) then
                            bif (A.subb 0 (A.sub .i64 (A.rlen o416) 1) (A.rlen o416)) then
                              bif (A.inb (A.rint o416 (A.sub .i64 (A.rlen o416) 1) 0) (A.vlen code5)) then
                                bif (A.inb (A.vget code5 (A.rint o416 (A.sub .i64 (A.rlen o416) 1) 0) 1) (A.ilen (A.rsi o416 (A.sub .i64 (A.rlen o416) 1) 1))) then
                                  none
                                else
                                  none
                              else
                                none
                            else
                              none
                          else
                            none
                      else
                        bif (A.eq (A.vget code5 i8 0) 11) then
                          c_101 o09 (fun r42 =>
                            c_187 order7 (A.rlen kids6) (fun r43 =>
                              impl_serial_l3 A c_101 c_187 c_293 c_294 c_295 A.fuel code5 kids6 order7 i8 (A.ilen r43) 0 o09 o110 o111 o112 o213 o214 o315 o416 r42 r43 o517 o618 o719 o820 o921 (fun code6582 kids6683 order6784 i6885 o06986 o17087 o17188 o17289 o27390 o27491 o37592 o47693 o57794 o67895 o77996 o88097 o98198 =>
                                impl_serial_l0 A c_101 c_187 c_293 c_294 c_295 n code6582 kids6683 order6784 (A.add .i64 i6885 1) o06986 o17087 o17188 o17289 o27390 o27491 o37592 o47693 o57794 o67895 o77996 o88097 o98198 kret_0 kx0_0)))
                        else
                          bif (A.eq (A.vget code5 i8 0) 5) then
                            bif (A.inb (A.vget code5 i8 2) (A.ilen o820)) then
                              bif (A.inb (A.vget code5 i8 1) (A.ilen o09)) then
                                impl_serial_l0 A c_101 c_187 c_293 c_294 c_295 n code5 kids6 order7 (A.add .i64 i8 1) (A.iset o09 (A.vget code5 i8 1) (A.iget o820 (A.vget code5 i8 2))) o110 o111 o112 o213 o214 o315 o416 o517 o618 o719 o820 o921 kret_0 kx0_0
                              else
                                none
                            else
                              none
                          else
                            bif (A.eq (A.vget code5 i8 0) 6) then
                              bif (A.inb (A.vget code5 i8 2) (A.ilen o09)) then
                                bif (A.inb (A.vget code5 i8 1) (A.ilen o820)) then
                                  impl_serial_l0 A c_101 c_187 c_293 c_294 c_295 n code5 kids6 order7 (A.add .i64 i8 1) o09 o110 o111 o112 o213 o214 o315 o416 o517 o618 o719 (A.iset o820 (A.vget code5 i8 1) (A.iget o09 (A.vget code5 i8 2))) o921 kret_0 kx0_0
                                else
                                  none
                              else
                                none
                            else
                              bif (A.eq (A.vget code5 i8 0) 12) then
                                bif (A.inb (A.vget code5 i8 1) (A.ilen o921)) then
                                  bif (A.inb (A.vget code5 i8 2) (A.ilen o09)) then
                                    bif (A.inb (A.vget code5 i8 1) (A.ilen o921)) then
                                      bif (A.nz 65536) then
                                        bif (A.inb (A.vget code5 i8 3) (A.ilen o09)) then
                                          impl_serial_l0 A c_101 c_187 c_293 c_294 c_295 n code5 kids6 order7 (A.add .i64 i8 1) (A.iset o09 (A.vget code5 i8 3) (A.rem .i64 (A.iget o921 (A.vget code5 i8 1)) 65536)) o110 o111 o112 o213 o214 o315 o416 o517 o618 o719 o820 (A.iset o921 (A.vget code5 i8 1) (A.add .i64 (A.iget o09 (A.vget code5 i8 2)) 1)) kret_0 kx0_0
                                        else
                                          none
                                      else
                                        none
                                    else
                                      none
                                  else
                                    none
                                else
                                  none
                              else
                                bif (A.eq (A.vget code5 i8 0) 13) then
                                  bif (A.inb (A.vget code5 i8 2) (A.ilen o921)) then
                                    bif (A.nz 65536) then
                                      bif (A.inb (A.vget code5 i8 1) (A.ilen o09)) then
                                        impl_serial_l0 A c_101 c_187 c_293 c_294 c_295 n code5 kids6 order7 (A.add .i64 i8 1) (A.iset o09 (A.vget code5 i8 1) (A.rem .i64 (A.iget o921 (A.vget code5 i8 2)) 65536)) o110 o111 o112 o213 o214 o315 o416 o517 o618 o719 o820 o921 kret_0 kx0_0
                                      else
                                        none
                                    else
                                      none
                                  else
                                    none
                                else
                                  bif (A.eq (A.vget code5 i8 0) 14) then
                                    bif (A.inb (A.vget code5 i8 1) (A.ilen o921)) then
                                      bif (A.nz 65536) then
                                        bif (A.inb (A.vget code5 i8 2) (A.ilen o09)) then
                                          bif (A.inb (A.vget code5 i8 1) (A.ilen o921)) then
                                            impl_serial_l0 A c_101 c_187 c_293 c_294 c_295 n code5 kids6 order7 (A.add .i64 i8 1) (A.iset o09 (A.vget code5 i8 2) (A.rem .i64 (A.iget o921 (A.vget code5 i8 1)) 65536)) o110 o111 o112 o213 o214 o315 o416 o517 o618 o719 o820 (A.iset o921 (A.vget code5 i8 1) 0) kret_0 kx0_0
                                          else
                                            none
                                        else
                                          none
                                      else
                                        none
                                    else
                                      none
                                  else
                                    bif (A.eq (A.vget code5 i8 0) 15) then
                                      bif (A.inb (A.vget code5 i8 1) (A.ilen o09)) then
                                        bif (A.nz 65536) then
                                          impl_serial_l0 A c_101 c_187 c_293 c_294 c_295 n code5 kids6 order7 (A.add .i64 i8 1) o09 o110 o111 o112 o213 o214 (A.rem .i64 (A.add .i64 o315 (A.iget o09 (A.vget code5 i8 1))) 65536) o416 o517 o618 o719 o820 o921 kret_0 kx0_0
                                        else
                                          none
                                      else
                                        none
                                    else
                                      bif (A.eq (A.vget code5 i8 0) 16) then
                                        bif (A.inb (A.vget code5 i8 1) (A.ilen o09)) then
                                          impl_serial_l0 A c_101 c_187 c_293 c_294 c_295 n code5 kids6 order7 (A.add .i64 i8 1) (A.iset o09 (A.vget code5 i8 1) o315) o110 o111 o112 o213 o214 o315 o416 o517 o618 o719 o820 o921 kret_0 kx0_0
                                        else
                                          none
                                      else
                                        impl_serial_l0 A c_101 c_187 c_293 c_294 c_295 n code5 kids6 order7 (A.add .i64 i8 1) o09 o110 o111 o112 o213 o214 o315 o416 o517 o618 o719 o820 o921 kret_0 kx0_0
      else
        none
    else
      kx0_0 o09 o213 o214 o315 o517 o618 o719 o820 o921
noncomputable def impl_serial_f (A : PM.Prims) (c_101 : impl_copyInts_T) (c_187 : impl_fullOrder_T) (c_293 : impl_copyThings_T) (c_294 : impl_Calc_T) (c_295 : impl_EndOf_T) (__ : List (List Int)) (a : List (List PM.C)) (r : List Int) (r_3 : List Int) (p4_Cells : List Int) (p4_Map : List Int) (p4_Count : Int) (k : (Int) → (List Int) → (List Int) → (List Int) → (Int) → PM.R) : PM.R :=
  c_101 r_3 (fun r1 =>
    c_293 p4_Cells p4_Map p4_Count (fun r2 r3 r4 =>
      impl_serial_l0 A c_101 c_187 c_293 c_294 c_295 A.fuel __ a r 0 r1 p4_Cells p4_Map p4_Count 0 0 r4 [] [] [] [] r2 r3 (fun o037108 o038109 o139110 o240111 o341112 =>
        k o037108 o139110 o240111 o341112 o038109) (fun o099113 o1100114 o1101115 o2102116 o3103117 o4104118 o5105119 o6106120 o7107121 =>
        k 1 o099113 o6106120 o7107121 o2102116)))
noncomputable def impl_serial (A : PM.Prims) : impl_serial_T := impl_serial_f A (impl_copyInts A) (impl_fullOrder A) (impl_copyThings A) (impl_Calc A) (impl_EndOf A)
noncomputable def impl_serial_L (A : PM.Prims) (c_101 : impl_copyInts_T) (c_187 : impl_fullOrder_T) (c_293 : impl_copyThings_T) (c_294 : impl_Calc_T) (c_295 : impl_EndOf_T) (n : Nat) : PM.Lam := fun cur σ K =>
  match cur, σ, K with
  | 0, ⟨[(0, .arr (.vecs 312 4 code5)), (1, .arr (.rows 233 kids6)), (2, .arr (.ints 3 .i64 order7)), (3, .sref 0), (9, .pbox 1 0), (10, .pbox 2 0), (11, .pbox 3 0), (12, .sref 4), (13, .int .i64 i8)], [(0, .arr true (.ints 3 .i64 o09)), (1, .box [.arr (.ints 3 .i64 o110), .arr (.ints 3 .i64 o111), .int .i64 o112]), (2, .box [.int .i64 o213, .sref 5, .sref 6, .sref 7, .int .i64 o214]), (3, .box [.sref 8, .sref 9, .int .i64 o315]), (4, .arr true (.rows 382 o416)), (5, .arr true (.ints 3 .i64 o517)), (6, .arr true (.ints 3 .i64 o618)), (7, .arr true (.ints 3 .i64 o719)), (8, .arr true (.ints 3 .i64 o820)), (9, .arr true (.ints 3 .i64 o921))]⟩, K => impl_serial_l0 A c_101 c_187 c_293 c_294 c_295 n code5 kids6 order7 i8 o09 o110 o111 o112 o213 o214 o315 o416 o517 o618 o719 o820 o921 (fun o037 o038 o139 o240 o341 => K .ret ⟨[(10, .pbox 0 0)], [(0, .box [.int .i64 o037, .sref 1, .sref 2, .sref 3, .int .i64 o038]), (1, .arr true (.ints 3 .i64 o139)), (2, .arr true (.ints 3 .i64 o240)), (3, .arr true (.ints 3 .i64 o341))]⟩) (fun o099 o1100 o1101 o2102 o3103 o4104 o5105 o6106 o7107 => K (.exit 0) ⟨[(3, .sref 0), (10, .pbox 1 0), (11, .pbox 2 0)], [(0, .arr true (.ints 3 .i64 o099)), (1, .box [.int .i64 o1100, .sref 3, .sref 4, .sref 5, .int .i64 o1101]), (2, .box [.sref 6, .sref 7, .int .i64 o2102]), (3, .arr true (.ints 3 .i64 o3103)), (4, .arr true (.ints 3 .i64 o4104)), (5, .arr true (.ints 3 .i64 o5105)), (6, .arr true (.ints 3 .i64 o6106)), (7, .arr true (.ints 3 .i64 o7107))]⟩)
  | 3, ⟨[(0, .arr (.vecs 312 4 code44)), (1, .arr (.rows 233 kids45)), (2, .arr (.ints 3 .i64 order46)), (3, .sref 0), (9, .pbox 1 0), (10, .pbox 2 0), (11, .pbox 3 0), (12, .sref 4), (13, .int .i64 i47), (17, .sref 5), (139, .sref 6), (140, .int .i64 t14048), (141, .int .i64 t14149)], [(0, .arr true (.ints 3 .i64 o050)), (1, .box [.arr (.ints 3 .i64 o151), .arr (.ints 3 .i64 o152), .int .i64 o153]), (2, .box [.int .i64 o254, .sref 7, .sref 8, .sref 9, .int .i64 o255]), (3, .box [.sref 10, .sref 11, .int .i64 o356]), (4, .arr true (.rows 382 o457)), (5, .arr true (.ints 3 .i64 o558)), (6, .arr true (.ints 3 .i64 o659)), (7, .arr true (.ints 3 .i64 o760)), (8, .arr true (.ints 3 .i64 o861)), (9, .arr true (.ints 3 .i64 o962)), (10, .arr true (.ints 3 .i64 o1063)), (11, .arr true (.ints 3 .i64 o1164))]⟩, K => impl_serial_l3 A c_101 c_187 c_293 c_294 c_295 n code44 kids45 order46 i47 t14048 t14149 o050 o151 o152 o153 o254 o255 o356 o457 o558 o659 o760 o861 o962 o1063 o1164 (fun code65 kids66 order67 i68 o069 o170 o171 o172 o273 o274 o375 o476 o577 o678 o779 o880 o981 => K (.exit 3) ⟨[(0, .arr (.vecs 312 4 code65)), (1, .arr (.rows 233 kids66)), (2, .arr (.ints 3 .i64 order67)), (3, .sref 0), (9, .pbox 1 0), (10, .pbox 2 0), (11, .pbox 3 0), (12, .sref 4), (13, .int .i64 i68)], [(0, .arr true (.ints 3 .i64 o069)), (1, .box [.arr (.ints 3 .i64 o170), .arr (.ints 3 .i64 o171), .int .i64 o172]), (2, .box [.int .i64 o273, .sref 5, .sref 6, .sref 7, .int .i64 o274]), (3, .box [.sref 8, .sref 9, .int .i64 o375]), (4, .arr true (.rows 382 o476)), (5, .arr true (.ints 3 .i64 o577)), (6, .arr true (.ints 3 .i64 o678)), (7, .arr true (.ints 3 .i64 o779)), (8, .arr true (.ints 3 .i64 o880)), (9, .arr true (.ints 3 .i64 o981))]⟩)
  | _, _, _ => none
noncomputable def impl_serial_E (A : PM.Prims) (c_101 : impl_copyInts_T) (c_187 : impl_fullOrder_T) (c_293 : impl_copyThings_T) (c_294 : impl_Calc_T) (c_295 : impl_EndOf_T) : PM.Env := ⟨[(101, ⟨[], impl_copyInts_w c_101, none⟩), (187, ⟨[], impl_fullOrder_w c_187, none⟩), (293, ⟨[], impl_copyThings_w c_293, none⟩), (294, ⟨[], impl_Calc_w c_294, none⟩), (295, ⟨[], impl_EndOf_w c_295, none⟩)], [(296, Go.Proofs.Try.f296)], [(0, [0, 1, 2, 3, 9, 10, 11, 12, 13], [3, 10, 11]), (3, [0, 1, 2, 3, 9, 10, 11, 12, 13, 17, 139, 140, 141], [0, 1, 2, 3, 9, 10, 11, 12, 13])], [(0, [0, 1, 2, 3, 9, 10]), (1, [0, 1, 2, 3, 9, 10]), (2, [0, 1, 2, 3, 9, 10, 11]), (3, [0, 1, 2, 3, 9, 10, 11, 12]), (4, [0, 1, 2, 3, 9, 10, 11, 12, 13]), (5, [0, 1, 2, 3, 9, 10, 11, 12, 13, 29]), (6, [0, 1, 2, 3, 9, 10, 11, 12, 13]), (7, [0, 1, 2, 3, 9, 10, 11, 12, 13, 14]), (8, [0, 1, 2, 3, 9, 10, 11, 12, 13, 14, 37]), (9, [0, 1, 2, 3, 9, 10, 11, 12, 13]), (10, [0, 1, 2, 3, 9, 10, 11, 12, 13, 14, 37, 41]), (11, [0, 1, 2, 3, 9, 10, 11, 12, 13, 14, 37, 41]), (12, [0, 1, 2, 3, 9, 10, 11, 12, 13, 14, 37, 41]), (13, [0, 1, 2, 3, 9, 10, 11, 12, 13, 14, 37, 41]), (14, [0, 1, 2, 3, 9, 10, 11, 12, 13]), (15, [0, 1, 2, 3, 9, 10, 11, 12, 13, 14, 37, 52]), (16, [0, 1, 2, 3, 9, 10, 11, 12, 13, 14, 59]), (17, [0, 1, 2, 3, 9, 10, 11, 12, 13]), (18, [0, 1, 2, 3, 9, 10, 11, 12, 13, 14, 37, 64]), (19, [0, 1, 2, 3, 9, 10, 11, 12, 13]), (20, [0, 1, 2, 3, 9, 10, 11, 12, 13, 14, 37, 75]), (21, [0, 1, 2, 3, 9, 10, 11, 12, 13, 15]), (22, [0, 1, 2, 3, 9, 10, 11, 12, 13, 15]), (23, [0, 1, 2, 3, 9, 10, 11, 12, 13]), (24, [0, 1, 2, 3, 9, 10, 11, 12, 13, 14, 37, 96]), (25, [0, 1, 2, 3, 9, 10, 11, 12, 100]), (26, [10]), (27, [0, 1, 2, 9, 10, 11, 12, 16]), (28, [0, 1, 2, 9, 10, 11, 12, 16]), (29, [0, 1, 2, 3, 9, 10, 11, 12, 16]), (30, [0, 1, 2, 3, 9, 10, 11, 12, 16]), (31, [0, 1, 2, 3, 9, 10, 11, 12, 13]), (32, [0, 1, 2, 3, 9, 10, 11, 12, 13, 14, 132]), (33, [0, 1, 2, 3, 9, 10, 11, 12, 13, 17]), (34, [0, 1, 2, 3, 9, 10, 11, 12, 13, 17, 139, 140, 141]), (35, [0, 1, 2, 3, 9, 10, 11, 12, 13, 17, 139, 140, 141, 142]), (36, [0, 1, 2, 3, 9, 10, 11, 12, 13, 17, 19, 139, 140, 141]), (37, [0, 1, 2, 3, 9, 10, 11, 12, 13, 17, 19, 20, 139, 140, 141]), (38, [0, 1, 2, 3, 9, 10, 11, 12, 13, 17, 19, 20, 139, 140, 141]), (39, [0, 1, 2, 3, 9, 10, 11, 12, 13, 17, 19, 20, 139, 140, 141]), (40, [0, 1, 2, 3, 9, 10, 11, 12, 13, 17, 19, 20, 139, 140, 141, 165]), (41, [0, 1, 2, 3, 9, 10, 11, 12, 13, 17, 139, 140, 141]), (42, [0, 1, 2, 3, 9, 10, 11, 12, 13, 17, 139, 140, 141]), (43, [10])], impl_serial_L A c_101 c_187 c_293 c_294 c_295 A.fuel⟩
theorem impl_serial_l0_ok (A : PM.Prims) (c_101 : impl_copyInts_T) (c_187 : impl_fullOrder_T) (c_293 : impl_copyThings_T) (c_294 : impl_Calc_T) (c_295 : impl_EndOf_T) (n : Nat) (code5 : List (List Int)) (kids6 : List (List C)) (order7 : List Int) (i8 : Int) (o09 : List Int) (o110 : List Int) (o111 : List Int) (o112 : Int) (o213 : Int) (o214 : Int) (o315 : Int) (o416 : List (List C)) (o517 : List Int) (o618 : List Int) (o719 : List Int) (o820 : List Int) (o921 : List Int) (K : Go.Exit → PM.S → PM.R) : impl_serial_L A c_101 c_187 c_293 c_294 c_295 (n + 1) 0 ⟨[(0, .arr (.vecs 312 4 code5)), (1, .arr (.rows 233 kids6)), (2, .arr (.ints 3 .i64 order7)), (3, .sref 0), (9, .pbox 1 0), (10, .pbox 2 0), (11, .pbox 3 0), (12, .sref 4), (13, .int .i64 i8)], [(0, .arr true (.ints 3 .i64 o09)), (1, .box [.arr (.ints 3 .i64 o110), .arr (.ints 3 .i64 o111), .int .i64 o112]), (2, .box [.int .i64 o213, .sref 5, .sref 6, .sref 7, .int .i64 o214]), (3, .box [.sref 8, .sref 9, .int .i64 o315]), (4, .arr true (.rows 382 o416)), (5, .arr true (.ints 3 .i64 o517)), (6, .arr true (.ints 3 .i64 o618)), (7, .arr true (.ints 3 .i64 o719)), (8, .arr true (.ints 3 .i64 o820)), (9, .arr true (.ints 3 .i64 o921))]⟩ K = PM.roundF A cx (PM.runD A cx (impl_serial_E A c_101 c_187 c_293 c_294 c_295).inl (impl_serial_E A c_101 c_187 c_293 c_294 c_295).Γ 3) (impl_serial_E A c_101 c_187 c_293 c_294 c_295) (impl_serial_L A c_101 c_187 c_293 c_294 c_295 n) 0 Go.Proofs.Try.f240 ⟨[(0, .arr (.vecs 312 4 code5)), (1, .arr (.rows 233 kids6)), (2, .arr (.ints 3 .i64 order7)), (3, .sref 0), (9, .pbox 1 0), (10, .pbox 2 0), (11, .pbox 3 0), (12, .sref 4), (13, .int .i64 i8)], [(0, .arr true (.ints 3 .i64 o09)), (1, .box [.arr (.ints 3 .i64 o110), .arr (.ints 3 .i64 o111), .int .i64 o112]), (2, .box [.int .i64 o213, .sref 5, .sref 6, .sref 7, .int .i64 o214]), (3, .box [.sref 8, .sref 9, .int .i64 o315]), (4, .arr true (.rows 382 o416)), (5, .arr true (.ints 3 .i64 o517)), (6, .arr true (.ints 3 .i64 o618)), (7, .arr true (.ints 3 .i64 o719)), (8, .arr true (.ints 3 .i64 o820)), (9, .arr true (.ints 3 .i64 o921))]⟩ K := by kernel_rfl
theorem impl_serial_l3_ok (A : PM.Prims) (c_101 : impl_copyInts_T) (c_187 : impl_fullOrder_T) (c_293 : impl_copyThings_T) (c_294 : impl_Calc_T) (c_295 : impl_EndOf_T) (n : Nat) (code44 : List (List Int)) (kids45 : List (List C)) (order46 : List Int) (i47 : Int) (t14048 : Int) (t14149 : Int) (o050 : List Int) (o151 : List Int) (o152 : List Int) (o153 : Int) (o254 : Int) (o255 : Int) (o356 : Int) (o457 : List (List C)) (o558 : List Int) (o659 : List Int) (o760 : List Int) (o861 : List Int) (o962 : List Int) (o1063 : List Int) (o1164 : List Int) (K : Go.Exit → PM.S → PM.R) : impl_serial_L A c_101 c_187 c_293 c_294 c_295 (n + 1) 3 ⟨[(0, .arr (.vecs 312 4 code44)), (1, .arr (.rows 233 kids45)), (2, .arr (.ints 3 .i64 order46)), (3, .sref 0), (9, .pbox 1 0), (10, .pbox 2 0), (11, .pbox 3 0), (12, .sref 4), (13, .int .i64 i47), (17, .sref 5), (139, .sref 6), (140, .int .i64 t14048), (141, .int .i64 t14149)], [(0, .arr true (.ints 3 .i64 o050)), (1, .box [.arr (.ints 3 .i64 o151), .arr (.ints 3 .i64 o152), .int .i64 o153]), (2, .box [.int .i64 o254, .sref 7, .sref 8, .sref 9, .int .i64 o255]), (3, .box [.sref 10, .sref 11, .int .i64 o356]), (4, .arr true (.rows 382 o457)), (5, .arr true (.ints 3 .i64 o558)), (6, .arr true (.ints 3 .i64 o659)), (7, .arr true (.ints 3 .i64 o760)), (8, .arr true (.ints 3 .i64 o861)), (9, .arr true (.ints 3 .i64 o962)), (10, .arr true (.ints 3 .i64 o1063)), (11, .arr true (.ints 3 .i64 o1164))]⟩ K = PM.roundF A cx (PM.runD A cx (impl_serial_E A c_101 c_187 c_293 c_294 c_295).inl (impl_serial_E A c_101 c_187 c_293 c_294 c_295).Γ 3) (impl_serial_E A c_101 c_187 c_293 c_294 c_295) (impl_serial_L A c_101 c_187 c_293 c_294 c_295 n) 3 Go.Proofs.Try.f240 ⟨[(0, .arr (.vecs 312 4 code44)), (1, .arr (.rows 233 kids45)), (2, .arr (.ints 3 .i64 order46)), (3, .sref 0), (9, .pbox 1 0), (10, .pbox 2 0), (11, .pbox 3 0), (12, .sref 4), (13, .int .i64 i47), (17, .sref 5), (139, .sref 6), (140, .int .i64 t14048), (141, .int .i64 t14149)], [(0, .arr true (.ints 3 .i64 o050)), (1, .box [.arr (.ints 3 .i64 o151), .arr (.ints 3 .i64 o152), .int .i64 o153]), (2, .box [.int .i64 o254, .sref 7, .sref 8, .sref 9, .int .i64 o255]), (3, .box [.sref 10, .sref 11, .int .i64 o356]), (4, .arr true (.rows 382 o457)), (5, .arr true (.ints 3 .i64 o558)), (6, .arr true (.ints 3 .i64 o659)), (7, .arr true (.ints 3 .i64 o760)), (8, .arr true (.ints 3 .i64 o861)), (9, .arr true (.ints 3 .i64 o962)), (10, .arr true (.ints 3 .i64 o1063)), (11, .arr true (.ints 3 .i64 o1164))]⟩ K := by kernel_rfl
theorem impl_serial_ok (A : PM.Prims) (c_101 : impl_copyInts_T) (c_187 : impl_fullOrder_T) (c_293 : impl_copyThings_T) (c_294 : impl_Calc_T) (c_295 : impl_EndOf_T) (__ : List (List Int)) (a : List (List PM.C)) (r : List Int) (r_3 : List Int) (p4_Cells : List Int) (p4_Map : List Int) (p4_Count : Int) (k : PM.V → PM.R) : PM.pfun A cx [] (impl_serial_E A c_101 c_187 c_293 c_294 c_295) Go.Proofs.Try.f240 [.arr (.vecs 312 4 __), .arr (.rows 233 a), .arr (.ints 3 .i64 r), .arr (.ints 3 .i64 r_3), .agg [.arr (.ints 3 .i64 p4_Cells), .arr (.ints 3 .i64 p4_Map), .int .i64 p4_Count]] k = impl_serial_f A c_101 c_187 c_293 c_294 c_295 __ a r r_3 p4_Cells p4_Map p4_Count (fun r0_Out r0_Regs r0_Things_Cells r0_Things_Map r0_Things_Count => k (.agg [.int .i64 r0_Out, .arr (.ints 3 .i64 r0_Regs), .arr (.ints 3 .i64 r0_Things_Cells), .arr (.ints 3 .i64 r0_Things_Map), .int .i64 r0_Things_Count])) := by kernel_rfl

theorem impl_serial_fn : PM.FnIs Try.prog 240 Try.f240 := .of Try.func240 (by kernel_rfl) (by kernel_rfl)
theorem impl_serial_g : PM.GOk Try.prog cx 240 ⟨[], impl_serial_w (impl_serial PM.std), none⟩ := by
  refine ⟨impl_serial_fn.enter, fun _ ds k r h => ?_, fun hm => absurd rfl hm, fun _ e => (by cases e)⟩
  change impl_serial_w (impl_serial PM.std) ds k = some r at h
  unfold impl_serial_w at h
  split at h
  · exact PM.pfun_ok (E := impl_serial_E PM.std (impl_copyInts PM.std) (impl_fullOrder PM.std) (impl_copyThings PM.std) (impl_Calc PM.std) (impl_EndOf PM.std)) (L := fun n => impl_serial_L PM.std (impl_copyInts PM.std) (impl_fullOrder PM.std) (impl_copyThings PM.std) (impl_Calc PM.std) (impl_EndOf PM.std) n) (N := PM.std.fuel) cx_ok (.cons impl_copyInts_g (.cons impl_fullOrder_g (.cons impl_copyThings_g (.cons impl_Calc_g (.cons impl_EndOf_g .nil))))) mixed (.cons (.of Try.func296 (by kernel_rfl) (by kernel_rfl)) (by kernel_rfl) .nil) impl_serial_fn (by kernel_rfl) ⟨rfl, fun cur σ K => by
      dsimp only [impl_serial_L]
      split <;> rfl, fun n cur σ K r h => by
      dsimp only [impl_serial_L] at h
      split at h
      · exact (impl_serial_l0_ok PM.std (impl_copyInts PM.std) (impl_fullOrder PM.std) (impl_copyThings PM.std) (impl_Calc PM.std) (impl_EndOf PM.std) n _ _ _ _ _ _ _ _ _ _ _ _ _ _ _ _ _ K).symm.trans h
      · exact (impl_serial_l3_ok PM.std (impl_copyInts PM.std) (impl_fullOrder PM.std) (impl_copyThings PM.std) (impl_Calc PM.std) (impl_EndOf PM.std) n _ _ _ _ _ _ _ _ _ _ _ _ _ _ _ _ _ _ _ _ _ K).symm.trans h
      · cases h⟩
      ((impl_serial_ok PM.std (impl_copyInts PM.std) (impl_fullOrder PM.std) (impl_copyThings PM.std) (impl_Calc PM.std) (impl_EndOf PM.std) _ _ _ _ _ _ _ k).trans h)
  · cases h

abbrev impl_SerialKid_T := (List (List Int)) → (List Int) → (List Int) → ((Int) → (List Int) → (List Int) → PM.R) → PM.R
noncomputable def impl_SerialKid_w (c : impl_SerialKid_T) (ds : List PM.V) (k : PM.V → PM.R) : PM.R :=
  match ds with
  | [.arr (.vecs 312 4 code), .arr (.ints 3 .i64 regs), .arr (.ints 3 .i64 cells)] => c code regs cells (fun r0 r1 r2 => k (.tup [.int .i64 r0, .arr (.ints 3 .i64 r1), .arr (.ints 3 .i64 r2)]))
  | _ => none
noncomputable def impl_SerialKid_f (A : PM.Prims) (c_166 : impl_KidOk_T) (c_97 : impl_areValues_T) (c_240 : impl_serial_T) (code : List (List Int)) (regs : List Int) (cells : List Int) (k : (Int) → (List Int) → (List Int) → PM.R) : PM.R :=
  c_166 code (fun r1 =>
    bif (A.not r1) then
      k 0 [] []
    else
      c_97 regs 4 (fun r2 =>
        bif (A.not r2) then
          k 0 [] []
        else
          c_97 cells 8 (fun r3 =>
            bif (A.not r3) then
              k 0 [] []
            else
              bif (A.mkOk 8) then
                bif (A.le 8 8) then
                  bif (A.mkOk 8) then
                    c_240 code [] [] regs cells (A.izero 8) 0 (fun r4 r5 r6 r7 r8 =>
                      k r4 r5 r6)
                  else
                    none
                else
                  none
              else
                none)))
noncomputable def impl_SerialKid (A : PM.Prims) : impl_SerialKid_T := impl_SerialKid_f A (impl_KidOk A) (impl_areValues A) (impl_serial A)
noncomputable def impl_SerialKid_L (A : PM.Prims) (c_166 : impl_KidOk_T) (c_97 : impl_areValues_T) (c_240 : impl_serial_T) (n : Nat) : PM.Lam := fun cur σ K =>
  match cur, σ, K with
  | _, _, _ => none
noncomputable def impl_SerialKid_E (A : PM.Prims) (c_166 : impl_KidOk_T) (c_97 : impl_areValues_T) (c_240 : impl_serial_T) : PM.Env := ⟨[(166, ⟨[], impl_KidOk_w c_166, none⟩), (97, ⟨[], impl_areValues_w c_97, none⟩), (240, ⟨[], impl_serial_w c_240, none⟩)], [], [], [(0, [0, 1, 2]), (1, [0, 1, 2, 22]), (2, [6, 7, 8]), (3, [9]), (4, [6, 7, 8])], impl_SerialKid_L A c_166 c_97 c_240 A.fuel⟩
theorem impl_SerialKid_ok (A : PM.Prims) (c_166 : impl_KidOk_T) (c_97 : impl_areValues_T) (c_240 : impl_serial_T) (code : List (List Int)) (regs : List Int) (cells : List Int) (k : PM.V → PM.R) : PM.pfun A cx [] (impl_SerialKid_E A c_166 c_97 c_240) Go.Proofs.Try.f188 [.arr (.vecs 312 4 code), .arr (.ints 3 .i64 regs), .arr (.ints 3 .i64 cells)] k = impl_SerialKid_f A c_166 c_97 c_240 code regs cells (fun r0 r1 r2 => k (.tup [.int .i64 r0, .arr (.ints 3 .i64 r1), .arr (.ints 3 .i64 r2)])) := by kernel_rfl

theorem impl_SerialKid_fn : PM.FnIs Try.prog 188 Try.f188 := .of Try.func188 (by kernel_rfl) (by kernel_rfl)
theorem impl_SerialKid_g : PM.GOk Try.prog cx 188 ⟨[], impl_SerialKid_w (impl_SerialKid PM.std), none⟩ := by
  refine ⟨impl_SerialKid_fn.enter, fun _ ds k r h => ?_, fun hm => absurd rfl hm, fun _ e => (by cases e)⟩
  change impl_SerialKid_w (impl_SerialKid PM.std) ds k = some r at h
  unfold impl_SerialKid_w at h
  split at h
  · exact PM.pfun_ok (E := impl_SerialKid_E PM.std (impl_KidOk PM.std) (impl_areValues PM.std) (impl_serial PM.std)) (L := fun n => impl_SerialKid_L PM.std (impl_KidOk PM.std) (impl_areValues PM.std) (impl_serial PM.std) n) (N := PM.std.fuel) cx_ok (.cons impl_KidOk_g (.cons impl_areValues_g (.cons impl_serial_g .nil))) mixed .nil impl_SerialKid_fn (by kernel_rfl) ⟨rfl, fun _ _ _ => rfl, fun n cur σ K r h => by cases h⟩
      ((impl_SerialKid_ok PM.std (impl_KidOk PM.std) (impl_areValues PM.std) (impl_serial PM.std) _ _ _ k).trans h)
  · cases h

abbrev impl_FamSerial_T := (List Int) → (List Int) → (List (List Int)) → (List (List PM.C)) → (List Int) → (List Int) → ((List Int) → (List Int) → PM.R) → PM.R
noncomputable def impl_FamSerial_w (c : impl_FamSerial_T) (ds : List PM.V) (k : PM.V → PM.R) : PM.R :=
  match ds with
  | [.agg [.arr (.ints 3 .i64 ___Cells), .arr (.ints 3 .i64 ___Regs), .arr (.vecs 161 2 ___Writes), .arr (.rows 233 ___Kids), .arr (.ints 3 .i64 ___Acts)], .arr (.ints 3 .i64 a)] => c ___Cells ___Regs ___Writes ___Kids ___Acts a (fun r0 r1 => k (.tup [.arr (.ints 3 .i64 r0), .arr (.ints 3 .i64 r1)]))
  | _ => none
noncomputable def impl_FamSerial_l0 (A : PM.Prims) (c_75 : impl_FamOk_T) (c_186 : impl_orderOk_T) (c_101 : impl_copyInts_T) (c_102 : impl_Overlay_T) (c_187 : impl_fullOrder_T) (c_188 : impl_SerialKid_T) : Nat → (Int) → (Int) → (List Int) → (List Int) → (List (List Int)) → (List (List C)) → (List Int) → (List Int) → (List Int) → (List Int) → ((List Int) → (List Int) → PM.R) → PM.R
  | 0, _, _, _, _, _, _, _, _, _, _, _ => none
  | n + 1, t376, t387, o08, o09, o010, o011, o012, o113, o214, o315, kx0_0 =>
    bif (A.lt t387 t376) then
      bif (A.inb t387 (A.ilen o315)) then
        bif (A.inb (A.iget o315 t387) (A.rlen o011)) then
          c_188 (A.rsv 4 o011 (A.iget o315 t387) 0) o09 o214 (fun r16 r17 r18 =>
            bif (A.inb (A.iget o315 t387) (A.ilen o113)) then
              bif (A.eq r16 1) then
                bif (A.inb 0 (A.ilen r17)) then
                  bif (A.inb (A.iget o315 t387) (A.ilen (A.iset o113 (A.iget o315 t387) 0))) then
                    impl_FamSerial_l0 A c_75 c_186 c_101 c_102 c_187 c_188 n t376 (A.add .i64 t387 1) o08 o09 o010 o011 o012 (A.iset (A.iset o113 (A.iget o315 t387) 0) (A.iget o315 t387) (A.iget r17 0)) r18 o315 kx0_0
                  else
                    none
                else
                  none
              else
                impl_FamSerial_l0 A c_75 c_186 c_101 c_102 c_187 c_188 n t376 (A.add .i64 t387 1) o08 o09 o010 o011 o012 (A.iset o113 (A.iget o315 t387) 0) r18 o315 kx0_0
            else
              none)
        else
          none
      else
        none
    else
      kx0_0 o113 o214
noncomputable def impl_FamSerial_f (A : PM.Prims) (c_75 : impl_FamOk_T) (c_186 : impl_orderOk_T) (c_101 : impl_copyInts_T) (c_102 : impl_Overlay_T) (c_187 : impl_fullOrder_T) (c_188 : impl_SerialKid_T) (___Cells : List Int) (___Regs : List Int) (___Writes : List (List Int)) (___Kids : List (List PM.C)) (___Acts : List Int) (a : List Int) (k : (List Int) → (List Int) → PM.R) : PM.R :=
  c_75 ___Cells ___Regs ___Writes ___Kids ___Acts (fun r1 =>
    bif (A.not r1) then
      k [] []
    else
      c_186 a (A.rlen ___Kids) (fun r2 =>
        bif (A.not r2) then
          k [] []
        else
          c_101 ___Regs (fun r3 =>
            c_102 ___Cells ___Writes (fun r4 =>
              c_187 a (A.rlen ___Kids) (fun r5 =>
                impl_FamSerial_l0 A c_75 c_186 c_101 c_102 c_187 c_188 A.fuel (A.ilen r5) 0 ___Cells ___Regs ___Writes ___Kids ___Acts r3 r4 r5 (fun o01921 o12022 =>
                  k o01921 o12022))))))
noncomputable def impl_FamSerial (A : PM.Prims) : impl_FamSerial_T := impl_FamSerial_f A (impl_FamOk A) (impl_orderOk A) (impl_copyInts A) (impl_Overlay A) (impl_fullOrder A) (impl_SerialKid A)
noncomputable def impl_FamSerial_L (A : PM.Prims) (c_75 : impl_FamOk_T) (c_186 : impl_orderOk_T) (c_101 : impl_copyInts_T) (c_102 : impl_Overlay_T) (c_187 : impl_fullOrder_T) (c_188 : impl_SerialKid_T) (n : Nat) : PM.Lam := fun cur σ K =>
  match cur, σ, K with
  | 0, ⟨[(2, .pbox 0 0), (6, .sref 1), (7, .sref 2), (36, .sref 3), (37, .int .i64 t376), (38, .int .i64 t387)], [(0, .box [.arr (.ints 3 .i64 o08), .arr (.ints 3 .i64 o09), .arr (.vecs 161 2 o010), .arr (.rows 233 o011), .arr (.ints 3 .i64 o012)]), (1, .arr true (.ints 3 .i64 o113)), (2, .arr true (.ints 3 .i64 o214)), (3, .arr true (.ints 3 .i64 o315))]⟩, K => impl_FamSerial_l0 A c_75 c_186 c_101 c_102 c_187 c_188 n t376 t387 o08 o09 o010 o011 o012 o113 o214 o315 (fun o019 o120 => K (.exit 0) ⟨[(6, .sref 0), (7, .sref 1)], [(0, .arr true (.ints 3 .i64 o019)), (1, .arr true (.ints 3 .i64 o120))]⟩)
  | _, _, _ => none
noncomputable def impl_FamSerial_E (A : PM.Prims) (c_75 : impl_FamOk_T) (c_186 : impl_orderOk_T) (c_101 : impl_copyInts_T) (c_102 : impl_Overlay_T) (c_187 : impl_fullOrder_T) (c_188 : impl_SerialKid_T) : PM.Env := ⟨[(75, ⟨[], impl_FamOk_w c_75, none⟩), (186, ⟨[], impl_orderOk_w c_186, none⟩), (101, ⟨[], impl_copyInts_w c_101, none⟩), (102, ⟨[], impl_Overlay_w c_102, none⟩), (187, ⟨[], impl_fullOrder_w c_187, none⟩), (188, ⟨[], impl_SerialKid_w c_188, none⟩)], [], [(0, [2, 6, 7, 36, 37, 38], [4, 5, 6, 7])], [(0, [1, 2]), (1, [1, 2, 23]), (2, [4, 5]), (3, [1, 2, 6]), (4, [1, 2, 6, 7]), (5, [2, 6, 7, 36, 37, 38]), (6, [2, 6, 7, 36, 37, 38, 39]), (7, [2, 6, 7, 9, 36, 37, 38]), (8, [2, 6, 9, 10, 11, 12, 36, 37, 38]), (9, [2, 6, 7, 9, 10, 11, 36, 37, 38]), (10, [2, 6, 7, 9, 10, 11, 36, 37, 38]), (11, [2, 6, 7, 9, 11, 36, 37, 38, 61]), (12, [2, 6, 7, 36, 37, 38]), (13, [2, 6, 7, 36, 37, 38]), (14, [4, 5])], impl_FamSerial_L A c_75 c_186 c_101 c_102 c_187 c_188 A.fuel⟩
theorem impl_FamSerial_l0_ok (A : PM.Prims) (c_75 : impl_FamOk_T) (c_186 : impl_orderOk_T) (c_101 : impl_copyInts_T) (c_102 : impl_Overlay_T) (c_187 : impl_fullOrder_T) (c_188 : impl_SerialKid_T) (n : Nat) (t376 : Int) (t387 : Int) (o08 : List Int) (o09 : List Int) (o010 : List (List Int)) (o011 : List (List C)) (o012 : List Int) (o113 : List Int) (o214 : List Int) (o315 : List Int) (K : Go.Exit → PM.S → PM.R) : impl_FamSerial_L A c_75 c_186 c_101 c_102 c_187 c_188 (n + 1) 0 ⟨[(2, .pbox 0 0), (6, .sref 1), (7, .sref 2), (36, .sref 3), (37, .int .i64 t376), (38, .int .i64 t387)], [(0, .box [.arr (.ints 3 .i64 o08), .arr (.ints 3 .i64 o09), .arr (.vecs 161 2 o010), .arr (.rows 233 o011), .arr (.ints 3 .i64 o012)]), (1, .arr true (.ints 3 .i64 o113)), (2, .arr true (.ints 3 .i64 o214)), (3, .arr true (.ints 3 .i64 o315))]⟩ K = PM.roundF A cx (PM.runD A cx (impl_FamSerial_E A c_75 c_186 c_101 c_102 c_187 c_188).inl (impl_FamSerial_E A c_75 c_186 c_101 c_102 c_187 c_188).Γ 3) (impl_FamSerial_E A c_75 c_186 c_101 c_102 c_187 c_188) (impl_FamSerial_L A c_75 c_186 c_101 c_102 c_187 c_188 n) 0 Go.Proofs.Try.f90 ⟨[(2, .pbox 0 0), (6, .sref 1), (7, .sref 2), (36, .sref 3), (37, .int .i64 t376), (38, .int .i64 t387)], [(0, .box [.arr (.ints 3 .i64 o08), .arr (.ints 3 .i64 o09), .arr (.vecs 161 2 o010), .arr (.rows 233 o011), .arr (.ints 3 .i64 o012)]), (1, .arr true (.ints 3 .i64 o113)), (2, .arr true (.ints 3 .i64 o214)), (3, .arr true (.ints 3 .i64 o315))]⟩ K := by kernel_rfl
theorem impl_FamSerial_ok (A : PM.Prims) (c_75 : impl_FamOk_T) (c_186 : impl_orderOk_T) (c_101 : impl_copyInts_T) (c_102 : impl_Overlay_T) (c_187 : impl_fullOrder_T) (c_188 : impl_SerialKid_T) (___Cells : List Int) (___Regs : List Int) (___Writes : List (List Int)) (___Kids : List (List PM.C)) (___Acts : List Int) (a : List Int) (k : PM.V → PM.R) : PM.pfun A cx [] (impl_FamSerial_E A c_75 c_186 c_101 c_102 c_187 c_188) Go.Proofs.Try.f90 [.agg [.arr (.ints 3 .i64 ___Cells), .arr (.ints 3 .i64 ___Regs), .arr (.vecs 161 2 ___Writes), .arr (.rows 233 ___Kids), .arr (.ints 3 .i64 ___Acts)], .arr (.ints 3 .i64 a)] k = impl_FamSerial_f A c_75 c_186 c_101 c_102 c_187 c_188 ___Cells ___Regs ___Writes ___Kids ___Acts a (fun r0 r1 => k (.tup [.arr (.ints 3 .i64 r0), .arr (.ints 3 .i64 r1)])) := by kernel_rfl

theorem impl_FamSerial_fn : PM.FnIs Try.prog 90 Try.f90 := .of Try.func90 (by kernel_rfl) (by kernel_rfl)
theorem impl_FamSerial_g : PM.GOk Try.prog cx 90 ⟨[], impl_FamSerial_w (impl_FamSerial PM.std), none⟩ := by
  refine ⟨impl_FamSerial_fn.enter, fun _ ds k r h => ?_, fun hm => absurd rfl hm, fun _ e => (by cases e)⟩
  change impl_FamSerial_w (impl_FamSerial PM.std) ds k = some r at h
  unfold impl_FamSerial_w at h
  split at h
  · exact PM.pfun_ok (E := impl_FamSerial_E PM.std (impl_FamOk PM.std) (impl_orderOk PM.std) (impl_copyInts PM.std) (impl_Overlay PM.std) (impl_fullOrder PM.std) (impl_SerialKid PM.std)) (L := fun n => impl_FamSerial_L PM.std (impl_FamOk PM.std) (impl_orderOk PM.std) (impl_copyInts PM.std) (impl_Overlay PM.std) (impl_fullOrder PM.std) (impl_SerialKid PM.std) n) (N := PM.std.fuel) cx_ok (.cons impl_FamOk_g (.cons impl_orderOk_g (.cons impl_copyInts_g (.cons impl_Overlay_g (.cons impl_fullOrder_g (.cons impl_SerialKid_g .nil)))))) mixed .nil impl_FamSerial_fn (by kernel_rfl) ⟨rfl, fun cur σ K => by
      dsimp only [impl_FamSerial_L]
      split <;> rfl, fun n cur σ K r h => by
      dsimp only [impl_FamSerial_L] at h
      split at h
      · exact (impl_FamSerial_l0_ok PM.std (impl_FamOk PM.std) (impl_orderOk PM.std) (impl_copyInts PM.std) (impl_Overlay PM.std) (impl_fullOrder PM.std) (impl_SerialKid PM.std) n _ _ _ _ _ _ _ _ _ _ K).symm.trans h
      · cases h⟩
      ((impl_FamSerial_ok PM.std (impl_FamOk PM.std) (impl_orderOk PM.std) (impl_copyInts PM.std) (impl_Overlay PM.std) (impl_fullOrder PM.std) (impl_SerialKid PM.std) _ _ _ _ _ _ k).trans h)
  · cases h

abbrev laws_FnExactFamSerial_T := (List Int) → (List Int) → (List (List Int)) → (List (List PM.C)) → (List Int) → (List Int) → ((Bool) → PM.R) → PM.R
noncomputable def laws_FnExactFamSerial_w (c : laws_FnExactFamSerial_T) (ds : List PM.V) (k : PM.V → PM.R) : PM.R :=
  match ds with
  | [.agg [.arr (.ints 3 .i64 ___Cells), .arr (.ints 3 .i64 ___Regs), .arr (.vecs 297 2 ___Writes), .arr (.rows 309 ___Kids), .arr (.ints 3 .i64 ___Acts)], .arr (.ints 3 .i64 a)] => c ___Cells ___Regs ___Writes ___Kids ___Acts a (fun r0 => k (.bool r0))
  | _ => none
noncomputable def laws_FnExactFamSerial_f (A : PM.Prims) (c_72 : laws_szFamScript_T) (c_37 : laws_toIntS_T) (c_74 : laws_toFamScript_T) (c_89 : spec_FamSerial_T) (c_90 : impl_FamSerial_T) (c_40 : laws_eqIntS_T) (c_76 : laws_eqFamScript_T) (c_91 : laws_markFamScript_T) (c_54 : laws_markIntS_T) (c_56 : laws_heldIntS_T) (___Cells : List Int) (___Regs : List Int) (___Writes : List (List Int)) (___Kids : List (List PM.C)) (___Acts : List Int) (a : List Int) (k : (Bool) → PM.R) : PM.R :=
  bif (A.lt 1048576 (A.ilen a)) then
    k true
  else
    c_72 (A.rsi [[(.s (A.ofi ___Cells)), (.s (A.ofi ___Regs)), (.s (A.ofv ___Writes)), (.s ___Kids), (.s (A.ofi ___Acts))]] 0 0) (A.rsi [[(.s (A.ofi ___Cells)), (.s (A.ofi ___Regs)), (.s (A.ofv ___Writes)), (.s ___Kids), (.s (A.ofi ___Acts))]] 0 1) (A.rsv 2 [[(.s (A.ofi ___Cells)), (.s (A.ofi ___Regs)), (.s (A.ofv ___Writes)), (.s ___Kids), (.s (A.ofi ___Acts))]] 0 2) (A.rsr [[(.s (A.ofi ___Cells)), (.s (A.ofi ___Regs)), (.s (A.ofv ___Writes)), (.s ___Kids), (.s (A.ofi ___Acts))]] 0 3) (A.rsi [[(.s (A.ofi ___Cells)), (.s (A.ofi ___Regs)), (.s (A.ofv ___Writes)), (.s ___Kids), (.s (A.ofi ___Acts))]] 0 4) 1048576 (fun r1 =>
      bif (A.lt r1 0) then
        k true
      else
        c_74 (A.rsi [[(.s (A.ofi ___Cells)), (.s (A.ofi ___Regs)), (.s (A.ofv ___Writes)), (.s ___Kids), (.s (A.ofi ___Acts))]] 0 0) (A.rsi [[(.s (A.ofi ___Cells)), (.s (A.ofi ___Regs)), (.s (A.ofv ___Writes)), (.s ___Kids), (.s (A.ofi ___Acts))]] 0 1) (A.rsv 2 [[(.s (A.ofi ___Cells)), (.s (A.ofi ___Regs)), (.s (A.ofv ___Writes)), (.s ___Kids), (.s (A.ofi ___Acts))]] 0 2) (A.rsr [[(.s (A.ofi ___Cells)), (.s (A.ofi ___Regs)), (.s (A.ofv ___Writes)), (.s ___Kids), (.s (A.ofi ___Acts))]] 0 3) (A.rsi [[(.s (A.ofi ___Cells)), (.s (A.ofi ___Regs)), (.s (A.ofv ___Writes)), (.s ___Kids), (.s (A.ofi ___Acts))]] 0 4) (fun r2 r3 r4 r5 r6 =>
          c_37 a (fun r7 =>
            c_89 r2 r3 r4 r5 r6 r7 (fun r8 r9 =>
              c_74 (A.rsi [[(.s (A.ofi ___Cells)), (.s (A.ofi ___Regs)), (.s (A.ofv ___Writes)), (.s ___Kids), (.s (A.ofi ___Acts))]] 0 0) (A.rsi [[(.s (A.ofi ___Cells)), (.s (A.ofi ___Regs)), (.s (A.ofv ___Writes)), (.s ___Kids), (.s (A.ofi ___Acts))]] 0 1) (A.rsv 2 [[(.s (A.ofi ___Cells)), (.s (A.ofi ___Regs)), (.s (A.ofv ___Writes)), (.s ___Kids), (.s (A.ofi ___Acts))]] 0 2) (A.rsr [[(.s (A.ofi ___Cells)), (.s (A.ofi ___Regs)), (.s (A.ofv ___Writes)), (.s ___Kids), (.s (A.ofi ___Acts))]] 0 3) (A.rsi [[(.s (A.ofi ___Cells)), (.s (A.ofi ___Regs)), (.s (A.ofv ___Writes)), (.s ___Kids), (.s (A.ofi ___Acts))]] 0 4) (fun r10 r11 r12 r13 r14 =>
                c_37 a (fun r15 =>
                  c_90 r10 r11 r12 r13 r14 r15 (fun r16 r17 =>
                    c_40 r16 r8 (fun r18 =>
                      bif (A.not r18) then
                        k false
                      else
                        c_40 r17 r9 (fun r19 =>
                          bif (A.not r19) then
                            k false
                          else
                            c_74 (A.rsi [[(.s (A.ofi ___Cells)), (.s (A.ofi ___Regs)), (.s (A.ofv ___Writes)), (.s ___Kids), (.s (A.ofi ___Acts))]] 0 0) (A.rsi [[(.s (A.ofi ___Cells)), (.s (A.ofi ___Regs)), (.s (A.ofv ___Writes)), (.s ___Kids), (.s (A.ofi ___Acts))]] 0 1) (A.rsv 2 [[(.s (A.ofi ___Cells)), (.s (A.ofi ___Regs)), (.s (A.ofv ___Writes)), (.s ___Kids), (.s (A.ofi ___Acts))]] 0 2) (A.rsr [[(.s (A.ofi ___Cells)), (.s (A.ofi ___Regs)), (.s (A.ofv ___Writes)), (.s ___Kids), (.s (A.ofi ___Acts))]] 0 3) (A.rsi [[(.s (A.ofi ___Cells)), (.s (A.ofi ___Regs)), (.s (A.ofv ___Writes)), (.s ___Kids), (.s (A.ofi ___Acts))]] 0 4) (fun r20 r21 r22 r23 r24 =>
                              c_76 r10 r11 r12 r13 r14 r20 r21 r22 r23 r24 (fun r25 =>
                                bif (A.not r25) then
                                  k false
                                else
                                  c_37 a (fun r26 =>
                                    c_40 r15 r26 (fun r27 =>
                                      bif (A.not r27) then
                                        k false
                                      else
                                        c_91 r10 r11 r12 r13 r14 1 (fun r28 =>
                                          c_54 r15 r28 (fun r29 r30 =>
                                            bif (A.lt r29 0) then
                                              k false
                                            else
                                              c_40 r16 r8 (fun r31 =>
                                                bif (A.not r31) then
                                                  k false
                                                else
                                                  c_40 r17 r9 (fun r32 =>
                                                    bif (A.not r32) then
                                                      k false
                                                    else
                                                      c_54 r16 1 (fun r33 r34 =>
                                                        c_54 r17 r33 (fun r35 r36 =>
                                                          c_56 r34 1 (fun r37 =>
                                                            bif (A.lt r37 0) then
                                                              k false
                                                            else
                                                              c_56 r36 r37 (fun r38 =>
                                                                bif (A.lt r38 0) then
                                                                  k false
                                                                else
                                                                  bif (A.not (A.eq r38 r35)) then
                                                                    k false
                                                                  else
                                                                    c_74 (A.rsi [[(.s (A.ofi ___Cells)), (.s (A.ofi ___Regs)), (.s (A.ofv ___Writes)), (.s ___Kids), (.s (A.ofi ___Acts))]] 0 0) (A.rsi [[(.s (A.ofi ___Cells)), (.s (A.ofi ___Regs)), (.s (A.ofv ___Writes)), (.s ___Kids), (.s (A.ofi ___Acts))]] 0 1) (A.rsv 2 [[(.s (A.ofi ___Cells)), (.s (A.ofi ___Regs)), (.s (A.ofv ___Writes)), (.s ___Kids), (.s (A.ofi ___Acts))]] 0 2) (A.rsr [[(.s (A.ofi ___Cells)), (.s (A.ofi ___Regs)), (.s (A.ofv ___Writes)), (.s ___Kids), (.s (A.ofi ___Acts))]] 0 3) (A.rsi [[(.s (A.ofi ___Cells)), (.s (A.ofi ___Regs)), (.s (A.ofv ___Writes)), (.s ___Kids), (.s (A.ofi ___Acts))]] 0 4) (fun r39 r40 r41 r42 r43 =>
                                                                      c_37 a (fun r44 =>
                                                                        c_90 r39 r40 r41 r42 r43 r44 (fun r45 r46 =>
                                                                          c_40 r45 r8 (fun r47 =>
                                                                            bif (A.not r47) then
                                                                              k false
                                                                            else
                                                                              c_40 r46 r9 (fun r48 =>
                                                                                bif (A.not r48) then
                                                                                  k false
                                                                                else
                                                                                  c_56 r34 1 (fun r49 =>
                                                                                    bif (A.lt r49 0) then
                                                                                      k false
                                                                                    else
                                                                                      c_56 r36 r49 (fun r50 =>
                                                                                        bif (A.lt r50 0) then
                                                                                          k false
                                                                                        else
                                                                                          bif (A.not (A.eq r50 r35)) then
                                                                                            k false
                                                                                          else
                                                                                            k true))))))))))))))))))))))))))))
noncomputable def laws_FnExactFamSerial (A : PM.Prims) : laws_FnExactFamSerial_T := laws_FnExactFamSerial_f A (laws_szFamScript A) (laws_toIntS A) (laws_toFamScript A) (spec_FamSerial A) (impl_FamSerial A) (laws_eqIntS A) (laws_eqFamScript A) (laws_markFamScript A) (laws_markIntS A) (laws_heldIntS A)
noncomputable def laws_FnExactFamSerial_L (A : PM.Prims) (c_72 : laws_szFamScript_T) (c_37 : laws_toIntS_T) (c_74 : laws_toFamScript_T) (c_89 : spec_FamSerial_T) (c_90 : impl_FamSerial_T) (c_40 : laws_eqIntS_T) (c_76 : laws_eqFamScript_T) (c_91 : laws_markFamScript_T) (c_54 : laws_markIntS_T) (c_56 : laws_heldIntS_T) (n : Nat) : PM.Lam := fun cur σ K =>
  match cur, σ, K with
  | _, _, _ => none
noncomputable def laws_FnExactFamSerial_E (A : PM.Prims) (c_72 : laws_szFamScript_T) (c_37 : laws_toIntS_T) (c_74 : laws_toFamScript_T) (c_89 : spec_FamSerial_T) (c_90 : impl_FamSerial_T) (c_40 : laws_eqIntS_T) (c_76 : laws_eqFamScript_T) (c_91 : laws_markFamScript_T) (c_54 : laws_markIntS_T) (c_56 : laws_heldIntS_T) : PM.Env := ⟨[(72, ⟨[], laws_szFamScript_w c_72, none⟩), (37, ⟨[], laws_toIntS_w c_37, none⟩), (74, ⟨[], laws_toFamScript_w c_74, none⟩), (89, ⟨[], spec_FamSerial_w c_89, none⟩), (90, ⟨[], impl_FamSerial_w c_90, none⟩), (40, ⟨[], laws_eqIntS_w c_40, none⟩), (76, ⟨[], laws_eqFamScript_w c_76, none⟩), (54, ⟨[true, false], laws_markIntS_w c_54, none⟩), (56, ⟨[], laws_heldIntS_w c_56, none⟩)], [], [], [(0, [1, 2]), (1, [1, 2, 19]), (2, [4]), (3, [1, 2, 5]), (4, [1, 2, 5]), (5, [1, 2, 24]), (6, [4]), (7, [1, 2, 6, 7]), (8, [1, 2, 6, 7, 8]), (9, [1, 2, 6, 7, 8, 9]), (10, [1, 2, 6, 7, 8, 9, 10, 11]), (11, [1, 2, 6, 7, 8, 9, 10, 11, 52]), (12, [4]), (13, [1, 2, 6, 7, 8, 9, 10, 11, 57]), (14, [4]), (15, [1, 2, 6, 7, 8, 9, 10, 11, 62]), (16, [4]), (17, [1, 2, 6, 7, 8, 9, 10, 11, 12]), (18, [1, 2, 6, 7, 9, 10, 11, 12]), (19, [1, 2, 6, 7, 10, 11, 12]), (20, [1, 2, 6, 7, 10, 11, 82]), (21, [4]), (22, [1, 2, 6, 7, 10, 11, 13]), (23, [1, 2, 6, 7, 10, 11, 13]), (24, [1, 2, 6, 7, 10, 11, 13]), (25, [1, 2, 6, 7, 10, 11, 13, 14]), (26, [1, 2, 6, 7, 10, 11, 13, 14]), (27, [1, 2, 6, 7, 10, 11, 13, 14, 93]), (28, [4]), (29, [1, 2, 6, 7, 10, 11, 13, 14]), (30, [1, 2, 6, 7, 10, 11, 13, 14, 98]), (31, [4]), (32, [1, 2, 6, 7, 10, 11, 13, 101]), (33, [4]), (34, [6, 7, 10, 11, 13, 15, 16]), (35, [10, 11, 13, 119]), (36, [4]), (37, [10, 11, 13, 14]), (38, [11, 13, 14]), (39, [11, 13, 14, 124]), (40, [4]), (41, [13, 14]), (42, [13, 14, 129]), (43, [4]), (44, [132]), (45, [4]), (46, [4])], laws_FnExactFamSerial_L A c_72 c_37 c_74 c_89 c_90 c_40 c_76 c_91 c_54 c_56 A.fuel⟩
theorem laws_FnExactFamSerial_ok (A : PM.Prims) (c_72 : laws_szFamScript_T) (c_37 : laws_toIntS_T) (c_74 : laws_toFamScript_T) (c_89 : spec_FamSerial_T) (c_90 : impl_FamSerial_T) (c_40 : laws_eqIntS_T) (c_76 : laws_eqFamScript_T) (c_91 : laws_markFamScript_T) (c_54 : laws_markIntS_T) (c_56 : laws_heldIntS_T) (___Cells : List Int) (___Regs : List Int) (___Writes : List (List Int)) (___Kids : List (List PM.C)) (___Acts : List Int) (a : List Int) (k : PM.V → PM.R) : PM.lfunB A cx [(91, laws_markFamScript_w c_91)] (laws_FnExactFamSerial_E A c_72 c_37 c_74 c_89 c_90 c_40 c_76 c_91 c_54 c_56) Go.Proofs.Try.f20 [.agg [.arr (.ints 3 .i64 ___Cells), .arr (.ints 3 .i64 ___Regs), .arr (.vecs 297 2 ___Writes), .arr (.rows 309 ___Kids), .arr (.ints 3 .i64 ___Acts)], .arr (.ints 3 .i64 a)] k = laws_FnExactFamSerial_f A c_72 c_37 c_74 c_89 c_90 c_40 c_76 c_91 c_54 c_56 ___Cells ___Regs ___Writes ___Kids ___Acts a (fun r0 => k (.bool r0)) := by kernel_rfl

theorem laws_FnExactFamSerial_fn : PM.FnIs Try.prog 20 Try.f20 := .of Try.func20 (by kernel_rfl) (by kernel_rfl)
theorem laws_FnExactFamSerial_g : PM.GOk Try.prog cx 20 ⟨[], laws_FnExactFamSerial_w (laws_FnExactFamSerial PM.std), none⟩ := by
  refine ⟨laws_FnExactFamSerial_fn.enter, fun _ ds k r h => ?_, fun hm => absurd rfl hm, fun _ e => (by cases e)⟩
  change laws_FnExactFamSerial_w (laws_FnExactFamSerial PM.std) ds k = some r at h
  unfold laws_FnExactFamSerial_w at h
  split at h
  · exact PM.lfunB_ok (E := laws_FnExactFamSerial_E PM.std (laws_szFamScript PM.std) (laws_toIntS PM.std) (laws_toFamScript PM.std) (spec_FamSerial PM.std) (impl_FamSerial PM.std) (laws_eqIntS PM.std) (laws_eqFamScript PM.std) (laws_markFamScript PM.std) (laws_markIntS PM.std) (laws_heldIntS PM.std)) (M := [(91, laws_markFamScript_w (laws_markFamScript PM.std))]) (.cons laws_markFamScript_mk .nil) cx_ok (.cons laws_szFamScript_g (.cons laws_toIntS_g (.cons laws_toFamScript_g (.cons spec_FamSerial_g (.cons impl_FamSerial_g (.cons laws_eqIntS_g (.cons laws_eqFamScript_g (.cons laws_markIntS_g (.cons laws_heldIntS_g .nil))))))))) mixed .nil laws_FnExactFamSerial_fn (by kernel_rfl)
      ((laws_FnExactFamSerial_ok PM.std (laws_szFamScript PM.std) (laws_toIntS PM.std) (laws_toFamScript PM.std) (spec_FamSerial PM.std) (impl_FamSerial PM.std) (laws_eqIntS PM.std) (laws_eqFamScript PM.std) (laws_markFamScript PM.std) (laws_markIntS PM.std) (laws_heldIntS PM.std) _ _ _ _ _ _ k).trans h)
  · cases h

end X
