/- A part of the proof of FnPrefixes. -/
import Derived.Test.YtfabennfhmlihaaGreatDoorCpreD
import Derived.Test.YtfabennfhmlihaaGreatDoorCpreE
import Derived.ArgAppend
import Derived.Below
import Derived.BigQuiet
import Derived.Deep.AppendLies
import Derived.Deep.CutBlock
import Derived.Deep.DeepCutAuto
import Derived.Deep.Draws
import Derived.Deep.LoopGhost
import Derived.Deep.OwnRows
import Derived.Deep.QuietTactic
import Derived.Deep.RegionHeld3
import Derived.KernelRfl
import Derived.Laws.BitsLemmas
import Derived.Laws.BytesArg
import Derived.Laws.IdiomCopy
import Derived.Laws.MakeOwn
import Derived.Laws.OwnMore
import Derived.Laws.Rows
import Derived.Laws.Slices
import Derived.Laws.StructEq
import Derived.Lib.AppendStr
import Derived.Lib.ConvBytes
import Derived.Maps.AppendAt
import Derived.OrdersHeld
import Derived.Outline
import Derived.OwnWalk
import Derived.RowKit
import Derived.RowKit3
import Derived.Tactics
import Derived.WalkKit
import Derived.WideLaws
section
namespace Go.Proofs.YtfabennfhmlihaaGreatDoor.P
open Go.RowKit Go.Proofs.YtfabennfhmlihaaGreatDoorW.zJ Go.Proofs.YtfabennfhmlihaaGreatDoorW.zU Go.Proofs.YtfabennfhmlihaaGreatDoorW.PrintMore
set_option linter.unusedVariables false
set_option linter.unusedSimpArgs false
def zP.f (k : Nat) (s0_0 : List Int) (s0_1 : Int) (s0_2 : Int) : Option ((List (zL)) × Int × Int) := (zu.f k s0_0 s0_1 s0_2).bind fun bt202 => ((zNa.f k bt202.1).bind fun bt207 => (if bt207.2 = true then ((l2of.f bt207.1).bind fun t211 => ((zK.f s0_0 bt202.2.1 bt202.2.2 60).bind fun bt215 => (if bt215.1 = 0 then ((zK.f s0_0 bt215.2.1 bt215.2.2 (t211.length : Int)).bind fun bt218 => ((zM.f s0_0 bt218.2.1 bt218.2.2 2).bind fun bt221 => (if 0 ≤ bt218.1 then (if bt218.1 < (t211.length : Int) then (some ((t211.set (bt218.1 : Int).toNat (⟨(zl t211 bt218.1).f0, (zl t211 bt218.1).f1, bt221.1⟩ : zL)), bt221.2.1, bt221.2.2)) else (none)) else (none)))) else (if bt215.1 = 1 then ((zK.f s0_0 bt215.2.1 bt215.2.2 (t211.length : Int)).bind fun bt225 => ((zaa.f s0_0 bt225.2.1 bt225.2.2 (([(-1), 26, 0, 3] : List Int))).bind fun bt231 => (if 0 ≤ bt225.1 then (if bt225.1 < (t211.length : Int) then (some ((t211.set (bt225.1 : Int).toNat (⟨bt231.1, (zl t211 bt225.1).f1, (zl t211 bt225.1).f2⟩ : zL)), bt231.2.1, bt231.2.2)) else (none)) else (none)))) else (if bt215.1 = 2 then ((zK.f s0_0 bt215.2.1 bt215.2.2 (t211.length : Int)).bind fun bt235 => ((zaa.f s0_0 bt235.2.1 bt235.2.2 (([(-1), 0, 1, (t211.length : Int)] : List Int))).bind fun bt241 => (if 0 ≤ bt235.1 then (if bt235.1 < (t211.length : Int) then (some ((t211.set (bt235.1 : Int).toNat (⟨(zl t211 bt235.1).f0, bt241.1, (zl t211 bt235.1).f2⟩ : zL)), bt241.2.1, bt241.2.2)) else (none)) else (none)))) else (if bt215.1 = 3 then ((zM.f s0_0 bt215.2.1 bt215.2.2 2).bind fun bt245 => (if t211.length < 5864062014805 then (some ((t211 ++ [(⟨25, 0, bt245.1⟩ : zL)]), bt245.2.1, bt245.2.2)) else (none))) else (some (t211, bt215.2.1, bt215.2.2)))))))) else (some (([] : List (zL)), bt202.2.1, bt202.2.2))))
def zP.T8 : Bool × List (List Nat × List Nat) := (true, [([], []), ([0], [0]), ([], []), ([], []), ([2, 3], [2, 3]), ([], []), ([5, 4], [5]), ([1, 4, 0, 1, 2, 3, 4, 5, 6], [1, 4]), ([7, 0, 1, 2, 3, 4, 5, 6], [7]), ([8, 6, 6, 0, 1, 2, 3, 4, 5, 6], [6, 8])])
def zP.B8 : List Nat := [0, 1, 0, 0, 12, 0, 60, 127, 255, 511]
theorem zP.tab8 : rtab .any (opsOf Tryz.f113 8) = zP.T8 := by kernel_rfl
theorem zP.bits8 : waitsOk zP.T8.2 zP.B8 = true := by kernel_rfl
def zP.T10 : Bool × List (List Nat × List Nat) := (true, [([], []), ([0], [0]), ([], []), ([], []), ([2, 3], [2, 3]), ([], []), ([], []), ([5, 6, 4], [5, 6]), ([1, 4, 0, 1, 2, 3, 4, 5, 6, 7], [1, 4]), ([8, 0, 1, 2, 3, 4, 5, 6, 7], [8]), ([9, 7, 7, 0, 1, 2, 3, 4, 5, 6, 7], [7, 9])])
def zP.B10 : List Nat := [0, 1, 0, 0, 12, 0, 0, 124, 255, 511, 1023]
theorem zP.tab10 : rtab .any (opsOf Tryz.f113 10) = zP.T10 := by kernel_rfl
theorem zP.bits10 : waitsOk zP.T10.2 zP.B10 = true := by kernel_rfl
def zP.T12 : Bool × List (List Nat × List Nat) := (true, [([], []), ([0], [0]), ([], []), ([], []), ([2, 3], [2, 3]), ([], []), ([], []), ([6], [6]), ([5, 7, 4], [5, 7]), ([1, 4, 0, 1, 2, 3, 4, 5, 6, 7, 8], [1, 4]), ([9, 0, 1, 2, 3, 4, 5, 6, 7, 8], [9]), ([10, 8, 8, 0, 1, 2, 3, 4, 5, 6, 7, 8], [8, 10])])
def zP.B12 : List Nat := [0, 1, 0, 0, 12, 0, 0, 64, 252, 511, 1023, 2047]
theorem zP.tab12 : rtab .any (opsOf Tryz.f113 12) = zP.T12 := by kernel_rfl
theorem zP.bits12 : waitsOk zP.T12.2 zP.B12 = true := by kernel_rfl
def zP.T14 : Bool × List (List Nat × List Nat) := (true, [([], []), ([0], [0]), ([], []), ([2], [2]), ([3], [3]), ([4], [4]), ([1, 5, 3], [1, 5]), ([0, 1, 2, 3, 4, 5, 6], []), ([7, 6, 6, 0, 1, 2, 3, 4, 5, 6], [6, 7])])
def zP.B14 : List Nat := [0, 1, 0, 4, 12, 28, 63, 127, 255]
theorem zP.tab14 : rtab .any (opsOf Tryz.f113 14) = zP.T14 := by kernel_rfl
theorem zP.bits14 : waitsOk zP.T14.2 zP.B14 = true := by kernel_rfl
set_option maxHeartbeats 8000000 in
set_option maxRecDepth 100000 in
theorem zP.calls (k : Nat) (g : Nat) (s0_0 : List Int) (s0_1 : Int) (s0_2 : Int) (r1 : List (zL)) (r2 : Int) (r3 : Int) (w0 w : World) (hI : za w0 w g s0_0 s0_1 s0_2) (hB : Below w0.heap.size w0 w) (h : zP.f k s0_0 s0_1 s0_2 = some (r1, r2, r3)) :
    Calls Tryz.prog 113 #[.pointer (some ⟨g, 0, none⟩)] w fun e w' => ∃ v0_ : Value, e = .returned (.agg #[v0_]) ∧ Kd.R zXa 73 w' w.heap.size (fun _ => True) v0_ r1 ∧ za w0 w' g s0_0 r2 r3 ∧ Below w0.heap.size w0 w' ∧ zn w w' g none := by
  have hu26 := Tryz.underlying26
  have hu73 := Tryz.underlying73
  have HI0 := zb.mk hI
  have HK := zb.mk (zn.refl w g none)
  have HL := zb.mk hB.size
  clear hI
  have HW0 := zb.mk hB.size
  have HB := zb.mk hB
  clear hB
  have H : ((zu.f k s0_0 s0_1 s0_2).bind fun bt202 => ((zNa.f k bt202.1).bind fun bt207 => (if bt207.2 = true then ((l2of.f bt207.1).bind fun t211 => ((zK.f s0_0 bt202.2.1 bt202.2.2 60).bind fun bt215 => (if bt215.1 = 0 then ((zK.f s0_0 bt215.2.1 bt215.2.2 (t211.length : Int)).bind fun bt218 => ((zM.f s0_0 bt218.2.1 bt218.2.2 2).bind fun bt221 => (if 0 ≤ bt218.1 then (if bt218.1 < (t211.length : Int) then (some ((t211.set (bt218.1 : Int).toNat (⟨(zl t211 bt218.1).f0, (zl t211 bt218.1).f1, bt221.1⟩ : zL)), bt221.2.1, bt221.2.2)) else (none)) else (none)))) else (if bt215.1 = 1 then ((zK.f s0_0 bt215.2.1 bt215.2.2 (t211.length : Int)).bind fun bt225 => ((zaa.f s0_0 bt225.2.1 bt225.2.2 (([(-1), 26, 0, 3] : List Int))).bind fun bt231 => (if 0 ≤ bt225.1 then (if bt225.1 < (t211.length : Int) then (some ((t211.set (bt225.1 : Int).toNat (⟨bt231.1, (zl t211 bt225.1).f1, (zl t211 bt225.1).f2⟩ : zL)), bt231.2.1, bt231.2.2)) else (none)) else (none)))) else (if bt215.1 = 2 then ((zK.f s0_0 bt215.2.1 bt215.2.2 (t211.length : Int)).bind fun bt235 => ((zaa.f s0_0 bt235.2.1 bt235.2.2 (([(-1), 0, 1, (t211.length : Int)] : List Int))).bind fun bt241 => (if 0 ≤ bt235.1 then (if bt235.1 < (t211.length : Int) then (some ((t211.set (bt235.1 : Int).toNat (⟨(zl t211 bt235.1).f0, bt241.1, (zl t211 bt235.1).f2⟩ : zL)), bt241.2.1, bt241.2.2)) else (none)) else (none)))) else (if bt215.1 = 3 then ((zM.f s0_0 bt215.2.1 bt215.2.2 2).bind fun bt245 => (if t211.length < 5864062014805 then (some ((t211 ++ [(⟨25, 0, bt245.1⟩ : zL)]), bt245.2.1, bt245.2.2)) else (none))) else (some (t211, bt215.2.1, bt215.2.2)))))))) else (some (([] : List (zL)), bt202.2.1, bt202.2.2))))) = some (r1, r2, r3) := h
  clear h
  replace H := Option.bind_eq_some_iff.mp H
  obtain ⟨⟨t202, t205, t206⟩, A20, H⟩ := H
  replace H : ((zNa.f k t202).bind fun bt207 => (if bt207.2 = true then ((l2of.f bt207.1).bind fun t211 => ((zK.f s0_0 t205 t206 60).bind fun bt215 => (if bt215.1 = 0 then ((zK.f s0_0 bt215.2.1 bt215.2.2 (t211.length : Int)).bind fun bt218 => ((zM.f s0_0 bt218.2.1 bt218.2.2 2).bind fun bt221 => (if 0 ≤ bt218.1 then (if bt218.1 < (t211.length : Int) then (some ((t211.set (bt218.1 : Int).toNat (⟨(zl t211 bt218.1).f0, (zl t211 bt218.1).f1, bt221.1⟩ : zL)), bt221.2.1, bt221.2.2)) else (none)) else (none)))) else (if bt215.1 = 1 then ((zK.f s0_0 bt215.2.1 bt215.2.2 (t211.length : Int)).bind fun bt225 => ((zaa.f s0_0 bt225.2.1 bt225.2.2 (([(-1), 26, 0, 3] : List Int))).bind fun bt231 => (if 0 ≤ bt225.1 then (if bt225.1 < (t211.length : Int) then (some ((t211.set (bt225.1 : Int).toNat (⟨bt231.1, (zl t211 bt225.1).f1, (zl t211 bt225.1).f2⟩ : zL)), bt231.2.1, bt231.2.2)) else (none)) else (none)))) else (if bt215.1 = 2 then ((zK.f s0_0 bt215.2.1 bt215.2.2 (t211.length : Int)).bind fun bt235 => ((zaa.f s0_0 bt235.2.1 bt235.2.2 (([(-1), 0, 1, (t211.length : Int)] : List Int))).bind fun bt241 => (if 0 ≤ bt235.1 then (if bt235.1 < (t211.length : Int) then (some ((t211.set (bt235.1 : Int).toNat (⟨(zl t211 bt235.1).f0, bt241.1, (zl t211 bt235.1).f2⟩ : zL)), bt241.2.1, bt241.2.2)) else (none)) else (none)))) else (if bt215.1 = 3 then ((zM.f s0_0 bt215.2.1 bt215.2.2 2).bind fun bt245 => (if t211.length < 5864062014805 then (some ((t211 ++ [(⟨25, 0, bt245.1⟩ : zL)]), bt245.2.1, bt245.2.2)) else (none))) else (some (t211, bt215.2.1, bt215.2.2)))))))) else (some (([] : List (zL)), t205, t206)))) = some (r1, r2, r3) := H
  have A2 := zb.mk A20
  clear A20
  replace H := Option.bind_eq_some_iff.mp H
  obtain ⟨⟨t207, t208⟩, A30, H⟩ := H
  replace H : (if t208 = true then ((l2of.f t207).bind fun t211 => ((zK.f s0_0 t205 t206 60).bind fun bt215 => (if bt215.1 = 0 then ((zK.f s0_0 bt215.2.1 bt215.2.2 (t211.length : Int)).bind fun bt218 => ((zM.f s0_0 bt218.2.1 bt218.2.2 2).bind fun bt221 => (if 0 ≤ bt218.1 then (if bt218.1 < (t211.length : Int) then (some ((t211.set (bt218.1 : Int).toNat (⟨(zl t211 bt218.1).f0, (zl t211 bt218.1).f1, bt221.1⟩ : zL)), bt221.2.1, bt221.2.2)) else (none)) else (none)))) else (if bt215.1 = 1 then ((zK.f s0_0 bt215.2.1 bt215.2.2 (t211.length : Int)).bind fun bt225 => ((zaa.f s0_0 bt225.2.1 bt225.2.2 (([(-1), 26, 0, 3] : List Int))).bind fun bt231 => (if 0 ≤ bt225.1 then (if bt225.1 < (t211.length : Int) then (some ((t211.set (bt225.1 : Int).toNat (⟨bt231.1, (zl t211 bt225.1).f1, (zl t211 bt225.1).f2⟩ : zL)), bt231.2.1, bt231.2.2)) else (none)) else (none)))) else (if bt215.1 = 2 then ((zK.f s0_0 bt215.2.1 bt215.2.2 (t211.length : Int)).bind fun bt235 => ((zaa.f s0_0 bt235.2.1 bt235.2.2 (([(-1), 0, 1, (t211.length : Int)] : List Int))).bind fun bt241 => (if 0 ≤ bt235.1 then (if bt235.1 < (t211.length : Int) then (some ((t211.set (bt235.1 : Int).toNat (⟨(zl t211 bt235.1).f0, bt241.1, (zl t211 bt235.1).f2⟩ : zL)), bt241.2.1, bt241.2.2)) else (none)) else (none)))) else (if bt215.1 = 3 then ((zM.f s0_0 bt215.2.1 bt215.2.2 2).bind fun bt245 => (if t211.length < 5864062014805 then (some ((t211 ++ [(⟨25, 0, bt245.1⟩ : zL)]), bt245.2.1, bt245.2.2)) else (none))) else (some (t211, bt215.2.1, bt215.2.2)))))))) else (some (([] : List (zL)), t205, t206))) = some (r1, r2, r3) := H
  have A3 := zb.mk A30
  clear A30
  refine (Classical.em (t208 = true)).elim (fun c4 => ?Pc4) (fun c4 => ?Nc4)
  case' Pc4 =>
   subst c4
   have H1 : ((l2of.f t207).bind fun t211 => ((zK.f s0_0 t205 t206 60).bind fun bt215 => (if bt215.1 = 0 then ((zK.f s0_0 bt215.2.1 bt215.2.2 (t211.length : Int)).bind fun bt218 => ((zM.f s0_0 bt218.2.1 bt218.2.2 2).bind fun bt221 => (if 0 ≤ bt218.1 then (if bt218.1 < (t211.length : Int) then (some ((t211.set (bt218.1 : Int).toNat (⟨(zl t211 bt218.1).f0, (zl t211 bt218.1).f1, bt221.1⟩ : zL)), bt221.2.1, bt221.2.2)) else (none)) else (none)))) else (if bt215.1 = 1 then ((zK.f s0_0 bt215.2.1 bt215.2.2 (t211.length : Int)).bind fun bt225 => ((zaa.f s0_0 bt225.2.1 bt225.2.2 (([(-1), 26, 0, 3] : List Int))).bind fun bt231 => (if 0 ≤ bt225.1 then (if bt225.1 < (t211.length : Int) then (some ((t211.set (bt225.1 : Int).toNat (⟨bt231.1, (zl t211 bt225.1).f1, (zl t211 bt225.1).f2⟩ : zL)), bt231.2.1, bt231.2.2)) else (none)) else (none)))) else (if bt215.1 = 2 then ((zK.f s0_0 bt215.2.1 bt215.2.2 (t211.length : Int)).bind fun bt235 => ((zaa.f s0_0 bt235.2.1 bt235.2.2 (([(-1), 0, 1, (t211.length : Int)] : List Int))).bind fun bt241 => (if 0 ≤ bt235.1 then (if bt235.1 < (t211.length : Int) then (some ((t211.set (bt235.1 : Int).toNat (⟨(zl t211 bt235.1).f0, bt241.1, (zl t211 bt235.1).f2⟩ : zL)), bt241.2.1, bt241.2.2)) else (none)) else (none)))) else (if bt215.1 = 3 then ((zM.f s0_0 bt215.2.1 bt215.2.2 2).bind fun bt245 => (if t211.length < 5864062014805 then (some ((t211 ++ [(⟨25, 0, bt245.1⟩ : zL)]), bt245.2.1, bt245.2.2)) else (none))) else (some (t211, bt215.2.1, bt215.2.2)))))))) = some (r1, r2, r3) := by rw [if_pos rfl] at H; exact H
   clear H
   have H := H1
   clear H1
   replace H := Option.bind_eq_some_iff.mp H
   obtain ⟨t211, A50, H⟩ := H
   replace H : ((zK.f s0_0 t205 t206 60).bind fun bt215 => (if bt215.1 = 0 then ((zK.f s0_0 bt215.2.1 bt215.2.2 (t211.length : Int)).bind fun bt218 => ((zM.f s0_0 bt218.2.1 bt218.2.2 2).bind fun bt221 => (if 0 ≤ bt218.1 then (if bt218.1 < (t211.length : Int) then (some ((t211.set (bt218.1 : Int).toNat (⟨(zl t211 bt218.1).f0, (zl t211 bt218.1).f1, bt221.1⟩ : zL)), bt221.2.1, bt221.2.2)) else (none)) else (none)))) else (if bt215.1 = 1 then ((zK.f s0_0 bt215.2.1 bt215.2.2 (t211.length : Int)).bind fun bt225 => ((zaa.f s0_0 bt225.2.1 bt225.2.2 (([(-1), 26, 0, 3] : List Int))).bind fun bt231 => (if 0 ≤ bt225.1 then (if bt225.1 < (t211.length : Int) then (some ((t211.set (bt225.1 : Int).toNat (⟨bt231.1, (zl t211 bt225.1).f1, (zl t211 bt225.1).f2⟩ : zL)), bt231.2.1, bt231.2.2)) else (none)) else (none)))) else (if bt215.1 = 2 then ((zK.f s0_0 bt215.2.1 bt215.2.2 (t211.length : Int)).bind fun bt235 => ((zaa.f s0_0 bt235.2.1 bt235.2.2 (([(-1), 0, 1, (t211.length : Int)] : List Int))).bind fun bt241 => (if 0 ≤ bt235.1 then (if bt235.1 < (t211.length : Int) then (some ((t211.set (bt235.1 : Int).toNat (⟨(zl t211 bt235.1).f0, bt241.1, (zl t211 bt235.1).f2⟩ : zL)), bt241.2.1, bt241.2.2)) else (none)) else (none)))) else (if bt215.1 = 3 then ((zM.f s0_0 bt215.2.1 bt215.2.2 2).bind fun bt245 => (if t211.length < 5864062014805 then (some ((t211 ++ [(⟨25, 0, bt245.1⟩ : zL)]), bt245.2.1, bt245.2.2)) else (none))) else (some (t211, bt215.2.1, bt215.2.2))))))) = some (r1, r2, r3) := H
   have A5 := zb.mk A50
   clear A50
   replace H := Option.bind_eq_some_iff.mp H
   obtain ⟨⟨t215, t216, t217⟩, A60, H⟩ := H
   replace H : (if t215 = 0 then ((zK.f s0_0 t216 t217 (t211.length : Int)).bind fun bt218 => ((zM.f s0_0 bt218.2.1 bt218.2.2 2).bind fun bt221 => (if 0 ≤ bt218.1 then (if bt218.1 < (t211.length : Int) then (some ((t211.set (bt218.1 : Int).toNat (⟨(zl t211 bt218.1).f0, (zl t211 bt218.1).f1, bt221.1⟩ : zL)), bt221.2.1, bt221.2.2)) else (none)) else (none)))) else (if t215 = 1 then ((zK.f s0_0 t216 t217 (t211.length : Int)).bind fun bt225 => ((zaa.f s0_0 bt225.2.1 bt225.2.2 (([(-1), 26, 0, 3] : List Int))).bind fun bt231 => (if 0 ≤ bt225.1 then (if bt225.1 < (t211.length : Int) then (some ((t211.set (bt225.1 : Int).toNat (⟨bt231.1, (zl t211 bt225.1).f1, (zl t211 bt225.1).f2⟩ : zL)), bt231.2.1, bt231.2.2)) else (none)) else (none)))) else (if t215 = 2 then ((zK.f s0_0 t216 t217 (t211.length : Int)).bind fun bt235 => ((zaa.f s0_0 bt235.2.1 bt235.2.2 (([(-1), 0, 1, (t211.length : Int)] : List Int))).bind fun bt241 => (if 0 ≤ bt235.1 then (if bt235.1 < (t211.length : Int) then (some ((t211.set (bt235.1 : Int).toNat (⟨(zl t211 bt235.1).f0, bt241.1, (zl t211 bt235.1).f2⟩ : zL)), bt241.2.1, bt241.2.2)) else (none)) else (none)))) else (if t215 = 3 then ((zM.f s0_0 t216 t217 2).bind fun bt245 => (if t211.length < 5864062014805 then (some ((t211 ++ [(⟨25, 0, bt245.1⟩ : zL)]), bt245.2.1, bt245.2.2)) else (none))) else (some (t211, t216, t217)))))) = some (r1, r2, r3) := H
   have A6 := zb.mk A60
   clear A60
   refine (Classical.em (t215 = 0)).elim (fun c7 => ?Pc7) (fun c7 => ?Nc7)
   case' Pc7 =>
    rw [if_pos c7] at H
    have c7b0 : (t215 == 0) = true := beq_iff_eq.mpr c7
    have c7b1 : (t215 != 0) = false := bne_eq_false_iff_eq.mpr c7
    clear c7
    replace H := Option.bind_eq_some_iff.mp H
    obtain ⟨⟨t218, t219, t220⟩, A80, H⟩ := H
    replace H : ((zM.f s0_0 t219 t220 2).bind fun bt221 => (if 0 ≤ t218 then (if t218 < (t211.length : Int) then (some ((t211.set (t218 : Int).toNat (⟨(zl t211 t218).f0, (zl t211 t218).f1, bt221.1⟩ : zL)), bt221.2.1, bt221.2.2)) else (none)) else (none))) = some (r1, r2, r3) := H
    have A8 := zb.mk A80
    clear A80
    replace H := Option.bind_eq_some_iff.mp H
    obtain ⟨⟨t221, t222, t223⟩, A90, H⟩ := H
    replace H : (if 0 ≤ t218 then (if t218 < (t211.length : Int) then (some ((t211.set (t218 : Int).toNat (⟨(zl t211 t218).f0, (zl t211 t218).f1, t221⟩ : zL)), t222, t223)) else (none)) else (none)) = some (r1, r2, r3) := H
    have A9 := zb.mk A90
    clear A90
    refine (Classical.em (0 ≤ t218)).elim (fun c10 => ?Pc10) (fun c10 => ?Nc10)
    case' Pc10 =>
     rw [if_pos c10] at H
     have c10b0 : decide (0 ≤ t218) = true := decide_eq_true c10
     clear c10
     refine (Classical.em (t218 < (t211.length : Int))).elim (fun c11 => ?Pc11) (fun c11 => ?Nc11)
     case' Pc11 =>
      rw [if_pos c11] at H
      have c11b0 : decide (t218 < (t211.length : Int)) = true := decide_eq_true c11
      clear c11
      obtain ⟨y224, hy224⟩ : ∃ y_ : List (zL), y_ = (t211.set (t218 : Int).toNat (⟨(zl t211 t218).f0, (zl t211 t218).f1, t221⟩ : zL)) := ⟨_, rfl⟩
      replace H : (some (y224, t222, t223)) = some (r1, r2, r3) := by first | (rw [hy224]; with_reducible exact H) | (have H2_ := (Option.bind_some _ _).symm.trans H; rw [hy224]; with_reducible exact H2_) | (have H2_ := (Option.bind_some _ _).symm.trans H; with_reducible exact H2_) | with_reducible exact H | (rw [hy224]; exact H) | exact H
      have Ny224 := zb.mk hy224
      clear hy224
      simp only [Option.some.injEq, Prod.mk.injEq] at H
      obtain ⟨rfl, rfl, rfl⟩ := H
     case' Nc11 =>
      rw [if_neg c11] at H
      exact absurd H (by simp)
    case' Nc10 =>
     rw [if_neg c10] at H
     exact absurd H (by simp)
   case' Nc7 =>
    rw [if_neg c7] at H
    have c7b0 : (t215 == 0) = false := beq_eq_false_iff_ne.mpr c7
    have c7b1 : (t215 != 0) = true := bne_iff_ne.mpr c7
    refine (Classical.em (t215 = 1)).elim (fun c33 => ?Pc33) (fun c33 => ?Nc33)
    case' Pc33 =>
     rw [if_pos c33] at H
     have c33b0 : (t215 == 1) = true := beq_iff_eq.mpr c33
     have c33b1 : (t215 != 1) = false := bne_eq_false_iff_eq.mpr c33
     clear c33
     replace H := Option.bind_eq_some_iff.mp H
     obtain ⟨⟨t225, t226, t227⟩, A340, H⟩ := H
     replace H : ((zaa.f s0_0 t226 t227 (([(-1), 26, 0, 3] : List Int))).bind fun bt231 => (if 0 ≤ t225 then (if t225 < (t211.length : Int) then (some ((t211.set (t225 : Int).toNat (⟨bt231.1, (zl t211 t225).f1, (zl t211 t225).f2⟩ : zL)), bt231.2.1, bt231.2.2)) else (none)) else (none))) = some (r1, r2, r3) := H
     have A34 := zb.mk A340
     clear A340
     obtain ⟨y228, hy228⟩ : ∃ y_ : List Int, y_ = (([(-1), 26, 0, 3] : List Int)) := ⟨_, rfl⟩
     replace H : ((zaa.f s0_0 t226 t227 y228).bind fun bt231 => (if 0 ≤ t225 then (if t225 < (t211.length : Int) then (some ((t211.set (t225 : Int).toNat (⟨bt231.1, (zl t211 t225).f1, (zl t211 t225).f2⟩ : zL)), bt231.2.1, bt231.2.2)) else (none)) else (none))) = some (r1, r2, r3) := by first | (rw [hy228]; with_reducible exact H) | (have H2_ := (Option.bind_some _ _).symm.trans H; rw [hy228]; with_reducible exact H2_) | (have H2_ := (Option.bind_some _ _).symm.trans H; with_reducible exact H2_) | with_reducible exact H | (rw [hy228]; exact H) | exact H
     have Ny228 := zb.mk hy228
     clear hy228
     replace H := Option.bind_eq_some_iff.mp H
     obtain ⟨⟨t231, t232, t233⟩, A350, H⟩ := H
     replace H : (if 0 ≤ t225 then (if t225 < (t211.length : Int) then (some ((t211.set (t225 : Int).toNat (⟨t231, (zl t211 t225).f1, (zl t211 t225).f2⟩ : zL)), t232, t233)) else (none)) else (none)) = some (r1, r2, r3) := H
     have A35 := zb.mk A350
     clear A350
     refine (Classical.em (0 ≤ t225)).elim (fun c36 => ?Pc36) (fun c36 => ?Nc36)
     case' Pc36 =>
      rw [if_pos c36] at H
      have c36b0 : decide (0 ≤ t225) = true := decide_eq_true c36
      clear c36
      refine (Classical.em (t225 < (t211.length : Int))).elim (fun c37 => ?Pc37) (fun c37 => ?Nc37)
      case' Pc37 =>
       rw [if_pos c37] at H
       have c37b0 : decide (t225 < (t211.length : Int)) = true := decide_eq_true c37
       clear c37
       obtain ⟨y234, hy234⟩ : ∃ y_ : List (zL), y_ = (t211.set (t225 : Int).toNat (⟨t231, (zl t211 t225).f1, (zl t211 t225).f2⟩ : zL)) := ⟨_, rfl⟩
       replace H : (some (y234, t232, t233)) = some (r1, r2, r3) := by first | (rw [hy234]; with_reducible exact H) | (have H2_ := (Option.bind_some _ _).symm.trans H; rw [hy234]; with_reducible exact H2_) | (have H2_ := (Option.bind_some _ _).symm.trans H; with_reducible exact H2_) | with_reducible exact H | (rw [hy234]; exact H) | exact H
       have Ny234 := zb.mk hy234
       clear hy234
       simp only [Option.some.injEq, Prod.mk.injEq] at H
       obtain ⟨rfl, rfl, rfl⟩ := H
      case' Nc37 =>
       rw [if_neg c37] at H
       exact absurd H (by simp)
     case' Nc36 =>
      rw [if_neg c36] at H
      exact absurd H (by simp)
    case' Nc33 =>
     rw [if_neg c33] at H
     have c33b0 : (t215 == 1) = false := beq_eq_false_iff_ne.mpr c33
     have c33b1 : (t215 != 1) = true := bne_iff_ne.mpr c33
     refine (Classical.em (t215 = 2)).elim (fun c63 => ?Pc63) (fun c63 => ?Nc63)
     case' Pc63 =>
      rw [if_pos c63] at H
      have c63b0 : (t215 == 2) = true := beq_iff_eq.mpr c63
      have c63b1 : (t215 != 2) = false := bne_eq_false_iff_eq.mpr c63
      clear c63
      replace H := Option.bind_eq_some_iff.mp H
      obtain ⟨⟨t235, t236, t237⟩, A640, H⟩ := H
      replace H : ((zaa.f s0_0 t236 t237 (([(-1), 0, 1, (t211.length : Int)] : List Int))).bind fun bt241 => (if 0 ≤ t235 then (if t235 < (t211.length : Int) then (some ((t211.set (t235 : Int).toNat (⟨(zl t211 t235).f0, bt241.1, (zl t211 t235).f2⟩ : zL)), bt241.2.1, bt241.2.2)) else (none)) else (none))) = some (r1, r2, r3) := H
      have A64 := zb.mk A640
      clear A640
      obtain ⟨y238, hy238⟩ : ∃ y_ : List Int, y_ = (([(-1), 0, 1, (t211.length : Int)] : List Int)) := ⟨_, rfl⟩
      replace H : ((zaa.f s0_0 t236 t237 y238).bind fun bt241 => (if 0 ≤ t235 then (if t235 < (t211.length : Int) then (some ((t211.set (t235 : Int).toNat (⟨(zl t211 t235).f0, bt241.1, (zl t211 t235).f2⟩ : zL)), bt241.2.1, bt241.2.2)) else (none)) else (none))) = some (r1, r2, r3) := by first | (rw [hy238]; with_reducible exact H) | (have H2_ := (Option.bind_some _ _).symm.trans H; rw [hy238]; with_reducible exact H2_) | (have H2_ := (Option.bind_some _ _).symm.trans H; with_reducible exact H2_) | with_reducible exact H | (rw [hy238]; exact H) | exact H
      have Ny238 := zb.mk hy238
      clear hy238
      replace H := Option.bind_eq_some_iff.mp H
      obtain ⟨⟨t241, t242, t243⟩, A650, H⟩ := H
      replace H : (if 0 ≤ t235 then (if t235 < (t211.length : Int) then (some ((t211.set (t235 : Int).toNat (⟨(zl t211 t235).f0, t241, (zl t211 t235).f2⟩ : zL)), t242, t243)) else (none)) else (none)) = some (r1, r2, r3) := H
      have A65 := zb.mk A650
      clear A650
      refine (Classical.em (0 ≤ t235)).elim (fun c66 => ?Pc66) (fun c66 => ?Nc66)
      case' Pc66 =>
       rw [if_pos c66] at H
       have c66b0 : decide (0 ≤ t235) = true := decide_eq_true c66
       clear c66
       refine (Classical.em (t235 < (t211.length : Int))).elim (fun c67 => ?Pc67) (fun c67 => ?Nc67)
       case' Pc67 =>
        rw [if_pos c67] at H
        have c67b0 : decide (t235 < (t211.length : Int)) = true := decide_eq_true c67
        clear c67
        obtain ⟨y244, hy244⟩ : ∃ y_ : List (zL), y_ = (t211.set (t235 : Int).toNat (⟨(zl t211 t235).f0, t241, (zl t211 t235).f2⟩ : zL)) := ⟨_, rfl⟩
        replace H : (some (y244, t242, t243)) = some (r1, r2, r3) := by first | (rw [hy244]; with_reducible exact H) | (have H2_ := (Option.bind_some _ _).symm.trans H; rw [hy244]; with_reducible exact H2_) | (have H2_ := (Option.bind_some _ _).symm.trans H; with_reducible exact H2_) | with_reducible exact H | (rw [hy244]; exact H) | exact H
        have Ny244 := zb.mk hy244
        clear hy244
        simp only [Option.some.injEq, Prod.mk.injEq] at H
        obtain ⟨rfl, rfl, rfl⟩ := H
       case' Nc67 =>
        rw [if_neg c67] at H
        exact absurd H (by simp)
      case' Nc66 =>
       rw [if_neg c66] at H
       exact absurd H (by simp)
     case' Nc63 =>
      rw [if_neg c63] at H
      have c63b0 : (t215 == 2) = false := beq_eq_false_iff_ne.mpr c63
      have c63b1 : (t215 != 2) = true := bne_iff_ne.mpr c63
      refine (Classical.em (t215 = 3)).elim (fun c93 => ?Pc93) (fun c93 => ?Nc93)
      case' Pc93 =>
       rw [if_pos c93] at H
       have c93b0 : (t215 == 3) = true := beq_iff_eq.mpr c93
       have c93b1 : (t215 != 3) = false := bne_eq_false_iff_eq.mpr c93
       clear c93
       replace H := Option.bind_eq_some_iff.mp H
       obtain ⟨⟨t245, t246, t247⟩, A940, H⟩ := H
       replace H : (if t211.length < 5864062014805 then (some ((t211 ++ [(⟨25, 0, t245⟩ : zL)]), t246, t247)) else (none)) = some (r1, r2, r3) := H
       have A94 := zb.mk A940
       clear A940
       refine (Classical.em (t211.length < 5864062014805)).elim (fun c95 => ?Pc95) (fun c95 => ?Nc95)
       case' Pc95 =>
        rw [if_pos c95] at H
        have LMc95 := zb.mk c95
        clear c95
        obtain ⟨y248, hy248⟩ : ∃ y_ : List (zL), y_ = (t211 ++ [(⟨25, 0, t245⟩ : zL)]) := ⟨_, rfl⟩
        replace H : (some (y248, t246, t247)) = some (r1, r2, r3) := by first | (rw [hy248]; with_reducible exact H) | (have H2_ := (Option.bind_some _ _).symm.trans H; rw [hy248]; with_reducible exact H2_) | (have H2_ := (Option.bind_some _ _).symm.trans H; with_reducible exact H2_) | with_reducible exact H | (rw [hy248]; exact H) | exact H
        have Ny248 := zb.mk hy248
        clear hy248
        simp only [Option.some.injEq, Prod.mk.injEq] at H
        obtain ⟨rfl, rfl, rfl⟩ := H
       case' Nc95 =>
        rw [if_neg c95] at H
        exact absurd H (by simp)
      case' Nc93 =>
       rw [if_neg c93] at H
       have c93b0 : (t215 == 3) = false := beq_eq_false_iff_ne.mpr c93
       have c93b1 : (t215 != 3) = true := bne_iff_ne.mpr c93
       simp only [Option.some.injEq, Prod.mk.injEq] at H
       obtain ⟨rfl, rfl, rfl⟩ := H
  case' Nc4 =>
   replace c4 := Bool.eq_false_iff.mpr c4
   subst c4
   have H1 : (some (([] : List (zL)), t205, t206)) = some (r1, r2, r3) := by rw [if_neg (show ¬ (false = true) by decide)] at H; exact H
   clear H
   have H := H1
   clear H1
   simp only [Option.some.injEq, Prod.mk.injEq] at H
   obtain ⟨rfl, rfl, rfl⟩ := H
  all_goals go_enter Tryz.func113, Tryz.ntmps113
  all_goals try go_wp2_with (first | ((with_reducible refine zoa (N := 2) rfl ?_); refine zEa ?hg (N := 2) ?hd (cs := #[.slice none 0 0]) (t := 26) ?hr ?_; (case hd => rfl); (case hg => rfl); (case hr => first | (go_simp; done) | (go_simp; rfl)); intro gb201 hg w_1 hbox hb; have n0_ := zb.mk (za.below (by repeat (first | (with_reducible first | exact HI0.out | apply za.alloc | apply za.drewN | apply za.drew | apply za.zca | apply za.zba) | exact HI0.out)) hb); have n1_ := zb.mk (zn.trans (by repeat (first | (with_reducible first | exact HK.out | apply zn.set_ | apply zy | apply zF | apply zx) | exact HK.out)) (zn.of_below hb g none) (.inl rfl)); have n2_ := zb.mk (zw (by repeat (first | (with_reducible first | exact HB.out | apply zg | apply ze | apply zf | refine zh ?_ (za.ge HI0.out)) | exact HB.out)) hb); have n3_ := zb.mk (hbox); have n4_ := zb.mk ((by rw [hg]; exact (zYa (w := w) (g := g) (row := none) (by repeat (first | (with_reducible first | exact HK.out | apply zn.set_ | apply zy | apply zF | apply zx) | exact HK.out))) : w.heap.size ≤ gb201)); have n5_ := zb.mk ((Nat.le_trans HW0.out (by rw [hg]; exact (zYa (w := w) (g := g) (row := none) (by repeat (first | (with_reducible first | exact HK.out | apply zn.set_ | apply zy | apply zF | apply zx) | exact HK.out))) : w.heap.size ≤ gb201) : w0.heap.size ≤ gb201)); have n6_ := zb.mk ((by rw [hg]; exact Nat.ne_of_lt (za.lt (show za w0 _ g s0_0 s0_1 s0_2 from by repeat (first | (with_reducible first | exact HI0.out | apply za.alloc | apply za.drewN | apply za.drew | apply za.zca | apply za.zba) | exact HI0.out))) : g ≠ gb201)); have n7_ := zb.mk ((by rw [hg]; exact Nat.ne_of_gt (za.lt (show za w0 _ g s0_0 s0_1 s0_2 from by repeat (first | (with_reducible first | exact HI0.out | apply za.alloc | apply za.drewN | apply za.drew | apply za.zca | apply za.zba) | exact HI0.out))) : gb201 ≠ g)); clear HI0; clear HK; clear HB; have HI0 := n0_; have HK := n1_; have HB := n2_; have BK201 := n3_; have GW201 := n4_; have GE201 := n5_; have NB0_201 := n6_; have NB201_0 := n7_; clear n0_ n1_ n2_ n3_ n4_ n5_ n6_ n7_; clear hb hbox hg) | ((with_reducible refine zH (f := 179) rfl ?_); refine zra (some 9) rfl rfl Tryz.func179 (by kernel_rfl) rfl #[.pointer (some ⟨g, 0, none⟩)] rfl (by (try simp only [List.map_toArray, List.map_cons, List.map_nil]); first | done | rfl | (simp only [List.length_drop, List.length_take]; rfl)) ?_; (with_reducible refine (zu.calls k g s0_0 s0_1 s0_2 t202 t205 t206 w0 _ ?side1 ?side2 A2.out).mono ?_); (case side1 => repeat (first | (with_reducible first | exact HI0.out | apply za.alloc | apply za.drewN | apply za.drew | apply za.zca | apply za.zba | refine za.far ?_ NB0_201.out _) | exact HI0.out)); (case side2 => repeat (first | (with_reducible first | exact HB.out | apply zg | apply ze | apply zf | refine zh ?_ (za.ge HI0.out) | refine zh ?_ GE201.out) | exact HB.out)); rintro e w_2 ⟨v203, rfl, ho_1, hi, hb, hk⟩; refine ⟨_, rfl, ?_⟩; have n0_ := zb.mk (zn.blk hk (g' := gb201) (o := .cells #[.slice none 0 0] 26 (0, 0)) (by (with_reducible repeat (first | refine zk ?_ _ | refine zm ?_ | refine zi ?_ _)); exact BK201.out) NB201_0.out (by simp)); have n1_ := zb.mk (Kd.zua ho_1 (zYa (w := w) (g := g) (row := none) (by repeat (first | (with_reducible first | exact HK.out | apply zn.set_ | apply zy | apply zF | apply zx | refine zS ?_ GW201.out _) | exact HK.out)))); have n2_ := zb.mk (zn.trans (by repeat (first | (with_reducible first | exact HK.out | apply zn.set_ | apply zy | apply zF | apply zx | refine zS ?_ GW201.out _) | exact HK.out)) hk (.inl rfl)); have n3_ := zb.mk (hb); have n4_ := zb.mk (hi); clear BK201; clear HK; clear HB; clear HI0; have BK201 := n0_; have HO204 := n1_; have HK := n2_; have HB := n3_; have HI0 := n4_; clear n0_ n1_ n2_ n3_ n4_; (try clear hb); (try clear hb_1); (try clear hk); (try clear hi); (try clear ho_1); obtain ⟨Ao_1, co_1, eo_1⟩ := Kd.zpa HO204.out; subst eo_1))
  rotate_left 1
  iterate 5 ((focus ((first | (go_at_call 182; (with_reducible refine (zNa.calls k _ _ t202 t207 _ _ ?side1 ?side2 A3.out).mono ?_); (case side1 => repeat (first | exact (Kd.zQ HO204.out).2.2 | (with_reducible refine Kd.zga ?_ _) | (with_reducible refine Kd.zia ?_ _) | (with_reducible refine Kd.zAa ?_))); (case side2 => exact (Kd.zQ HO204.out).2.1); rintro e w_3 ⟨v209, rfl, ho_1, hb⟩; have n0_ := zb.mk (Kd.R_elder' (by (with_reducible repeat (first | apply Kd.zo | apply Kd.zq | apply Kd.zA)); exact HO204.out) (Kd.R_base ho_1) hb); have n1_ := zb.mk (Kd.zua (Kd.R_new' ho_1 (Kd.R_lt (by (with_reducible repeat (first | apply Kd.zo | apply Kd.zq | apply Kd.zA)); exact HO204.out))) (zYa (w := w) (g := g) (row := none) (by repeat (first | (with_reducible first | exact HK.out | apply zn.set_ | apply zy | apply zF | apply zx | refine zS ?_ GW201.out _) | exact HK.out)))); have n2_ := zb.mk (za.below (by repeat (first | (with_reducible first | exact HI0.out | apply za.alloc | apply za.drewN | apply za.drew | apply za.zca | apply za.zba | refine za.far ?_ NB0_201.out _) | exact HI0.out)) hb); have n3_ := zb.mk (zG (g := gb201) (o := .cells #[.slice none 0 0] 26 (0, 0)) (by (with_reducible repeat (first | refine zk ?_ _ | refine zm ?_ | refine zi ?_ _)); exact BK201.out) hb); have n4_ := zb.mk (zn.trans (by repeat (first | (with_reducible first | exact HK.out | apply zn.set_ | apply zy | apply zF | apply zx | refine zS ?_ GW201.out _) | exact HK.out)) (zn.of_below hb g none) (.inl rfl)); have n5_ := zb.mk (zw (by repeat (first | (with_reducible first | exact HB.out | apply zg | apply ze | apply zf | refine zh ?_ (za.ge HI0.out) | refine zh ?_ GE201.out) | exact HB.out)) hb); clear HO204; clear HI0; clear BK201; clear HK; clear HB; have HO204 := n0_; have HO210 := n1_; have HI0 := n2_; have BK201 := n3_; have HK := n4_; have HB := n5_; clear n0_ n1_ n2_ n3_ n4_ n5_; (try clear hb); (try clear hb_1); (try clear hk); (try clear hi); (try clear ho_1); obtain ⟨Ao_2, co_2, eo_2⟩ := Kd.zpa HO210.out; subst eo_2) | skip); try go_wp2_with (first | ((with_reducible refine zH (f := 128) rfl ?_); refine zra (some 17) rfl rfl Tryz.func128 (by kernel_rfl) rfl #[.slice Ao_2 t207.length co_2] rfl (by (try simp only [List.map_toArray, List.map_cons, List.map_nil]); first | done | rfl | (simp only [List.length_drop, List.length_take]; rfl)) ?_; (with_reducible refine (l2of.calls _ _ t207 t211 _ ?side1 ?side2 A5.out).mono ?_); (case side1 => repeat (first | exact (Kd.zQ HO210.out).2.2 | (with_reducible refine Kd.zga ?_ _) | (with_reducible refine Kd.zia ?_ _) | (with_reducible refine Kd.zAa ?_))); (case side2 => exact (Kd.zQ HO210.out).2.1); rintro e w_4 ⟨v212, rfl, ho_1, hb⟩; refine ⟨_, rfl, ?_⟩; have n0_ := zb.mk (Kd.zta (by (with_reducible repeat (first | apply Kd.zo | apply Kd.zq | apply Kd.zA)); exact HO204.out) hb); have n1_ := zb.mk (Kd.zta (by (with_reducible repeat (first | apply Kd.zo | apply Kd.zq | apply Kd.zA)); exact HO210.out) hb); have n2_ := zb.mk (Kd.zua ho_1 (zYa (w := w) (g := g) (row := none) (by repeat (first | (with_reducible first | exact HK.out | apply zn.set_ | apply zy | apply zF | apply zx | refine zS ?_ GW201.out _) | exact HK.out)))); have n3_ := zb.mk (za.below (by repeat (first | (with_reducible first | exact HI0.out | apply za.alloc | apply za.drewN | apply za.drew | apply za.zca | apply za.zba | refine za.far ?_ NB0_201.out _) | exact HI0.out)) hb); have n4_ := zb.mk (zG (g := gb201) (o := .cells #[.slice none 0 0] 26 (0, 0)) (by (with_reducible repeat (first | refine zk ?_ _ | refine zm ?_ | refine zi ?_ _)); exact BK201.out) hb); have n5_ := zb.mk (zn.trans (by repeat (first | (with_reducible first | exact HK.out | apply zn.set_ | apply zy | apply zF | apply zx | refine zS ?_ GW201.out _) | exact HK.out)) (zn.of_below hb g none) (.inl rfl)); have n6_ := zb.mk (zw (by repeat (first | (with_reducible first | exact HB.out | apply zg | apply ze | apply zf | refine zh ?_ (za.ge HI0.out) | refine zh ?_ GE201.out) | exact HB.out)) hb); clear HO204; clear HO210; clear HI0; clear BK201; clear HK; clear HB; have HO204 := n0_; have HO210 := n1_; have HO213 := n2_; have HI0 := n3_; have BK201 := n4_; have HK := n5_; have HB := n6_; clear n0_ n1_ n2_ n3_ n4_ n5_ n6_; (try clear hb); (try clear hb_1); (try clear hk); (try clear hi); (try clear ho_1)) | ((with_reducible refine zoa (N := 5) rfl ?_); refine zEa ?hg (N := 5) ?hd (cs := #[.slice none 0 0]) (t := 26) ?hr ?_; (case hd => rfl); (case hg => rfl); (case hr => first | (go_simp; done) | (go_simp; rfl)); intro gb214 hg w_5 hbox hb; have n0_ := zb.mk (Kd.zta (by (with_reducible repeat (first | apply Kd.zo | apply Kd.zq | apply Kd.zA)); exact HO204.out) hb); have n1_ := zb.mk (Kd.zta (by (with_reducible repeat (first | apply Kd.zo | apply Kd.zq | apply Kd.zA)); exact HO210.out) hb); have n2_ := zb.mk (Kd.zta (by (with_reducible repeat (first | apply Kd.zo | apply Kd.zq | apply Kd.zA)); exact HO213.out) hb); have n3_ := zb.mk (za.below (by repeat (first | (with_reducible first | exact HI0.out | apply za.alloc | apply za.drewN | apply za.drew | apply za.zca | apply za.zba | refine za.far ?_ NB0_201.out _) | exact HI0.out)) hb); have n4_ := zb.mk (zG (g := gb201) (o := .cells #[.slice none 0 0] 26 (0, 0)) (by (with_reducible repeat (first | refine zk ?_ _ | refine zm ?_ | refine zi ?_ _)); exact BK201.out) hb); have n5_ := zb.mk (zn.trans (by repeat (first | (with_reducible first | exact HK.out | apply zn.set_ | apply zy | apply zF | apply zx | refine zS ?_ GW201.out _) | exact HK.out)) (zn.of_below hb g none) (.inl rfl)); have n6_ := zb.mk (zw (by repeat (first | (with_reducible first | exact HB.out | apply zg | apply ze | apply zf | refine zh ?_ (za.ge HI0.out) | refine zh ?_ GE201.out) | exact HB.out)) hb); have n7_ := zb.mk (hbox); have n8_ := zb.mk ((by rw [hg]; exact (zYa (w := w) (g := g) (row := none) (by repeat (first | (with_reducible first | exact HK.out | apply zn.set_ | apply zy | apply zF | apply zx | refine zS ?_ GW201.out _) | exact HK.out))) : w.heap.size ≤ gb214)); have n9_ := zb.mk ((Nat.le_trans HW0.out (by rw [hg]; exact (zYa (w := w) (g := g) (row := none) (by repeat (first | (with_reducible first | exact HK.out | apply zn.set_ | apply zy | apply zF | apply zx | refine zS ?_ GW201.out _) | exact HK.out))) : w.heap.size ≤ gb214) : w0.heap.size ≤ gb214)); have n10_ := zb.mk ((by rw [hg]; exact Nat.ne_of_lt (blk_lt (g := gb201) (o := .cells #[.slice none 0 0] 26 (0, 0)) (by (with_reducible repeat (first | refine zk ?_ _ | refine zm ?_ | refine zi ?_ _)); exact BK201.out)) : gb201 ≠ gb214)); have n11_ := zb.mk ((by rw [hg]; exact Nat.ne_of_gt (blk_lt (g := gb201) (o := .cells #[.slice none 0 0] 26 (0, 0)) (by (with_reducible repeat (first | refine zk ?_ _ | refine zm ?_ | refine zi ?_ _)); exact BK201.out)) : gb214 ≠ gb201)); have n12_ := zb.mk ((by rw [hg]; exact Nat.ne_of_lt (za.lt (show za w0 _ g s0_0 t205 t206 from by repeat (first | (with_reducible first | exact HI0.out | apply za.alloc | apply za.drewN | apply za.drew | apply za.zca | apply za.zba | refine za.far ?_ NB0_201.out _) | exact HI0.out))) : g ≠ gb214)); have n13_ := zb.mk ((by rw [hg]; exact Nat.ne_of_gt (za.lt (show za w0 _ g s0_0 t205 t206 from by repeat (first | (with_reducible first | exact HI0.out | apply za.alloc | apply za.drewN | apply za.drew | apply za.zca | apply za.zba | refine za.far ?_ NB0_201.out _) | exact HI0.out))) : gb214 ≠ g)); clear HO204; clear HO210; clear HO213; clear HI0; clear BK201; clear HK; clear HB; have HO204 := n0_; have HO210 := n1_; have HO213 := n2_; have HI0 := n3_; have BK201 := n4_; have HK := n5_; have HB := n6_; have BK214 := n7_; have GW214 := n8_; have GE214 := n9_; have NB201_214 := n10_; have NB214_201 := n11_; have NB0_214 := n12_; have NB214_0 := n13_; clear n0_ n1_ n2_ n3_ n4_ n5_ n6_ n7_ n8_ n9_ n10_ n11_ n12_ n13_; clear hb hbox hg; obtain ⟨Ao_3, co_3, eo_3⟩ := Kd.zpa HO213.out; subst eo_3; have hnb_1 := NB214_201.out; have hnc_1 := NB201_214.out; have hnb_2 := NB214_0.out; have hnc_2 := NB0_214.out; have hcz_1_0 : w_5.cell? ⟨gb214, 0, none⟩ = some (.slice none 0 0) := (zD BK214.out 0).trans rfl; have hfz_1_0 := zz BK214.out 0)))); rotate_left 1)
  ·(first | (go_at_call 182; (with_reducible refine (zNa.calls k _ _ t202 t207 _ _ ?side1 ?side2 A3.out).mono ?_); (case side1 => repeat (first | exact (Kd.zQ HO204.out).2.2 | (with_reducible refine Kd.zga ?_ _) | (with_reducible refine Kd.zia ?_ _) | (with_reducible refine Kd.zAa ?_))); (case side2 => exact (Kd.zQ HO204.out).2.1); rintro e w_3 ⟨v209, rfl, ho_1, hb⟩; have n0_ := zb.mk (Kd.R_elder' (by (with_reducible repeat (first | apply Kd.zo | apply Kd.zq | apply Kd.zA)); exact HO204.out) (Kd.R_base ho_1) hb); have n1_ := zb.mk (Kd.zua (Kd.R_new' ho_1 (Kd.R_lt (by (with_reducible repeat (first | apply Kd.zo | apply Kd.zq | apply Kd.zA)); exact HO204.out))) (zYa (w := w) (g := g) (row := none) (by repeat (first | (with_reducible first | exact HK.out | apply zn.set_ | apply zy | apply zF | apply zx | refine zS ?_ GW201.out _) | exact HK.out)))); have n2_ := zb.mk (za.below (by repeat (first | (with_reducible first | exact HI0.out | apply za.alloc | apply za.drewN | apply za.drew | apply za.zca | apply za.zba | refine za.far ?_ NB0_201.out _) | exact HI0.out)) hb); have n3_ := zb.mk (zG (g := gb201) (o := .cells #[.slice none 0 0] 26 (0, 0)) (by (with_reducible repeat (first | refine zk ?_ _ | refine zm ?_ | refine zi ?_ _)); exact BK201.out) hb); have n4_ := zb.mk (zn.trans (by repeat (first | (with_reducible first | exact HK.out | apply zn.set_ | apply zy | apply zF | apply zx | refine zS ?_ GW201.out _) | exact HK.out)) (zn.of_below hb g none) (.inl rfl)); have n5_ := zb.mk (zw (by repeat (first | (with_reducible first | exact HB.out | apply zg | apply ze | apply zf | refine zh ?_ (za.ge HI0.out) | refine zh ?_ GE201.out) | exact HB.out)) hb); clear HO204; clear HI0; clear BK201; clear HK; clear HB; have HO204 := n0_; have HO210 := n1_; have HI0 := n2_; have BK201 := n3_; have HK := n4_; have HB := n5_; clear n0_ n1_ n2_ n3_ n4_ n5_; (try clear hb); (try clear hb_1); (try clear hk); (try clear hi); (try clear ho_1); have hnb_1 := NB201_0.out; have hnc_1 := NB0_201.out; have hcz_1_0 : w_3.cell? ⟨gb201, 0, none⟩ = some (.slice none 0 0) := (zD BK201.out 0).trans rfl; have hfz_1_0 := zz BK201.out 0) | skip); try go_wp2
   refine bodyPost_ret (results_cell_row rfl _ _ gb201 26 #[.slice none 0 0] (0, 0) _ rfl (by (with_reducible repeat (first | refine zk ?_ _ | refine zm ?_ | refine zi ?_ _)); refine blk_put (cs := #[.slice none 0 0]) ?_ 0 _ rfl; (with_reducible repeat (first | refine zk ?_ _ | refine zm ?_ | refine zi ?_ _)); exact BK201.out) Tryz.underlying26 rfl (by kernel_rfl)) rfl ?_
   exact ⟨_, by first | rfl | (simp [zC, zB] <;> rfl) | (simp [*, zC, zB] <;> rfl), by first | exact Kd.R_nil _ _ _ _ _ | exact Kd.N_nil _ _ _ _ _ | exact Kd.V_nil _ _ _ _ _ | exact Kd.Q_nil _ _ _ _ _ | exact Kd.S_nil _ _ _ _ _, by repeat (first | (with_reducible first | exact HI0.out | apply za.alloc | apply za.drewN | apply za.drew | apply za.zca | apply za.zba | refine za.far ?_ NB0_201.out _) | exact HI0.out), by repeat (first | (with_reducible first | exact HB.out | apply zg | apply ze | apply zf | refine zh ?_ (za.ge HI0.out) | refine zh ?_ GE201.out) | exact HB.out), by repeat (first | (with_reducible first | exact HK.out | apply zn.set_ | apply zy | apply zF | apply zx | refine zS ?_ GW201.out _) | exact HK.out)⟩
  ·(first | (go_at_call 132; (with_reducible refine (zK.calls g s0_0 t205 t206 60 t215 t216 t217 w0 _ ?side1 ?side2 A6.out).mono ?_); (case side1 => repeat (first | (with_reducible first | exact HI0.out | apply za.alloc | apply za.drewN | apply za.drew | apply za.zca | apply za.zba | refine za.far ?_ NB0_201.out _ | refine za.far ?_ NB0_214.out _) | exact HI0.out)); (case side2 => repeat (first | (with_reducible first | exact HB.out | apply zg | apply ze | apply zf | refine zh ?_ (za.ge HI0.out) | refine zh ?_ GE201.out | refine zh ?_ GE214.out) | exact HB.out)); rintro e w_6 ⟨rfl, hi, hb, hk⟩; have n0_ := zb.mk (zn.blk hk (g' := gb201) (o := .cells #[.slice none 0 0] 26 (0, 0)) (by (with_reducible repeat (first | refine zk ?_ _ | refine zm ?_ | refine zi ?_ _)); refine blk_far ?_ NB201_214.out _; (with_reducible repeat (first | refine zk ?_ _ | refine zm ?_ | refine zi ?_ _)); exact BK201.out) NB201_0.out (by simp)); have n1_ := zb.mk (Kd.zZ (Kd.zGa (za.apart (show za w0 _ g s0_0 t205 t206 from by repeat (first | (with_reducible first | exact HI0.out | apply za.alloc | apply za.drewN | apply za.drew | apply za.zca | apply za.zba | refine za.far ?_ NB0_201.out _ | refine za.far ?_ NB0_214.out _) | exact HI0.out)) (by (with_reducible repeat (first | apply Kd.zo | apply Kd.zq | apply Kd.zA)); exact (Kd.zZ (Kd.R_far (p := ⟨gb214, 0, none⟩) (Kd.zUa HO204.out BK214.out (by decide)) (fun _ hk => hk.2) (.slice Ao_3 t211.length co_3)) (fun _ h_ => h_.1))) (by decide)) hk (fun _ h => h.2)) (fun _ h => h.1)); have n2_ := zb.mk (Kd.zZ (Kd.zGa (za.apart (show za w0 _ g s0_0 t205 t206 from by repeat (first | (with_reducible first | exact HI0.out | apply za.alloc | apply za.drewN | apply za.drew | apply za.zca | apply za.zba | refine za.far ?_ NB0_201.out _ | refine za.far ?_ NB0_214.out _) | exact HI0.out)) (by (with_reducible repeat (first | apply Kd.zo | apply Kd.zq | apply Kd.zA)); exact (Kd.zZ (Kd.R_far (p := ⟨gb214, 0, none⟩) (Kd.zUa HO210.out BK214.out (by decide)) (fun _ hk => hk.2) (.slice Ao_3 t211.length co_3)) (fun _ h_ => h_.1))) (by decide)) hk (fun _ h => h.2)) (fun _ h => h.1)); have n3_ := zb.mk (Kd.zZ (Kd.zGa (za.apart (show za w0 _ g s0_0 t205 t206 from by repeat (first | (with_reducible first | exact HI0.out | apply za.alloc | apply za.drewN | apply za.drew | apply za.zca | apply za.zba | refine za.far ?_ NB0_201.out _ | refine za.far ?_ NB0_214.out _) | exact HI0.out)) (by (with_reducible repeat (first | apply Kd.zo | apply Kd.zq | apply Kd.zA)); exact (Kd.zZ (Kd.R_far (p := ⟨gb214, 0, none⟩) (Kd.zUa HO213.out BK214.out (by decide)) (fun _ hk => hk.2) (.slice Ao_3 t211.length co_3)) (fun _ h_ => h_.1))) (by decide)) hk (fun _ h => h.2)) (fun _ h => h.1)); have n4_ := zb.mk (zn.blk hk (g' := gb214) (o := .cells #[.slice Ao_3 t211.length co_3] 26 (0, 0)) (by (with_reducible repeat (first | refine zk ?_ _ | refine zm ?_ | refine zi ?_ _)); refine blk_put (cs := #[.slice none 0 0]) ?_ 0 _ rfl; (with_reducible repeat (first | refine zk ?_ _ | refine zm ?_ | refine zi ?_ _)); exact BK214.out) NB214_0.out (by simp)); have n5_ := zb.mk (zn.trans (by repeat (first | (with_reducible first | exact HK.out | apply zn.set_ | apply zy | apply zF | apply zx | refine zS ?_ GW201.out _ | refine zS ?_ GW214.out _) | exact HK.out)) hk (.inl rfl)); have n6_ := zb.mk (hb); have n7_ := zb.mk (hi); clear BK201; clear HO204; clear HO210; clear HO213; clear BK214; clear HK; clear HB; clear HI0; have BK201 := n0_; have HO204 := n1_; have HO210 := n2_; have HO213 := n3_; have BK214 := n4_; have HK := n5_; have HB := n6_; have HI0 := n7_; clear n0_ n1_ n2_ n3_ n4_ n5_ n6_ n7_; (try clear hb); (try clear hb_1); (try clear hk); (try clear hi); have hcz_2_0 : w_6.cell? ⟨gb214, 0, none⟩ = some (.slice Ao_3 t211.length co_3) := (zD BK214.out 0).trans rfl; have hfz_2_0 := zz BK214.out 0; have hnb_3 := NB201_0.out; have hnc_3 := NB0_201.out; have hcz_3_0 : w_6.cell? ⟨gb201, 0, none⟩ = some (.slice none 0 0) := (zD BK201.out 0).trans rfl; have hfz_3_0 := zz BK201.out 0) | skip); try go_wp2
   refine bodyPost_ret (results_cell_row rfl _ _ gb201 26 #[.slice Ao_3 t211.length co_3] (0, 0) _ rfl (by (with_reducible repeat (first | refine zk ?_ _ | refine zm ?_ | refine zi ?_ _)); refine blk_put (cs := #[.slice none 0 0]) ?_ 0 _ rfl; (with_reducible repeat (first | refine zk ?_ _ | refine zm ?_ | refine zi ?_ _)); exact BK201.out) Tryz.underlying26 rfl (by kernel_rfl)) rfl ?_
   exact ⟨_, by first | rfl | (simp [zC, zB] <;> rfl) | (simp [*, zC, zB] <;> rfl), by (with_reducible repeat (first | apply Kd.zo | apply Kd.zq | apply Kd.zA)); exact Kd.zZ (Kd.R_far (p := ⟨gb201, 0, none⟩) (Kd.zUa HO213.out BK201.out (by decide)) (fun _ hk => hk.2) (.slice Ao_3 t211.length co_3)) (fun _ hk => trivial), by repeat (first | (with_reducible first | exact HI0.out | apply za.alloc | apply za.drewN | apply za.drew | apply za.zca | apply za.zba | refine za.far ?_ NB0_201.out _ | refine za.far ?_ NB0_214.out _) | exact HI0.out), by repeat (first | (with_reducible first | exact HB.out | apply zg | apply ze | apply zf | refine zh ?_ (za.ge HI0.out) | refine zh ?_ GE201.out | refine zh ?_ GE214.out) | exact HB.out), by repeat (first | (with_reducible first | exact HK.out | apply zn.set_ | apply zy | apply zF | apply zx | refine zS ?_ GW201.out _ | refine zS ?_ GW214.out _) | exact HK.out)⟩
  ·(first | (go_at_call 132; (with_reducible refine (zK.calls g s0_0 t205 t206 60 t215 t216 t217 w0 _ ?side1 ?side2 A6.out).mono ?_); (case side1 => repeat (first | (with_reducible first | exact HI0.out | apply za.alloc | apply za.drewN | apply za.drew | apply za.zca | apply za.zba | refine za.far ?_ NB0_201.out _ | refine za.far ?_ NB0_214.out _) | exact HI0.out)); (case side2 => repeat (first | (with_reducible first | exact HB.out | apply zg | apply ze | apply zf | refine zh ?_ (za.ge HI0.out) | refine zh ?_ GE201.out | refine zh ?_ GE214.out) | exact HB.out)); rintro e w_6 ⟨rfl, hi, hb, hk⟩; have n0_ := zb.mk (zn.blk hk (g' := gb201) (o := .cells #[.slice none 0 0] 26 (0, 0)) (by (with_reducible repeat (first | refine zk ?_ _ | refine zm ?_ | refine zi ?_ _)); refine blk_far ?_ NB201_214.out _; (with_reducible repeat (first | refine zk ?_ _ | refine zm ?_ | refine zi ?_ _)); exact BK201.out) NB201_0.out (by simp)); have n1_ := zb.mk (Kd.zZ (Kd.zGa (za.apart (show za w0 _ g s0_0 t205 t206 from by repeat (first | (with_reducible first | exact HI0.out | apply za.alloc | apply za.drewN | apply za.drew | apply za.zca | apply za.zba | refine za.far ?_ NB0_201.out _ | refine za.far ?_ NB0_214.out _) | exact HI0.out)) (by (with_reducible repeat (first | apply Kd.zo | apply Kd.zq | apply Kd.zA)); exact (Kd.zZ (Kd.R_far (p := ⟨gb214, 0, none⟩) (Kd.zUa HO204.out BK214.out (by decide)) (fun _ hk => hk.2) (.slice Ao_3 t211.length co_3)) (fun _ h_ => h_.1))) (by decide)) hk (fun _ h => h.2)) (fun _ h => h.1)); have n2_ := zb.mk (Kd.zZ (Kd.zGa (za.apart (show za w0 _ g s0_0 t205 t206 from by repeat (first | (with_reducible first | exact HI0.out | apply za.alloc | apply za.drewN | apply za.drew | apply za.zca | apply za.zba | refine za.far ?_ NB0_201.out _ | refine za.far ?_ NB0_214.out _) | exact HI0.out)) (by (with_reducible repeat (first | apply Kd.zo | apply Kd.zq | apply Kd.zA)); exact (Kd.zZ (Kd.R_far (p := ⟨gb214, 0, none⟩) (Kd.zUa HO210.out BK214.out (by decide)) (fun _ hk => hk.2) (.slice Ao_3 t211.length co_3)) (fun _ h_ => h_.1))) (by decide)) hk (fun _ h => h.2)) (fun _ h => h.1)); have n3_ := zb.mk (Kd.zZ (Kd.zGa (za.apart (show za w0 _ g s0_0 t205 t206 from by repeat (first | (with_reducible first | exact HI0.out | apply za.alloc | apply za.drewN | apply za.drew | apply za.zca | apply za.zba | refine za.far ?_ NB0_201.out _ | refine za.far ?_ NB0_214.out _) | exact HI0.out)) (by (with_reducible repeat (first | apply Kd.zo | apply Kd.zq | apply Kd.zA)); exact (Kd.zZ (Kd.R_far (p := ⟨gb214, 0, none⟩) (Kd.zUa HO213.out BK214.out (by decide)) (fun _ hk => hk.2) (.slice Ao_3 t211.length co_3)) (fun _ h_ => h_.1))) (by decide)) hk (fun _ h => h.2)) (fun _ h => h.1)); have n4_ := zb.mk (zn.blk hk (g' := gb214) (o := .cells #[.slice Ao_3 t211.length co_3] 26 (0, 0)) (by (with_reducible repeat (first | refine zk ?_ _ | refine zm ?_ | refine zi ?_ _)); refine blk_put (cs := #[.slice none 0 0]) ?_ 0 _ rfl; (with_reducible repeat (first | refine zk ?_ _ | refine zm ?_ | refine zi ?_ _)); exact BK214.out) NB214_0.out (by simp)); have n5_ := zb.mk (zn.trans (by repeat (first | (with_reducible first | exact HK.out | apply zn.set_ | apply zy | apply zF | apply zx | refine zS ?_ GW201.out _ | refine zS ?_ GW214.out _) | exact HK.out)) hk (.inl rfl)); have n6_ := zb.mk (hb); have n7_ := zb.mk (hi); clear BK201; clear HO204; clear HO210; clear HO213; clear BK214; clear HK; clear HB; clear HI0; have BK201 := n0_; have HO204 := n1_; have HO210 := n2_; have HO213 := n3_; have BK214 := n4_; have HK := n5_; have HB := n6_; have HI0 := n7_; clear n0_ n1_ n2_ n3_ n4_ n5_ n6_ n7_; (try clear hb); (try clear hb_1); (try clear hk); (try clear hi)) | skip); try go_wp2
   have n0_ := zb.mk (Kd.zA HO204.out)
   have n1_ := zb.mk (Kd.zA HO210.out)
   have n2_ := zb.mk (Kd.zA HO213.out)
   have n3_ := zb.mk (zm BK201.out)
   have n4_ := zb.mk (zm BK214.out)
   have n5_ := zb.mk (za.drew HI0.out)
   have n6_ := zb.mk (zF HK.out)
   have n7_ := zb.mk (zf HB.out)
   clear HO204
   clear HO210
   clear HO213
   clear BK201
   clear BK214
   clear HI0
   clear HK
   clear HB
   have HO204 := n0_
   have HO210 := n1_
   have HO213 := n2_
   have BK201 := n3_
   have BK214 := n4_
   have HI0 := n5_
   have HK := n6_
   have HB := n7_
   clear n0_ n1_ n2_ n3_ n4_ n5_ n6_ n7_
   refine start_ (n := 9) (S := fun w' => w'.cell? ⟨gb214, 0, none⟩ = some (.slice Ao_3 t211.length co_3)) (ds := [8]) #[false, false, false, false, false, false, false, false, false] (by kernel_rfl) rfl rfl ((zD BK214.out 0).trans rfl) (fun hHeld => ?_); refine with_tabW zP.tab14 zP.bits14 (fun HT_ HW_ => ?_)
   generalize w_6.drew = w_7 at HO204 HO210 HO213 BK201 BK214 HI0 HK HB hHeld ⊢
   refine zib (i := 0) (N := some 61) (v := ?_) (a' := ?_) #[true, false, false, false, false, false, false, false, false] rfl rfl (zVa HT_.out (by kernel_rfl)) (fun _ _ _ h => h) (Or.inl ⟨by rfl, ?_⟩) ?_ ?_
   rotate_left
   · intro w'
     go_simp
     with_reducible rfl
   rotate_left
   · simp only [Act.put, List.setIfInBounds_toArray, List.set_cons_zero, List.set_cons_succ, zva]
     rfl
   refine zib (i := 2) (N := some 63) (v := ?_) (a' := ?_) #[true, false, true, false, false, false, false, false, false] rfl rfl (zVa HT_.out (by kernel_rfl)) (fun _ _ _ h => h) (Or.inl ⟨by rfl, ?_⟩) ?_ ?_
   rotate_left
   · intro w'
     go_simp
     with_reducible rfl
   rotate_left
   · simp only [Act.put, List.setIfInBounds_toArray, List.set_cons_zero, List.set_cons_succ, zva]
     rfl
   refine take_ (i := 1) (N := some 62) (v := ?_) (a' := ?_) #[true, true, true, false, false, false, false, false, false] rfl rfl (take_ofW HT_.out HW_.out (by kernel_rfl)) (fun _ _ _ h => h) (Or.inl ⟨by rfl, ?_⟩) hHeld ?_ ?_
   rotate_left
   · intro w' s0
     go_simp
     with_reducible rfl
   rotate_left
   · simp only [Act.put, List.setIfInBounds_toArray, List.set_cons_zero, List.set_cons_succ, zva]
     rfl
   refine one_ (i := 3) (N := some 64) #[true, true, true, true, false, false, false, false, false] rfl rfl (one_of HT_.out (by kernel_rfl)) (by decide) (fun K hK => ?_)
   refine goes_ Tryz.func127 (by kernel_rfl) rfl #[.pointer (some ⟨g, 0, none⟩), .int .i64 2] (by rfl) rfl rfl (by (try simp only [List.map_toArray, List.map_cons, List.map_nil]); first | done | rfl | (simp only [List.length_drop, List.length_take]; rfl)) ?_
   with_reducible refine (zM.calls g s0_0 t216 t217 2 t245 t246 t247 w0 _ ?side1 ?side2 A94.out).mono ?_
   (case side1 => repeat (first | (with_reducible first | exact HI0.out | apply za.alloc | apply za.drewN | apply za.drew | apply za.zca | apply za.zba | refine za.far ?_ NB0_201.out _ | refine za.far ?_ NB0_214.out _) | exact HI0.out))
   (case side2 => repeat (first | (with_reducible first | exact HB.out | apply zg | apply ze | apply zf | refine zh ?_ (za.ge HI0.out) | refine zh ?_ GE201.out | refine zh ?_ GE214.out) | exact HB.out))
   rintro e w_8 ⟨rfl, hi, hb, hk⟩
   refine ⟨_, rfl, ?_⟩
   have n0_ := zb.mk (zn.blk hk (g' := gb201) (o := .cells #[.slice none 0 0] 26 (0, 0)) (by (with_reducible repeat (first | refine zk ?_ _ | refine zm ?_ | refine zi ?_ _)); exact BK201.out) NB201_0.out (by simp))
   have n1_ := zb.mk (Kd.zZ (Kd.zGa (za.apart (show za w0 _ g s0_0 t216 t217 from by repeat (first | (with_reducible first | exact HI0.out | apply za.alloc | apply za.drewN | apply za.drew | apply za.zca | apply za.zba | refine za.far ?_ NB0_201.out _ | refine za.far ?_ NB0_214.out _) | exact HI0.out)) (by (with_reducible repeat (first | apply Kd.zo | apply Kd.zq | apply Kd.zA)); exact HO204.out) (by decide)) hk (fun _ h => h.2)) (fun _ h => h.1))
   have n2_ := zb.mk (Kd.zZ (Kd.zGa (za.apart (show za w0 _ g s0_0 t216 t217 from by repeat (first | (with_reducible first | exact HI0.out | apply za.alloc | apply za.drewN | apply za.drew | apply za.zca | apply za.zba | refine za.far ?_ NB0_201.out _ | refine za.far ?_ NB0_214.out _) | exact HI0.out)) (by (with_reducible repeat (first | apply Kd.zo | apply Kd.zq | apply Kd.zA)); exact HO210.out) (by decide)) hk (fun _ h => h.2)) (fun _ h => h.1))
   have n3_ := zb.mk (Kd.zZ (Kd.zGa (za.apart (show za w0 _ g s0_0 t216 t217 from by repeat (first | (with_reducible first | exact HI0.out | apply za.alloc | apply za.drewN | apply za.drew | apply za.zca | apply za.zba | refine za.far ?_ NB0_201.out _ | refine za.far ?_ NB0_214.out _) | exact HI0.out)) (by (with_reducible repeat (first | apply Kd.zo | apply Kd.zq | apply Kd.zA)); exact HO213.out) (by decide)) hk (fun _ h => h.2)) (fun _ h => h.1))
   have n4_ := zb.mk (zn.blk hk (g' := gb214) (o := .cells #[.slice Ao_3 t211.length co_3] 26 (0, 0)) (by (with_reducible repeat (first | refine zk ?_ _ | refine zm ?_ | refine zi ?_ _)); exact BK214.out) NB214_0.out (by simp))
   have n5_ := zb.mk (zn.trans (by repeat (first | (with_reducible first | exact HK.out | apply zn.set_ | apply zy | apply zF | apply zx | refine zS ?_ GW201.out _ | refine zS ?_ GW214.out _) | exact HK.out)) hk (.inl rfl))
   have n6_ := zb.mk (hb)
   have n7_ := zb.mk (hi)
   clear BK201
   clear HO204
   clear HO210
   clear HO213
   clear BK214
   clear HK
   clear HB
   clear HI0
   have BK201 := n0_
   have HO204 := n1_
   have HO210 := n2_
   have HO213 := n3_
   have BK214 := n4_
   have HK := n5_
   have HB := n6_
   have HI0 := n7_
   clear n0_ n1_ n2_ n3_ n4_ n5_ n6_ n7_
   (try clear hb)
   (try clear hb_1)
   (try clear hk)
   (try clear hi)
   refine hK.out _ _ ((zD BK214.out 0).trans rfl) (fun hHeld => ?_)
   clear hK K
   refine norm_ (a' := ?_) ?_ ?_
   rotate_left
   · show Act.put _ (some 64) _ = _
     simp only [Act.put, List.setIfInBounds_toArray, List.set_cons_zero, List.set_cons_succ, zva]
     rfl
   refine zib (i := 4) (N := some 65) (v := ?_) (a' := ?_) #[true, true, true, true, true, false, false, false, false] rfl rfl (zVa HT_.out (by kernel_rfl)) (fun _ _ _ h => h) (Or.inl ⟨by rfl, ?_⟩) ?_ ?_
   rotate_left
   · intro w'
     go_simp
     with_reducible rfl
   rotate_left
   · simp only [Act.put, List.setIfInBounds_toArray, List.set_cons_zero, List.set_cons_succ, zva]
     rfl
   refine one_ (i := 5) (N := some 66) #[true, true, true, true, true, true, false, false, false] rfl rfl (one_of HT_.out (by kernel_rfl)) (by decide) (fun K hK => ?_)
   refine value_ (w1 := ?_) (v := ?_) (by rfl) rfl ?_ ?_
   rotate_left 2
   · go_simp
     constructor
     · rfl
     · rfl
   refine hK.out _ _ ((zD (zi BK214.out _) 0).trans rfl) (fun hHeld => ?_)
   clear hK K
   refine norm_ (a' := ?_) ?_ ?_
   rotate_left
   · show Act.put _ (some 66) _ = _
     simp only [Act.put, List.setIfInBounds_toArray, List.set_cons_zero, List.set_cons_succ, zva]
     rfl
   refine one_ (i := 6) (N := some 67) #[true, true, true, true, true, true, true, false, false] rfl rfl (one_of HT_.out (by kernel_rfl)) (by decide) (fun K hK => ?_)
   refine Kd.R_append_step zXa w.heap.size (by rfl) (.tmp 62) (.tmp 66) 24 73 (.agg #[(.int .i64 0), (.int .i64 0), (.bool false)]) 24 rfl Tryz.underlying24 info73 rfl (by decide) (by omega) (.slice Ao_3 t211.length co_3) t211 (⟨25, 0, t245⟩ : zL) [.int .i64 25, .int .i64 0, .bool t245] (fun _ => True) (fun _ => False) rfl rfl ?aP (fun _ hk => hk.elim) ?aF ?aO (Below.refl _ _) ?aS ?aL ?_
   (case aP => exact k_Node_mkM _ _ _ (⟨25, 0, t245⟩ : zL))
   (case aF => exact (fun _ _ => trivial))
   (case aO => exact (by (with_reducible repeat (first | apply Kd.zo | apply Kd.zq | apply Kd.zA)); exact HO213.out))
   (case aS => exact (zYa (w := w) (g := g) (row := none) (by repeat (first | (with_reducible first | exact HK.out | apply zn.set_ | apply zy | apply zF | apply zx | refine zS ?_ GW201.out _ | refine zS ?_ GW214.out _) | exact HK.out))))
   (case aL => have := LMc95.out; omega)
   intro v249 w_9 ho hb hg hat
   rw [← Ny248.out] at ho
   have n0_ := zb.mk (za.grown (by repeat (first | (with_reducible first | exact HI0.out | apply za.alloc | apply za.drewN | apply za.drew | apply za.zca | apply za.zba | refine za.far ?_ NB0_201.out _ | refine za.far ?_ NB0_214.out _) | exact HI0.out)) hg (za.own_ne HI0.out HO213.out (by decide)))
   have n1_ := zb.mk (blk_grown (g := gb201) (o := .cells #[.slice none 0 0] 26 (0, 0)) (by (with_reducible repeat (first | refine zk ?_ _ | refine zm ?_ | refine zi ?_ _)); exact BK201.out) hg (Kd.R_ne HO213.out BK201.out (by decide)))
   have n2_ := zb.mk (Kd.R_over' (by (with_reducible repeat (first | apply Kd.zo | apply Kd.zq | apply Kd.zA)); exact HO204.out) (Kd.R_typed (by (with_reducible repeat (first | apply Kd.zo | apply Kd.zq | apply Kd.zA)); exact HO213.out)) (by decide) hg)
   have n3_ := zb.mk (Kd.R_over' (by (with_reducible repeat (first | apply Kd.zo | apply Kd.zq | apply Kd.zA)); exact HO210.out) (Kd.R_typed (by (with_reducible repeat (first | apply Kd.zo | apply Kd.zq | apply Kd.zA)); exact HO213.out)) (by decide) hg)
   have n4_ := zb.mk (blk_grown (g := gb214) (o := .cells #[.slice Ao_3 t211.length co_3] 26 (0, 0)) (by (with_reducible repeat (first | refine zk ?_ _ | refine zm ?_ | refine zi ?_ _)); exact BK214.out) hg (Kd.R_ne HO213.out BK214.out (by decide)))
   have n5_ := zb.mk (below_weaken (by repeat (first | (with_reducible first | exact HB.out | apply zg | apply ze | apply zf | refine zh ?_ (za.ge HI0.out) | refine zh ?_ GE201.out | refine zh ?_ GE214.out) | exact HB.out)) HL.out hb)
   have n6_ := zb.mk (zn.trans (by repeat (first | (with_reducible first | exact HK.out | apply zn.set_ | apply zy | apply zF | apply zx | refine zS ?_ GW201.out _ | refine zS ?_ GW214.out _) | exact HK.out)) (zn.of_grown hg g) (Kd.R_base2 HO213.out))
   have n7_ := zb.mk (ho)
   clear HI0
   clear BK201
   clear HO204
   clear HO210
   clear BK214
   clear HB
   clear HK
   clear HO213
   have HI0 := n0_
   have BK201 := n1_
   have HO204 := n2_
   have HO210 := n3_
   have BK214 := n4_
   have HB := n5_
   have HK := n6_
   have HO250 := n7_
   clear n0_ n1_ n2_ n3_ n4_ n5_ n6_ n7_
   clear ho hb hg hat
   obtain ⟨Ao_4, co_4, eo_4⟩ := Kd.zpa HO250.out
   (first | subst eo_4 | (injection eo_4 with f1_ f2_ f3_; have f4_ := f1_.symm; have f5_ := f3_.symm; clear f1_ f2_ f3_; subst f4_; subst f5_))
   refine hK.out _ _ ((zD BK214.out 0).trans rfl) (fun hHeld => ?_)
   clear hK K
   refine norm_ (a' := ?_) ?_ ?_
   rotate_left
   · show Act.put _ (some 67) _ = _
     simp only [Act.put, List.setIfInBounds_toArray, List.set_cons_zero, List.set_cons_succ, zva]
     rfl
   refine zib (i := 7) (N := some 68) (v := ?_) (a' := ?_) #[true, true, true, true, true, true, true, true, false] rfl rfl (zVa HT_.out (by kernel_rfl)) (fun _ _ _ h => h) (Or.inl ⟨by rfl, ?_⟩) ?_ ?_
   rotate_left
   · intro w'
     go_simp
     with_reducible rfl
   rotate_left
   · simp only [Act.put, List.setIfInBounds_toArray, List.set_cons_zero, List.set_cons_succ, zva]
     rfl
   refine last_ (i := 8) (N := none) #[true, true, true, true, true, true, true, true, true] rfl rfl (one_of HT_.out (by kernel_rfl)) (by decide) (fun K hK => ?_)
   have hs_1 : w_9.cell? ⟨gb214, 0, none⟩ = some (.slice Ao_3 t211.length co_3) := (zD BK214.out 0).trans rfl
   have hfs_1 := zz BK214.out 0
   have hns_1_0 := NB201_214.out
   have hms_1_0 := NB214_201.out
   refine skip_ (w1 := ?_) (by rfl) rfl ?_ ?_
   rotate_left
   · go_simp
     rfl
   refine hK.out _ _ ?_
   clear hK K
   refine done_ (done_of HT_.out (by kernel_rfl)) ?_
   have hcz_2_0 : w_9.cell? ⟨gb214, 0, none⟩ = some (.slice Ao_3 t211.length co_3) := (zD BK214.out 0).trans rfl
   have hfz_2_0 := zz BK214.out 0
   have hnb_3 := NB201_0.out
   have hnc_3 := NB0_201.out
   have hcz_3_0 : w_9.cell? ⟨gb201, 0, none⟩ = some (.slice none 0 0) := (zD BK201.out 0).trans rfl
   have hfz_3_0 := zz BK201.out 0
   try go_wp2
   refine bodyPost_ret (results_cell_row rfl _ _ gb201 26 #[.slice Ao_4 y248.length co_4] (0, 0) _ rfl (by (with_reducible repeat (first | refine zk ?_ _ | refine zm ?_ | refine zi ?_ _)); refine blk_put (cs := #[.slice none 0 0]) ?_ 0 _ rfl; (with_reducible repeat (first | refine zk ?_ _ | refine zm ?_ | refine zi ?_ _)); refine blk_far ?_ NB201_214.out _; (with_reducible repeat (first | refine zk ?_ _ | refine zm ?_ | refine zi ?_ _)); exact BK201.out) Tryz.underlying26 rfl (by kernel_rfl)) rfl ?_
   exact ⟨_, by first | rfl | (simp [zC, zB] <;> rfl) | (simp [*, zC, zB] <;> rfl), by (with_reducible repeat (first | apply Kd.zo | apply Kd.zq | apply Kd.zA)); exact Kd.zZ (Kd.R_far (p := ⟨gb201, 0, none⟩) (Kd.R_far (p := ⟨gb214, 0, none⟩) (Kd.zUa (Kd.zUa HO250.out BK214.out (by decide)) BK201.out (by decide)) (fun _ hk => hk.1.2) (.slice Ao_4 y248.length co_4)) (fun _ hk => hk.2) (.slice Ao_4 y248.length co_4)) (fun _ hk => trivial), by repeat (first | (with_reducible first | exact HI0.out | apply za.alloc | apply za.drewN | apply za.drew | apply za.zca | apply za.zba | refine za.far ?_ NB0_201.out _ | refine za.far ?_ NB0_214.out _) | exact HI0.out), by repeat (first | (with_reducible first | exact HB.out | apply zg | apply ze | apply zf | refine zh ?_ (za.ge HI0.out) | refine zh ?_ GE201.out | refine zh ?_ GE214.out) | exact HB.out), by repeat (first | (with_reducible first | exact HK.out | apply zn.set_ | apply zy | apply zF | apply zx | refine zS ?_ GW201.out _ | refine zS ?_ GW214.out _) | exact HK.out)⟩
  ·(first | (go_at_call 132; (with_reducible refine (zK.calls g s0_0 t205 t206 60 t215 t216 t217 w0 _ ?side1 ?side2 A6.out).mono ?_); (case side1 => repeat (first | (with_reducible first | exact HI0.out | apply za.alloc | apply za.drewN | apply za.drew | apply za.zca | apply za.zba | refine za.far ?_ NB0_201.out _ | refine za.far ?_ NB0_214.out _) | exact HI0.out)); (case side2 => repeat (first | (with_reducible first | exact HB.out | apply zg | apply ze | apply zf | refine zh ?_ (za.ge HI0.out) | refine zh ?_ GE201.out | refine zh ?_ GE214.out) | exact HB.out)); rintro e w_6 ⟨rfl, hi, hb, hk⟩; have n0_ := zb.mk (zn.blk hk (g' := gb201) (o := .cells #[.slice none 0 0] 26 (0, 0)) (by (with_reducible repeat (first | refine zk ?_ _ | refine zm ?_ | refine zi ?_ _)); refine blk_far ?_ NB201_214.out _; (with_reducible repeat (first | refine zk ?_ _ | refine zm ?_ | refine zi ?_ _)); exact BK201.out) NB201_0.out (by simp)); have n1_ := zb.mk (Kd.zZ (Kd.zGa (za.apart (show za w0 _ g s0_0 t205 t206 from by repeat (first | (with_reducible first | exact HI0.out | apply za.alloc | apply za.drewN | apply za.drew | apply za.zca | apply za.zba | refine za.far ?_ NB0_201.out _ | refine za.far ?_ NB0_214.out _) | exact HI0.out)) (by (with_reducible repeat (first | apply Kd.zo | apply Kd.zq | apply Kd.zA)); exact (Kd.zZ (Kd.R_far (p := ⟨gb214, 0, none⟩) (Kd.zUa HO204.out BK214.out (by decide)) (fun _ hk => hk.2) (.slice Ao_3 t211.length co_3)) (fun _ h_ => h_.1))) (by decide)) hk (fun _ h => h.2)) (fun _ h => h.1)); have n2_ := zb.mk (Kd.zZ (Kd.zGa (za.apart (show za w0 _ g s0_0 t205 t206 from by repeat (first | (with_reducible first | exact HI0.out | apply za.alloc | apply za.drewN | apply za.drew | apply za.zca | apply za.zba | refine za.far ?_ NB0_201.out _ | refine za.far ?_ NB0_214.out _) | exact HI0.out)) (by (with_reducible repeat (first | apply Kd.zo | apply Kd.zq | apply Kd.zA)); exact (Kd.zZ (Kd.R_far (p := ⟨gb214, 0, none⟩) (Kd.zUa HO210.out BK214.out (by decide)) (fun _ hk => hk.2) (.slice Ao_3 t211.length co_3)) (fun _ h_ => h_.1))) (by decide)) hk (fun _ h => h.2)) (fun _ h => h.1)); have n3_ := zb.mk (Kd.zZ (Kd.zGa (za.apart (show za w0 _ g s0_0 t205 t206 from by repeat (first | (with_reducible first | exact HI0.out | apply za.alloc | apply za.drewN | apply za.drew | apply za.zca | apply za.zba | refine za.far ?_ NB0_201.out _ | refine za.far ?_ NB0_214.out _) | exact HI0.out)) (by (with_reducible repeat (first | apply Kd.zo | apply Kd.zq | apply Kd.zA)); exact (Kd.zZ (Kd.R_far (p := ⟨gb214, 0, none⟩) (Kd.zUa HO213.out BK214.out (by decide)) (fun _ hk => hk.2) (.slice Ao_3 t211.length co_3)) (fun _ h_ => h_.1))) (by decide)) hk (fun _ h => h.2)) (fun _ h => h.1)); have n4_ := zb.mk (zn.blk hk (g' := gb214) (o := .cells #[.slice Ao_3 t211.length co_3] 26 (0, 0)) (by (with_reducible repeat (first | refine zk ?_ _ | refine zm ?_ | refine zi ?_ _)); refine blk_put (cs := #[.slice none 0 0]) ?_ 0 _ rfl; (with_reducible repeat (first | refine zk ?_ _ | refine zm ?_ | refine zi ?_ _)); exact BK214.out) NB214_0.out (by simp)); have n5_ := zb.mk (zn.trans (by repeat (first | (with_reducible first | exact HK.out | apply zn.set_ | apply zy | apply zF | apply zx | refine zS ?_ GW201.out _ | refine zS ?_ GW214.out _) | exact HK.out)) hk (.inl rfl)); have n6_ := zb.mk (hb); have n7_ := zb.mk (hi); clear BK201; clear HO204; clear HO210; clear HO213; clear BK214; clear HK; clear HB; clear HI0; have BK201 := n0_; have HO204 := n1_; have HO210 := n2_; have HO213 := n3_; have BK214 := n4_; have HK := n5_; have HB := n6_; have HI0 := n7_; clear n0_ n1_ n2_ n3_ n4_ n5_ n6_ n7_; (try clear hb); (try clear hb_1); (try clear hk); (try clear hi)) | skip); try go_wp2
   have n0_ := zb.mk (Kd.zA HO204.out)
   have n1_ := zb.mk (Kd.zA HO210.out)
   have n2_ := zb.mk (Kd.zA HO213.out)
   have n3_ := zb.mk (zm BK201.out)
   have n4_ := zb.mk (zm BK214.out)
   have n5_ := zb.mk (za.drew HI0.out)
   have n6_ := zb.mk (zF HK.out)
   have n7_ := zb.mk (zf HB.out)
   clear HO204
   clear HO210
   clear HO213
   clear BK201
   clear BK214
   clear HI0
   clear HK
   clear HB
   have HO204 := n0_
   have HO210 := n1_
   have HO213 := n2_
   have BK201 := n3_
   have BK214 := n4_
   have HI0 := n5_
   have HK := n6_
   have HB := n7_
   clear n0_ n1_ n2_ n3_ n4_ n5_ n6_ n7_
   refine start_ (n := 12) (S := fun w' => w'.cell? ⟨gb214, 0, none⟩ = some (.slice Ao_3 t211.length co_3)) (ds := [11]) #[false, false, false, false, false, false, false, false, false, false, false, false] (by kernel_rfl) rfl rfl ((zD BK214.out 0).trans rfl) (fun hHeld => ?_); refine with_tabW zP.tab12 zP.bits12 (fun HT_ HW_ => ?_)
   generalize w_6.drew = w_7 at HO204 HO210 HO213 BK201 BK214 HI0 HK HB hHeld ⊢
   refine zib (i := 0) (N := some 48) (v := ?_) (a' := ?_) #[true, false, false, false, false, false, false, false, false, false, false, false] rfl rfl (zVa HT_.out (by kernel_rfl)) (fun _ _ _ h => h) (Or.inl ⟨by rfl, ?_⟩) ?_ ?_
   rotate_left
   · intro w'
     go_simp
     with_reducible rfl
   rotate_left
   · simp only [Act.put, List.setIfInBounds_toArray, List.set_cons_zero, List.set_cons_succ, zva]
     rfl
   refine zib (i := 2) (N := some 50) (v := ?_) (a' := ?_) #[true, false, true, false, false, false, false, false, false, false, false, false] rfl rfl (zVa HT_.out (by kernel_rfl)) (fun _ _ _ h => h) (Or.inl ⟨by rfl, ?_⟩) ?_ ?_
   rotate_left
   · intro w'
     go_simp
     with_reducible rfl
   rotate_left
   · simp only [Act.put, List.setIfInBounds_toArray, List.set_cons_zero, List.set_cons_succ, zva]
     rfl
   refine zib (i := 3) (N := some 51) (v := ?_) (a' := ?_) #[true, false, true, true, false, false, false, false, false, false, false, false] rfl rfl (zVa HT_.out (by kernel_rfl)) (fun _ _ _ h => h) (Or.inl ⟨by rfl, ?_⟩) ?_ ?_
   rotate_left
   · intro w'
     go_simp
     with_reducible rfl
   rotate_left
   · simp only [Act.put, List.setIfInBounds_toArray, List.set_cons_zero, List.set_cons_succ, zva]
     rfl
   refine zib (i := 5) (N := some 53) (v := ?_) (a' := ?_) #[true, false, true, true, false, true, false, false, false, false, false, false] rfl rfl (zVa HT_.out (by kernel_rfl)) (fun _ _ _ h => h) (Or.inl ⟨by rfl, ?_⟩) ?_ ?_
   rotate_left
   · intro w'
     go_simp
     with_reducible rfl
   rotate_left
   · simp only [Act.put, List.setIfInBounds_toArray, List.set_cons_zero, List.set_cons_succ, zva]
     rfl
   refine zib (i := 6) (N := some 54) (v := ?_) (a' := ?_) #[true, false, true, true, false, true, true, false, false, false, false, false] rfl rfl (zVa HT_.out (by kernel_rfl)) (fun _ _ _ h => h) (Or.inl ⟨by rfl, ?_⟩) ?_ ?_
   rotate_left
   · intro w'
     go_simp
     with_reducible rfl
   rotate_left
   · simp only [Act.put, List.setIfInBounds_toArray, List.set_cons_zero, List.set_cons_succ, zva]
     rfl
   refine take_ (i := 1) (N := some 49) (v := ?_) (a' := ?_) #[true, true, true, true, false, true, true, false, false, false, false, false] rfl rfl (take_ofW HT_.out HW_.out (by kernel_rfl)) (fun _ _ _ h => h) (Or.inl ⟨by rfl, ?_⟩) hHeld ?_ ?_
   rotate_left
   · intro w' s0
     go_simp
     with_reducible rfl
   rotate_left
   · simp only [Act.put, List.setIfInBounds_toArray, List.set_cons_zero, List.set_cons_succ, zva]
     rfl
   refine join_ (σ := Value) 4 #[true, true, true, true, true, true, true, true, false, false, false, false] (fun s_ => [(52, .int .i64 t235), (55, s_)]) (fun s_ w' => (w'.cell? ⟨gb214, 0, none⟩ = some (.slice Ao_3 t211.length co_3)) ∧ (Kd.R Kd.string 9 w' w.heap.size (fun k_ => some k_ ≠ (.slice Ao_2 t207.length co_2 : Value).ownBlock) (.slice Ao_1 t202.length co_1) t202) ∧ (Kd.R Kd.string 9 w' w.heap.size (fun k_ => some k_ ≠ (.slice Ao_1 t202.length co_1 : Value).ownBlock) (.slice Ao_2 t207.length co_2) t207) ∧ (Kd.R zXa 73 w' w.heap.size (fun _ => True) (.slice Ao_3 t211.length co_3) t211) ∧ (Kd.R (Kd.int .i64) 3 w' w.heap.size (fun _ => True) s_ y238) ∧ (w'.heap[gb201]? = some (.cells #[.slice none 0 0] 26 (0, 0))) ∧ (w'.heap[gb214]? = some (.cells #[.slice Ao_3 t211.length co_3] 26 (0, 0))) ∧ (za w0 w' g s0_0 t236 t237) ∧ (zn w w' g none) ∧ (Below w0.heap.size w0 w')) ?_ ?_
   rotate_left
   · intro hCont
     refine two_ (i := 4) (j := 7) (Ni := some 52) (Nj := some 55) #[true, true, true, true, true, true, true, false, false, false, false, false] #[true, true, true, true, false, true, true, true, false, false, false, false] rfl rfl rfl rfl (two_of HT_.out (by kernel_rfl)) (by decide) (by decide) (fun K hK => ?_) (fun K hK => ?_)
     · skip
       refine goes_ Tryz.func132 (by kernel_rfl) rfl #[.pointer (some ⟨g, 0, none⟩), .int .i64 (t211.length : Int)] (by rfl) rfl rfl (by (try simp only [List.map_toArray, List.map_cons, List.map_nil]); first | done | rfl | (simp only [List.length_drop, List.length_take]; rfl)) ?_
       with_reducible refine (zK.calls g s0_0 t216 t217 (t211.length : Int) t235 t236 t237 w0 _ ?side1 ?side2 A64.out).mono ?_
       (case side1 => repeat (first | (with_reducible first | exact HI0.out | apply za.alloc | apply za.drewN | apply za.drew | apply za.zca | apply za.zba | refine za.far ?_ NB0_201.out _ | refine za.far ?_ NB0_214.out _) | exact HI0.out))
       (case side2 => repeat (first | (with_reducible first | exact HB.out | apply zg | apply ze | apply zf | refine zh ?_ (za.ge HI0.out) | refine zh ?_ GE201.out | refine zh ?_ GE214.out) | exact HB.out))
       rintro e w_8 ⟨rfl, hi, hb, hk⟩
       refine ⟨_, rfl, ?_⟩
       have n0_ := zb.mk (zn.blk hk (g' := gb201) (o := .cells #[.slice none 0 0] 26 (0, 0)) (by (with_reducible repeat (first | refine zk ?_ _ | refine zm ?_ | refine zi ?_ _)); exact BK201.out) NB201_0.out (by simp))
       have n1_ := zb.mk (Kd.zZ (Kd.zGa (za.apart (show za w0 _ g s0_0 t216 t217 from by repeat (first | (with_reducible first | exact HI0.out | apply za.alloc | apply za.drewN | apply za.drew | apply za.zca | apply za.zba | refine za.far ?_ NB0_201.out _ | refine za.far ?_ NB0_214.out _) | exact HI0.out)) (by (with_reducible repeat (first | apply Kd.zo | apply Kd.zq | apply Kd.zA)); exact HO204.out) (by decide)) hk (fun _ h => h.2)) (fun _ h => h.1))
       have n2_ := zb.mk (Kd.zZ (Kd.zGa (za.apart (show za w0 _ g s0_0 t216 t217 from by repeat (first | (with_reducible first | exact HI0.out | apply za.alloc | apply za.drewN | apply za.drew | apply za.zca | apply za.zba | refine za.far ?_ NB0_201.out _ | refine za.far ?_ NB0_214.out _) | exact HI0.out)) (by (with_reducible repeat (first | apply Kd.zo | apply Kd.zq | apply Kd.zA)); exact HO210.out) (by decide)) hk (fun _ h => h.2)) (fun _ h => h.1))
       have n3_ := zb.mk (Kd.zZ (Kd.zGa (za.apart (show za w0 _ g s0_0 t216 t217 from by repeat (first | (with_reducible first | exact HI0.out | apply za.alloc | apply za.drewN | apply za.drew | apply za.zca | apply za.zba | refine za.far ?_ NB0_201.out _ | refine za.far ?_ NB0_214.out _) | exact HI0.out)) (by (with_reducible repeat (first | apply Kd.zo | apply Kd.zq | apply Kd.zA)); exact HO213.out) (by decide)) hk (fun _ h => h.2)) (fun _ h => h.1))
       have n4_ := zb.mk (zn.blk hk (g' := gb214) (o := .cells #[.slice Ao_3 t211.length co_3] 26 (0, 0)) (by (with_reducible repeat (first | refine zk ?_ _ | refine zm ?_ | refine zi ?_ _)); exact BK214.out) NB214_0.out (by simp))
       have n5_ := zb.mk (zn.trans (by repeat (first | (with_reducible first | exact HK.out | apply zn.set_ | apply zy | apply zF | apply zx | refine zS ?_ GW201.out _ | refine zS ?_ GW214.out _) | exact HK.out)) hk (.inl rfl))
       have n6_ := zb.mk (hb)
       have n7_ := zb.mk (hi)
       clear BK201
       clear HO204
       clear HO210
       clear HO213
       clear BK214
       clear HK
       clear HB
       clear HI0
       have BK201 := n0_
       have HO204 := n1_
       have HO210 := n2_
       have HO213 := n3_
       have BK214 := n4_
       have HK := n5_
       have HB := n6_
       have HI0 := n7_
       clear n0_ n1_ n2_ n3_ n4_ n5_ n6_ n7_
       (try clear hb)
       (try clear hb_1)
       (try clear hk)
       (try clear hi)
       refine hK.out _ _ ((zD BK214.out 0).trans rfl) (fun hHeld => ?_)
       clear hK K
       refine norm_ (a' := ?_) ?_ ?_
       rotate_left
       · show Act.put _ (some 52) _ = _
         simp only [Act.put, List.setIfInBounds_toArray, List.set_cons_zero, List.set_cons_succ, zva]
         rfl
       refine one_ (i := 7) (N := some 55) #[true, true, true, true, true, true, true, true, false, false, false, false] rfl rfl (one_of HT_.out (by kernel_rfl)) (by decide) (fun K hK => ?_)
       refine Kd.R_lit_step (Kd.int .i64) _ 3 ?hg (N := 55) ?hd (xs := ([(-1), 0, 1, (t211.length : Int)] : List Int)) (inner := [.int .i64 (-1), .int .i64 0, .int .i64 1, .int .i64 (t211.length : Int)]) (ok := fun _ => True) (okp := fun _ => True) ?hr ?hp (fun _ hk => hk) trivial (Below.refl _ _) (Nat.le_refl _) (by simp) ?_; (case hd => rfl); (case hg => rfl); (case hr => first | (go_simp; done) | (go_simp; rfl)); (case hp => exact (Reps.one (show Kd.M (Kd.int .i64) _ _ _ (-1) [.int .i64 (-1)] from rfl) (Reps.one (show Kd.M (Kd.int .i64) _ _ _ 0 [.int .i64 0] from rfl) (Reps.one (show Kd.M (Kd.int .i64) _ _ _ 1 [.int .i64 1] from rfl) (Reps.one (show Kd.M (Kd.int .i64) _ _ _ (t211.length : Int) [.int .i64 (t211.length : Int)] from rfl) (Reps.none _ _))))))
       intro v239 w_9 ho_2 hb hg_ hnew_
       clear hg_ hnew_
       (first | rw [← Ny238.out] at ho_2 | (simp only [Int.reduceToNat] at ho_2; rw [← Ny238.out] at ho_2))
       have n0_ := zb.mk (Kd.zta (by (with_reducible repeat (first | apply Kd.zo | apply Kd.zq | apply Kd.zA)); exact HO204.out) hb)
       have n1_ := zb.mk (Kd.zta (by (with_reducible repeat (first | apply Kd.zo | apply Kd.zq | apply Kd.zA)); exact HO210.out) hb)
       have n2_ := zb.mk (Kd.zta (by (with_reducible repeat (first | apply Kd.zo | apply Kd.zq | apply Kd.zA)); exact HO213.out) hb)
       have n3_ := zb.mk (Kd.zua ho_2 (zYa (w := w) (g := g) (row := none) (by repeat (first | (with_reducible first | exact HK.out | apply zn.set_ | apply zy | apply zF | apply zx | refine zS ?_ GW201.out _ | refine zS ?_ GW214.out _) | exact HK.out))))
       have n4_ := zb.mk (za.below (by repeat (first | (with_reducible first | exact HI0.out | apply za.alloc | apply za.drewN | apply za.drew | apply za.zca | apply za.zba | refine za.far ?_ NB0_201.out _ | refine za.far ?_ NB0_214.out _) | exact HI0.out)) hb)
       have n5_ := zb.mk (zG (g := gb201) (o := .cells #[.slice none 0 0] 26 (0, 0)) (by (with_reducible repeat (first | refine zk ?_ _ | refine zm ?_ | refine zi ?_ _)); exact BK201.out) hb)
       have n6_ := zb.mk (zG (g := gb214) (o := .cells #[.slice Ao_3 t211.length co_3] 26 (0, 0)) (by (with_reducible repeat (first | refine zk ?_ _ | refine zm ?_ | refine zi ?_ _)); exact BK214.out) hb)
       have n7_ := zb.mk (zn.trans (by repeat (first | (with_reducible first | exact HK.out | apply zn.set_ | apply zy | apply zF | apply zx | refine zS ?_ GW201.out _ | refine zS ?_ GW214.out _) | exact HK.out)) (zn.of_below hb g none) (.inl rfl))
       have n8_ := zb.mk (zw (by repeat (first | (with_reducible first | exact HB.out | apply zg | apply ze | apply zf | refine zh ?_ (za.ge HI0.out) | refine zh ?_ GE201.out | refine zh ?_ GE214.out) | exact HB.out)) hb)
       clear HO204
       clear HO210
       clear HO213
       clear HI0
       clear BK201
       clear BK214
       clear HK
       clear HB
       have HO204 := n0_
       have HO210 := n1_
       have HO213 := n2_
       have HO240 := n3_
       have HI0 := n4_
       have BK201 := n5_
       have BK214 := n6_
       have HK := n7_
       have HB := n8_
       clear n0_ n1_ n2_ n3_ n4_ n5_ n6_ n7_ n8_
       clear hb ho_2
       refine hK.out _ _ ((zD BK214.out 0).trans rfl) (fun hHeld => ?_)
       clear hK K
       refine norm_ (a' := ?_) ?_ ?_
       rotate_left
       · show Act.put _ (some 55) _ = _
         simp only [Act.put, List.setIfInBounds_toArray, List.set_cons_zero, List.set_cons_succ, zva]
         rfl
       exact norm_ (by simp only [putAll, Act.put, List.setIfInBounds_toArray, List.set_cons_zero, List.set_cons_succ]) (hCont (v239) _ ⟨hHeld, (by (with_reducible repeat (first | apply Kd.zo | apply Kd.zq | apply Kd.zA)); exact Kd.zZ HO204.out (fun _ hk => hk.2)), (by (with_reducible repeat (first | apply Kd.zo | apply Kd.zq | apply Kd.zA)); exact Kd.zZ HO210.out (fun _ hk => hk.2)), (by (with_reducible repeat (first | apply Kd.zo | apply Kd.zq | apply Kd.zA)); exact HO213.out), (by (with_reducible repeat (first | apply Kd.zo | apply Kd.zq | apply Kd.zA)); exact HO240.out), (by (with_reducible repeat (first | refine zk ?_ _ | refine zm ?_ | refine zi ?_ _)); exact BK201.out), (by (with_reducible repeat (first | refine zk ?_ _ | refine zm ?_ | refine zi ?_ _)); exact BK214.out), (by repeat (first | (with_reducible first | exact HI0.out | apply za.alloc | apply za.drewN | apply za.drew | apply za.zca | apply za.zba | refine za.far ?_ NB0_201.out _ | refine za.far ?_ NB0_214.out _) | exact HI0.out)), (by repeat (first | (with_reducible first | exact HK.out | apply zn.set_ | apply zy | apply zF | apply zx | refine zS ?_ GW201.out _ | refine zS ?_ GW214.out _) | exact HK.out)), (by repeat (first | (with_reducible first | exact HB.out | apply zg | apply ze | apply zf | refine zh ?_ (za.ge HI0.out) | refine zh ?_ GE201.out | refine zh ?_ GE214.out) | exact HB.out))⟩)
     · skip
       refine Kd.R_lit_step (Kd.int .i64) _ 3 ?hg (N := 55) ?hd (xs := ([(-1), 0, 1, (t211.length : Int)] : List Int)) (inner := [.int .i64 (-1), .int .i64 0, .int .i64 1, .int .i64 (t211.length : Int)]) (ok := fun _ => True) (okp := fun _ => True) ?hr ?hp (fun _ hk => hk) trivial (Below.refl _ _) (Nat.le_refl _) (by simp) ?_; (case hd => rfl); (case hg => rfl); (case hr => first | (go_simp; done) | (go_simp; rfl)); (case hp => exact (Reps.one (show Kd.M (Kd.int .i64) _ _ _ (-1) [.int .i64 (-1)] from rfl) (Reps.one (show Kd.M (Kd.int .i64) _ _ _ 0 [.int .i64 0] from rfl) (Reps.one (show Kd.M (Kd.int .i64) _ _ _ 1 [.int .i64 1] from rfl) (Reps.one (show Kd.M (Kd.int .i64) _ _ _ (t211.length : Int) [.int .i64 (t211.length : Int)] from rfl) (Reps.none _ _))))))
       intro v239 w_8 ho_3 hb hg_ hnew_
       clear hg_ hnew_
       (first | rw [← Ny238.out] at ho_3 | (simp only [Int.reduceToNat] at ho_3; rw [← Ny238.out] at ho_3))
       have n0_ := zb.mk (Kd.zta (by (with_reducible repeat (first | apply Kd.zo | apply Kd.zq | apply Kd.zA)); exact HO204.out) hb)
       have n1_ := zb.mk (Kd.zta (by (with_reducible repeat (first | apply Kd.zo | apply Kd.zq | apply Kd.zA)); exact HO210.out) hb)
       have n2_ := zb.mk (Kd.zta (by (with_reducible repeat (first | apply Kd.zo | apply Kd.zq | apply Kd.zA)); exact HO213.out) hb)
       have n3_ := zb.mk (Kd.zua ho_3 (zYa (w := w) (g := g) (row := none) (by repeat (first | (with_reducible first | exact HK.out | apply zn.set_ | apply zy | apply zF | apply zx | refine zS ?_ GW201.out _ | refine zS ?_ GW214.out _) | exact HK.out))))
       have n4_ := zb.mk (za.below (by repeat (first | (with_reducible first | exact HI0.out | apply za.alloc | apply za.drewN | apply za.drew | apply za.zca | apply za.zba | refine za.far ?_ NB0_201.out _ | refine za.far ?_ NB0_214.out _) | exact HI0.out)) hb)
       have n5_ := zb.mk (zG (g := gb201) (o := .cells #[.slice none 0 0] 26 (0, 0)) (by (with_reducible repeat (first | refine zk ?_ _ | refine zm ?_ | refine zi ?_ _)); exact BK201.out) hb)
       have n6_ := zb.mk (zG (g := gb214) (o := .cells #[.slice Ao_3 t211.length co_3] 26 (0, 0)) (by (with_reducible repeat (first | refine zk ?_ _ | refine zm ?_ | refine zi ?_ _)); exact BK214.out) hb)
       have n7_ := zb.mk (zn.trans (by repeat (first | (with_reducible first | exact HK.out | apply zn.set_ | apply zy | apply zF | apply zx | refine zS ?_ GW201.out _ | refine zS ?_ GW214.out _) | exact HK.out)) (zn.of_below hb g none) (.inl rfl))
       have n8_ := zb.mk (zw (by repeat (first | (with_reducible first | exact HB.out | apply zg | apply ze | apply zf | refine zh ?_ (za.ge HI0.out) | refine zh ?_ GE201.out | refine zh ?_ GE214.out) | exact HB.out)) hb)
       clear HO204
       clear HO210
       clear HO213
       clear HI0
       clear BK201
       clear BK214
       clear HK
       clear HB
       have HO204 := n0_
       have HO210 := n1_
       have HO213 := n2_
       have HO240 := n3_
       have HI0 := n4_
       have BK201 := n5_
       have BK214 := n6_
       have HK := n7_
       have HB := n8_
       clear n0_ n1_ n2_ n3_ n4_ n5_ n6_ n7_ n8_
       clear hb ho_3
       refine hK.out _ _ ((zD BK214.out 0).trans rfl) (fun hHeld => ?_)
       clear hK K
       refine norm_ (a' := ?_) ?_ ?_
       rotate_left
       · show Act.put _ (some 55) _ = _
         simp only [Act.put, List.setIfInBounds_toArray, List.set_cons_zero, List.set_cons_succ, zva]
         rfl
       refine one_ (i := 4) (N := some 52) #[true, true, true, true, true, true, true, true, false, false, false, false] rfl rfl (one_of HT_.out (by kernel_rfl)) (by decide) (fun K hK => ?_)
       refine goes_ Tryz.func132 (by kernel_rfl) rfl #[.pointer (some ⟨g, 0, none⟩), .int .i64 (t211.length : Int)] (by rfl) rfl rfl (by (try simp only [List.map_toArray, List.map_cons, List.map_nil]); first | done | rfl | (simp only [List.length_drop, List.length_take]; rfl)) ?_
       with_reducible refine (zK.calls g s0_0 t216 t217 (t211.length : Int) t235 t236 t237 w0 _ ?side1 ?side2 A64.out).mono ?_
       (case side1 => repeat (first | (with_reducible first | exact HI0.out | apply za.alloc | apply za.drewN | apply za.drew | apply za.zca | apply za.zba | refine za.far ?_ NB0_201.out _ | refine za.far ?_ NB0_214.out _) | exact HI0.out))
       (case side2 => repeat (first | (with_reducible first | exact HB.out | apply zg | apply ze | apply zf | refine zh ?_ (za.ge HI0.out) | refine zh ?_ GE201.out | refine zh ?_ GE214.out) | exact HB.out))
       rintro e w_10 ⟨rfl, hi, hb, hk⟩
       refine ⟨_, rfl, ?_⟩
       have n0_ := zb.mk (zn.blk hk (g' := gb201) (o := .cells #[.slice none 0 0] 26 (0, 0)) (by (with_reducible repeat (first | refine zk ?_ _ | refine zm ?_ | refine zi ?_ _)); exact BK201.out) NB201_0.out (by simp))
       have n1_ := zb.mk (Kd.zZ (Kd.zGa (za.apart (show za w0 _ g s0_0 t216 t217 from by repeat (first | (with_reducible first | exact HI0.out | apply za.alloc | apply za.drewN | apply za.drew | apply za.zca | apply za.zba | refine za.far ?_ NB0_201.out _ | refine za.far ?_ NB0_214.out _) | exact HI0.out)) (by (with_reducible repeat (first | apply Kd.zo | apply Kd.zq | apply Kd.zA)); exact HO204.out) (by decide)) hk (fun _ h => h.2)) (fun _ h => h.1))
       have n2_ := zb.mk (Kd.zZ (Kd.zGa (za.apart (show za w0 _ g s0_0 t216 t217 from by repeat (first | (with_reducible first | exact HI0.out | apply za.alloc | apply za.drewN | apply za.drew | apply za.zca | apply za.zba | refine za.far ?_ NB0_201.out _ | refine za.far ?_ NB0_214.out _) | exact HI0.out)) (by (with_reducible repeat (first | apply Kd.zo | apply Kd.zq | apply Kd.zA)); exact HO210.out) (by decide)) hk (fun _ h => h.2)) (fun _ h => h.1))
       have n3_ := zb.mk (Kd.zZ (Kd.zGa (za.apart (show za w0 _ g s0_0 t216 t217 from by repeat (first | (with_reducible first | exact HI0.out | apply za.alloc | apply za.drewN | apply za.drew | apply za.zca | apply za.zba | refine za.far ?_ NB0_201.out _ | refine za.far ?_ NB0_214.out _) | exact HI0.out)) (by (with_reducible repeat (first | apply Kd.zo | apply Kd.zq | apply Kd.zA)); exact HO213.out) (by decide)) hk (fun _ h => h.2)) (fun _ h => h.1))
       have n4_ := zb.mk (zn.blk hk (g' := gb214) (o := .cells #[.slice Ao_3 t211.length co_3] 26 (0, 0)) (by (with_reducible repeat (first | refine zk ?_ _ | refine zm ?_ | refine zi ?_ _)); exact BK214.out) NB214_0.out (by simp))
       have n5_ := zb.mk (Kd.zZ (Kd.zGa (za.apart (show za w0 _ g s0_0 t216 t217 from by repeat (first | (with_reducible first | exact HI0.out | apply za.alloc | apply za.drewN | apply za.drew | apply za.zca | apply za.zba | refine za.far ?_ NB0_201.out _ | refine za.far ?_ NB0_214.out _) | exact HI0.out)) (by (with_reducible repeat (first | apply Kd.zo | apply Kd.zq | apply Kd.zA)); exact HO240.out) (by decide)) hk (fun _ h => h.2)) (fun _ h => h.1))
       have n6_ := zb.mk (zn.trans (by repeat (first | (with_reducible first | exact HK.out | apply zn.set_ | apply zy | apply zF | apply zx | refine zS ?_ GW201.out _ | refine zS ?_ GW214.out _) | exact HK.out)) hk (.inl rfl))
       have n7_ := zb.mk (hb)
       have n8_ := zb.mk (hi)
       clear BK201
       clear HO204
       clear HO210
       clear HO213
       clear BK214
       clear HO240
       clear HK
       clear HB
       clear HI0
       have BK201 := n0_
       have HO204 := n1_
       have HO210 := n2_
       have HO213 := n3_
       have BK214 := n4_
       have HO240 := n5_
       have HK := n6_
       have HB := n7_
       have HI0 := n8_
       clear n0_ n1_ n2_ n3_ n4_ n5_ n6_ n7_ n8_
       (try clear hb)
       (try clear hb_1)
       (try clear hk)
       (try clear hi)
       refine hK.out _ _ ((zD BK214.out 0).trans rfl) (fun hHeld => ?_)
       clear hK K
       refine norm_ (a' := ?_) ?_ ?_
       rotate_left
       · show Act.put _ (some 52) _ = _
         simp only [Act.put, List.setIfInBounds_toArray, List.set_cons_zero, List.set_cons_succ, zva]
         rfl
       exact norm_ (by simp only [putAll, Act.put, List.setIfInBounds_toArray, List.set_cons_zero, List.set_cons_succ]) (hCont (v239) _ ⟨hHeld, (by (with_reducible repeat (first | apply Kd.zo | apply Kd.zq | apply Kd.zA)); exact Kd.zZ HO204.out (fun _ hk => hk.2)), (by (with_reducible repeat (first | apply Kd.zo | apply Kd.zq | apply Kd.zA)); exact Kd.zZ HO210.out (fun _ hk => hk.2)), (by (with_reducible repeat (first | apply Kd.zo | apply Kd.zq | apply Kd.zA)); exact HO213.out), (by (with_reducible repeat (first | apply Kd.zo | apply Kd.zq | apply Kd.zA)); exact HO240.out), (by (with_reducible repeat (first | refine zk ?_ _ | refine zm ?_ | refine zi ?_ _)); exact BK201.out), (by (with_reducible repeat (first | refine zk ?_ _ | refine zm ?_ | refine zi ?_ _)); exact BK214.out), (by repeat (first | (with_reducible first | exact HI0.out | apply za.alloc | apply za.drewN | apply za.drew | apply za.zca | apply za.zba | refine za.far ?_ NB0_201.out _ | refine za.far ?_ NB0_214.out _) | exact HI0.out)), (by repeat (first | (with_reducible first | exact HK.out | apply zn.set_ | apply zy | apply zF | apply zx | refine zS ?_ GW201.out _ | refine zS ?_ GW214.out _) | exact HK.out)), (by repeat (first | (with_reducible first | exact HB.out | apply zg | apply ze | apply zf | refine zh ?_ (za.ge HI0.out) | refine zh ?_ GE201.out | refine zh ?_ GE214.out) | exact HB.out))⟩)
   rintro v239 w_11 ⟨hS_, h0_, h1_, h2_, h3_, h4_, h5_, h6_, h7_, h8_⟩
   have n0_ : zb (Kd.R Kd.string 9 w_11 w.heap.size (fun k_ => some k_ ≠ (.slice Ao_2 t207.length co_2 : Value).ownBlock) (.slice Ao_1 t202.length co_1) t202) := ⟨h0_⟩
   have n1_ : zb (Kd.R Kd.string 9 w_11 w.heap.size (fun k_ => some k_ ≠ (.slice Ao_1 t202.length co_1 : Value).ownBlock) (.slice Ao_2 t207.length co_2) t207) := ⟨h1_⟩
   have n2_ : zb (Kd.R zXa 73 w_11 w.heap.size (fun _ => True) (.slice Ao_3 t211.length co_3) t211) := ⟨h2_⟩
   have n3_ : zb (Kd.R (Kd.int .i64) 3 w_11 w.heap.size (fun _ => True) v239 y238) := ⟨h3_⟩
   have n4_ : zb (w_11.heap[gb201]? = some (.cells #[.slice none 0 0] 26 (0, 0))) := ⟨h4_⟩
   have n5_ : zb (w_11.heap[gb214]? = some (.cells #[.slice Ao_3 t211.length co_3] 26 (0, 0))) := ⟨h5_⟩
   have n6_ : zb (za w0 w_11 g s0_0 t236 t237) := ⟨h6_⟩
   have n7_ : zb (zn w w_11 g none) := ⟨h7_⟩
   have n8_ : zb (Below w0.heap.size w0 w_11) := ⟨h8_⟩
   clear HO204
   clear HO210
   clear HO213
   clear BK201
   clear BK214
   clear HI0
   clear HK
   clear HB
   clear h0_ h1_ h2_ h3_ h4_ h5_ h6_ h7_ h8_
   have HO204 := n0_
   have HO210 := n1_
   have HO213 := n2_
   have HO240 := n3_
   have BK201 := n4_
   have BK214 := n5_
   have HI0 := n6_
   have HK := n7_
   have HB := n8_
   clear n0_ n1_ n2_ n3_ n4_ n5_ n6_ n7_ n8_
   have hHeld : w_11.cell? ⟨gb214, 0, none⟩ = some (.slice Ao_3 t211.length co_3) := hS_
   obtain ⟨Ao_4, co_4, eo_4⟩ := Kd.zpa HO240.out
   (first | subst eo_4 | (injection eo_4 with f1_ f2_ f3_; have f4_ := f1_.symm; have f5_ := f3_.symm; clear f1_ f2_ f3_; subst f4_; subst f5_))
   refine norm_ (a' := ?_) ?_ ?_
   rotate_left
   · simp only [putAll, Act.put, List.setIfInBounds_toArray, List.set_cons_zero, List.set_cons_succ]
     rfl
   refine one_ (i := 8) (N := some 56) #[true, true, true, true, true, true, true, true, true, false, false, false] rfl rfl (one_of HT_.out (by kernel_rfl)) (by decide) (fun K hK => ?_)
   refine goes_ Tryz.func155 (by kernel_rfl) rfl #[.pointer (some ⟨g, 0, none⟩), .slice Ao_4 y238.length co_4] (by rfl) rfl rfl (by (try simp only [List.map_toArray, List.map_cons, List.map_nil]); first | done | rfl | (simp only [List.length_drop, List.length_take]; rfl)) ?_
   with_reducible refine (zaa.calls g s0_0 t236 t237 _ _ y238 t241 t242 t243 w0 _ ?side1 ?side2 ?side3 ?side4 ?side5 A65.out).mono ?_
   (case side1 => repeat (first | (with_reducible first | exact HI0.out | apply za.alloc | apply za.drewN | apply za.drew | apply za.zca | apply za.zba | refine za.far ?_ NB0_201.out _ | refine za.far ?_ NB0_214.out _) | exact HI0.out))
   (case side2 => repeat (first | (with_reducible first | exact HB.out | apply zg | apply ze | apply zf | refine zh ?_ (za.ge HI0.out) | refine zh ?_ GE201.out | refine zh ?_ GE214.out) | exact HB.out))
   (case side3 => repeat (first | exact (Kd.zQ HO240.out).2.2 | (with_reducible refine Kd.zga ?_ _) | (with_reducible refine Kd.zia ?_ _) | (with_reducible refine Kd.zAa ?_)))
   (case side4 => exact (Kd.zQ HO240.out).2.1)
   (case side5 => exact far_slice (za.own_ne HI0.out HO240.out (by decide)))
   rintro e w_12 ⟨rfl, hi, hb, hk⟩
   refine ⟨_, rfl, ?_⟩
   have n0_ := zb.mk (zn.blk hk (g' := gb201) (o := .cells #[.slice none 0 0] 26 (0, 0)) (by (with_reducible repeat (first | refine zk ?_ _ | refine zm ?_ | refine zi ?_ _)); exact BK201.out) NB201_0.out (by simp))
   have n1_ := zb.mk (Kd.zZ (Kd.zGa (za.apart (show za w0 _ g s0_0 t236 t237 from by repeat (first | (with_reducible first | exact HI0.out | apply za.alloc | apply za.drewN | apply za.drew | apply za.zca | apply za.zba | refine za.far ?_ NB0_201.out _ | refine za.far ?_ NB0_214.out _) | exact HI0.out)) (by (with_reducible repeat (first | apply Kd.zo | apply Kd.zq | apply Kd.zA)); exact HO204.out) (by decide)) hk (fun _ h => h.2)) (fun _ h => h.1))
   have n2_ := zb.mk (Kd.zZ (Kd.zGa (za.apart (show za w0 _ g s0_0 t236 t237 from by repeat (first | (with_reducible first | exact HI0.out | apply za.alloc | apply za.drewN | apply za.drew | apply za.zca | apply za.zba | refine za.far ?_ NB0_201.out _ | refine za.far ?_ NB0_214.out _) | exact HI0.out)) (by (with_reducible repeat (first | apply Kd.zo | apply Kd.zq | apply Kd.zA)); exact HO210.out) (by decide)) hk (fun _ h => h.2)) (fun _ h => h.1))
   have n3_ := zb.mk (Kd.zZ (Kd.zGa (za.apart (show za w0 _ g s0_0 t236 t237 from by repeat (first | (with_reducible first | exact HI0.out | apply za.alloc | apply za.drewN | apply za.drew | apply za.zca | apply za.zba | refine za.far ?_ NB0_201.out _ | refine za.far ?_ NB0_214.out _) | exact HI0.out)) (by (with_reducible repeat (first | apply Kd.zo | apply Kd.zq | apply Kd.zA)); exact HO213.out) (by decide)) hk (fun _ h => h.2)) (fun _ h => h.1))
   have n4_ := zb.mk (zn.blk hk (g' := gb214) (o := .cells #[.slice Ao_3 t211.length co_3] 26 (0, 0)) (by (with_reducible repeat (first | refine zk ?_ _ | refine zm ?_ | refine zi ?_ _)); exact BK214.out) NB214_0.out (by simp))
   have n5_ := zb.mk (Kd.zZ (Kd.zGa (za.apart (show za w0 _ g s0_0 t236 t237 from by repeat (first | (with_reducible first | exact HI0.out | apply za.alloc | apply za.drewN | apply za.drew | apply za.zca | apply za.zba | refine za.far ?_ NB0_201.out _ | refine za.far ?_ NB0_214.out _) | exact HI0.out)) (by (with_reducible repeat (first | apply Kd.zo | apply Kd.zq | apply Kd.zA)); exact HO240.out) (by decide)) hk (fun _ h => h.2)) (fun _ h => h.1))
   have n6_ := zb.mk (zn.trans (by repeat (first | (with_reducible first | exact HK.out | apply zn.set_ | apply zy | apply zF | apply zx | refine zS ?_ GW201.out _ | refine zS ?_ GW214.out _) | exact HK.out)) hk (.inl rfl))
   have n7_ := zb.mk (hb)
   have n8_ := zb.mk (hi)
   clear BK201
   clear HO204
   clear HO210
   clear HO213
   clear BK214
   clear HO240
   clear HK
   clear HB
   clear HI0
   have BK201 := n0_
   have HO204 := n1_
   have HO210 := n2_
   have HO213 := n3_
   have BK214 := n4_
   have HO240 := n5_
   have HK := n6_
   have HB := n7_
   have HI0 := n8_
   clear n0_ n1_ n2_ n3_ n4_ n5_ n6_ n7_ n8_
   (try clear hb)
   (try clear hb_1)
   (try clear hk)
   (try clear hi)
   have p68 : 0 ≤ (t235 : Int) := of_decide_eq_true (by first | (with_reducible assumption) | assumption)
   have q68 : (t235 : Int) < ((t211.length : Int) : Int) := of_decide_eq_true (by first | (with_reducible assumption) | assumption)
   obtain ⟨go68, co_5, eo_5, gb68, gl68, cl68, HG68⟩ := Kd.R_form HO213.out (by omega)
   (first | cases eo_5 | (injection eo_5 with ea_ en_ ec_; (first | subst ea_ | (injection ea_ with ea_; subst ea_)); subst ec_; clear en_))
   have GB68 := zb.mk gb68
   have GG68 := zb.mk HG68
   clear gb68 gl68 HG68
   obtain ⟨ce68, hcl_1, hM68, hcc_1, hfr_1⟩ := Kd.R_elem HO213.out z_Node (t235 : Int) p68 q68
   obtain rfl := k_Node_openM hM68
   have hx_1_0 : World.cell? _ ⟨go68, (t235 : Int).toNat * 3, none⟩ = some (.int .i64 ((zl t211 t235).f0)) := hcc_1 0 _ rfl
   have hx_1_1 : World.cell? _ ⟨go68, (t235 : Int).toNat * 3 + 1, none⟩ = some (.int .i64 ((zl t211 t235).f1)) := hcc_1 1 _ rfl
   have hx_1_2 : World.cell? _ ⟨go68, (t235 : Int).toNat * 3 + 2, none⟩ = some (.bool ((zl t211 t235).f2)) := hcc_1 2 _ rfl
   have hf_1_0 : World.frozen? _ ⟨go68, (t235 : Int).toNat * 3, none⟩ = false := hfr_1 0
   have hf_1_1 : World.frozen? _ ⟨go68, (t235 : Int).toNat * 3 + 1, none⟩ = false := hfr_1 1
   have hf_1_2 : World.frozen? _ ⟨go68, (t235 : Int).toNat * 3 + 2, none⟩ = false := hfr_1 2
   clear hcl_1 hcc_1 hfr_1 hM68
   replace p68 := eq_true p68
   replace q68 := eq_true q68
   have HN0_go68 := zb.mk (show g ≠ go68 from by have h_ := za.own_ne HI0.out HO213.out (by decide); intro e_; exact h_ (by rw [e_]; rfl))
   obtain ⟨ce88, hcl_2, hM88, hcc_2, hfr_2⟩ := Kd.R_elem HO213.out z_Node (t235 : Int) (of_decide_eq_true (by first | (with_reducible assumption) | assumption)) (by have h_ : (t235 : Int) < ((t211.length : Int) : Int) := of_decide_eq_true (by first | (with_reducible assumption) | assumption); first | exact h_ | (have e_ := (Kd.zQ HO213.out).1; omega) | simpa using h_)
   obtain rfl := k_Node_openM hM88
   have HP88 := (Kd.R_seg HO213.out (t235 : Int) (of_decide_eq_true (by first | (with_reducible assumption) | assumption)) (by have h_ : (t235 : Int) < ((t211.length : Int) : Int) := of_decide_eq_true (by first | (with_reducible assumption) | assumption); first | exact h_ | (have e_ := (Kd.zQ HO213.out).1; omega) | simpa using h_) (seg := [.int .i64 t241]) (j := 1) hcl_2 hcc_2 (show 2 ≤ 3 from by decide) (x' := (⟨(zl t211 t235).f0, t241, (zl t211 t235).f2⟩ : zL)) (k_Node_mkM _ _ _ (⟨(zl t211 t235).f0, t241, (zl t211 t235).f2⟩ : zL) ) (fun _ hk => hk)).1
   rw [← Ny244.out] at HP88
   have HQ88 := zb.mk HP88
   clear hcl_2 hcc_2 hfr_2 hM88 HP88
   refine hK.out _ _ ((zD BK214.out 0).trans rfl) (fun hHeld => ?_)
   clear hK K
   refine norm_ (a' := ?_) ?_ ?_
   rotate_left
   · show Act.put _ (some 56) _ = _
     simp only [Act.put, List.setIfInBounds_toArray, List.set_cons_zero, List.set_cons_succ, zva]
     rfl
   refine zib (i := 9) (N := some 57) (v := ?_) (a' := ?_) #[true, true, true, true, true, true, true, true, true, true, false, false] rfl rfl (zVa HT_.out (by kernel_rfl)) (fun _ _ _ h => h) (Or.inl ⟨by rfl, ?_⟩) ?_ ?_
   rotate_left
   · intro w'
     go_simp
     with_reducible rfl
   rotate_left
   · simp only [Act.put, List.setIfInBounds_toArray, List.set_cons_zero, List.set_cons_succ, zva]
     rfl
   refine zib (i := 10) (N := some 58) (v := ?_) (a' := ?_) #[true, true, true, true, true, true, true, true, true, true, true, false] rfl rfl (zVa HT_.out (by kernel_rfl)) (fun _ _ _ h => h) (Or.inl ⟨by rfl, ?_⟩) ?_ ?_
   rotate_left
   · intro w'
     go_simp
     with_reducible rfl
   rotate_left
   · simp only [Act.put, List.setIfInBounds_toArray, List.set_cons_zero, List.set_cons_succ, zva]
     rfl
   refine last_ (i := 11) (N := none) #[true, true, true, true, true, true, true, true, true, true, true, true] rfl rfl (one_of HT_.out (by kernel_rfl)) (by decide) (fun K hK => ?_)
   refine skip_ (w1 := ?_) (by rfl) rfl ?_ ?_
   rotate_left
   · go_simp
     rfl
   refine hK.out _ _ ?_
   clear hK K
   refine done_ (done_of HT_.out (by kernel_rfl)) ?_
   have n0_ : zb (Kd.R Kd.string 9 (w_12.setCell ⟨go68, (t235 : Int).toNat * 3 + 1, none⟩ (.int .i64 t241)) w.heap.size (fun k_ => some k_ ≠ (.slice Ao_2 t207.length co_2 : Value).ownBlock) (.slice Ao_1 t202.length co_1) t202) := ⟨by (with_reducible repeat (first | apply Kd.zo | apply Kd.zq | apply Kd.zA)); exact Kd.zZ (Kd.R_far (p := ⟨go68, (t235 : Int).toNat * 3 + 1, none⟩) (Kd.zUa HO204.out GG68.out (by decide)) (fun _ hk => hk.2) (.int .i64 t241)) (fun _ hk => hk.1)⟩
   have n1_ : zb (Kd.R Kd.string 9 (w_12.setCell ⟨go68, (t235 : Int).toNat * 3 + 1, none⟩ (.int .i64 t241)) w.heap.size (fun k_ => some k_ ≠ (.slice Ao_1 t202.length co_1 : Value).ownBlock) (.slice Ao_2 t207.length co_2) t207) := ⟨by (with_reducible repeat (first | apply Kd.zo | apply Kd.zq | apply Kd.zA)); exact Kd.zZ (Kd.R_far (p := ⟨go68, (t235 : Int).toNat * 3 + 1, none⟩) (Kd.zUa HO210.out GG68.out (by decide)) (fun _ hk => hk.2) (.int .i64 t241)) (fun _ hk => hk.1)⟩
   have n2_ : zb (Kd.R zXa 73 (w_12.setCell ⟨go68, (t235 : Int).toNat * 3 + 1, none⟩ (.int .i64 t241)) w.heap.size (fun _ => True) (.slice (some ⟨go68, 0, none⟩) t211.length co_3) y244) := ⟨by (with_reducible repeat (first | apply Kd.zo | apply Kd.zq | apply Kd.zA)); exact HQ88.out⟩
   have n3_ : zb (Kd.R (Kd.int .i64) 3 (w_12.setCell ⟨go68, (t235 : Int).toNat * 3 + 1, none⟩ (.int .i64 t241)) w.heap.size (fun _ => True) (.slice Ao_4 y238.length co_4) y238) := ⟨by (with_reducible repeat (first | apply Kd.zo | apply Kd.zq | apply Kd.zA)); exact Kd.zZ (Kd.R_far (p := ⟨go68, (t235 : Int).toNat * 3 + 1, none⟩) (Kd.zUa HO240.out GG68.out (by decide)) (fun _ hk => hk.2) (.int .i64 t241)) (fun _ hk => trivial)⟩
   have n4_ : zb ((w_12.setCell ⟨go68, (t235 : Int).toNat * 3 + 1, none⟩ (.int .i64 t241)).heap[gb201]? = some (.cells #[.slice none 0 0] 26 (0, 0))) := ⟨by (with_reducible repeat (first | refine zk ?_ _ | refine zm ?_ | refine zi ?_ _)); refine blk_far ?_ (by have h_ := Kd.R_ne HO213.out BK201.out (by decide); intro e_; exact h_ (by rw [e_]; rfl)) _; (with_reducible repeat (first | refine zk ?_ _ | refine zm ?_ | refine zi ?_ _)); exact BK201.out⟩
   have n5_ : zb ((w_12.setCell ⟨go68, (t235 : Int).toNat * 3 + 1, none⟩ (.int .i64 t241)).heap[gb214]? = some (.cells #[.slice (some ⟨go68, 0, none⟩) t211.length co_3] 26 (0, 0))) := ⟨by (with_reducible repeat (first | refine zk ?_ _ | refine zm ?_ | refine zi ?_ _)); refine blk_far ?_ (by have h_ := Kd.R_ne HO213.out BK214.out (by decide); intro e_; exact h_ (by rw [e_]; rfl)) _; (with_reducible repeat (first | refine zk ?_ _ | refine zm ?_ | refine zi ?_ _)); exact BK214.out⟩
   have n6_ : zb (za w0 (w_12.setCell ⟨go68, (t235 : Int).toNat * 3 + 1, none⟩ (.int .i64 t241)) g s0_0 t242 t243) := ⟨by repeat (first | (with_reducible first | exact HI0.out | apply za.alloc | apply za.drewN | apply za.drew | apply za.zca | apply za.zba | refine za.far ?_ HN0_go68.out _ | refine za.far ?_ NB0_201.out _ | refine za.far ?_ NB0_214.out _) | exact HI0.out)⟩
   have n7_ : zb (zn w (w_12.setCell ⟨go68, (t235 : Int).toNat * 3 + 1, none⟩ (.int .i64 t241)) g none) := ⟨by repeat (first | (with_reducible first | exact HK.out | apply zn.set_ | apply zy | apply zF | apply zx | refine zS ?_ GB68.out _ | refine zS ?_ GW201.out _ | refine zS ?_ GW214.out _) | exact HK.out)⟩
   have n8_ : zb (Below w0.heap.size w0 (w_12.setCell ⟨go68, (t235 : Int).toNat * 3 + 1, none⟩ (.int .i64 t241))) := ⟨by repeat (first | (with_reducible first | exact HB.out | apply zg | apply ze | apply zf | refine zh ?_ (Nat.le_trans HL.out GB68.out) | refine zh ?_ (za.ge HI0.out) | refine zh ?_ GE201.out | refine zh ?_ GE214.out) | exact HB.out)⟩
   (try clear HO204)
   (try clear HO210)
   (try clear HO213)
   (try clear HO240)
   (try clear BK201)
   (try clear BK214)
   (try clear HI0)
   (try clear HK)
   (try clear HB)
   generalize (w_12.setCell ⟨go68, (t235 : Int).toNat * 3 + 1, none⟩ (.int .i64 t241)) = w_13 at n0_ n1_ n2_ n3_ n4_ n5_ n6_ n7_ n8_ ⊢
   have HO204 := n0_
   have HO210 := n1_
   have HO213 := n2_
   have HO240 := n3_
   have BK201 := n4_
   have BK214 := n5_
   have HI0 := n6_
   have HK := n7_
   have HB := n8_
   clear n0_ n1_ n2_ n3_ n4_ n5_ n6_ n7_ n8_
   have hcz_2_0 : w_13.cell? ⟨gb214, 0, none⟩ = some (.slice (some ⟨go68, 0, none⟩) t211.length co_3) := (zD BK214.out 0).trans rfl
   have hfz_2_0 := zz BK214.out 0
   have hnb_3 := NB201_0.out
   have hnc_3 := NB0_201.out
   have hcz_3_0 : w_13.cell? ⟨gb201, 0, none⟩ = some (.slice none 0 0) := (zD BK201.out 0).trans rfl
   have hfz_3_0 := zz BK201.out 0
   try go_wp2
   refine bodyPost_ret (results_cell_row rfl _ _ gb201 26 #[.slice (some ⟨go68, 0, none⟩) t211.length co_3] (0, 0) _ rfl (by (with_reducible repeat (first | refine zk ?_ _ | refine zm ?_ | refine zi ?_ _)); refine blk_put (cs := #[.slice none 0 0]) ?_ 0 _ rfl; (with_reducible repeat (first | refine zk ?_ _ | refine zm ?_ | refine zi ?_ _)); exact BK201.out) Tryz.underlying26 rfl (by kernel_rfl)) rfl ?_
   exact ⟨_, by first | rfl | (simp [zC, zB] <;> rfl) | (simp [*, zC, zB] <;> rfl), by (with_reducible repeat (first | apply Kd.zo | apply Kd.zq | apply Kd.zA)); exact Kd.zZ (Kd.R_far (p := ⟨gb201, 0, none⟩) (Kd.zUa HO213.out BK201.out (by decide)) (fun _ hk => hk.2) (.slice (some ⟨go68, 0, none⟩) t211.length co_3)) (fun _ hk => trivial), by repeat (first | (with_reducible first | exact HI0.out | apply za.alloc | apply za.drewN | apply za.drew | apply za.zca | apply za.zba | refine za.far ?_ NB0_201.out _ | refine za.far ?_ NB0_214.out _) | exact HI0.out), by repeat (first | (with_reducible first | exact HB.out | apply zg | apply ze | apply zf | refine zh ?_ (za.ge HI0.out) | refine zh ?_ GE201.out | refine zh ?_ GE214.out) | exact HB.out), by repeat (first | (with_reducible first | exact HK.out | apply zn.set_ | apply zy | apply zF | apply zx | refine zS ?_ GW201.out _ | refine zS ?_ GW214.out _) | exact HK.out)⟩
  ·(first | (go_at_call 132; (with_reducible refine (zK.calls g s0_0 t205 t206 60 t215 t216 t217 w0 _ ?side1 ?side2 A6.out).mono ?_); (case side1 => repeat (first | (with_reducible first | exact HI0.out | apply za.alloc | apply za.drewN | apply za.drew | apply za.zca | apply za.zba | refine za.far ?_ NB0_201.out _ | refine za.far ?_ NB0_214.out _) | exact HI0.out)); (case side2 => repeat (first | (with_reducible first | exact HB.out | apply zg | apply ze | apply zf | refine zh ?_ (za.ge HI0.out) | refine zh ?_ GE201.out | refine zh ?_ GE214.out) | exact HB.out)); rintro e w_6 ⟨rfl, hi, hb, hk⟩; have n0_ := zb.mk (zn.blk hk (g' := gb201) (o := .cells #[.slice none 0 0] 26 (0, 0)) (by (with_reducible repeat (first | refine zk ?_ _ | refine zm ?_ | refine zi ?_ _)); refine blk_far ?_ NB201_214.out _; (with_reducible repeat (first | refine zk ?_ _ | refine zm ?_ | refine zi ?_ _)); exact BK201.out) NB201_0.out (by simp)); have n1_ := zb.mk (Kd.zZ (Kd.zGa (za.apart (show za w0 _ g s0_0 t205 t206 from by repeat (first | (with_reducible first | exact HI0.out | apply za.alloc | apply za.drewN | apply za.drew | apply za.zca | apply za.zba | refine za.far ?_ NB0_201.out _ | refine za.far ?_ NB0_214.out _) | exact HI0.out)) (by (with_reducible repeat (first | apply Kd.zo | apply Kd.zq | apply Kd.zA)); exact (Kd.zZ (Kd.R_far (p := ⟨gb214, 0, none⟩) (Kd.zUa HO204.out BK214.out (by decide)) (fun _ hk => hk.2) (.slice Ao_3 t211.length co_3)) (fun _ h_ => h_.1))) (by decide)) hk (fun _ h => h.2)) (fun _ h => h.1)); have n2_ := zb.mk (Kd.zZ (Kd.zGa (za.apart (show za w0 _ g s0_0 t205 t206 from by repeat (first | (with_reducible first | exact HI0.out | apply za.alloc | apply za.drewN | apply za.drew | apply za.zca | apply za.zba | refine za.far ?_ NB0_201.out _ | refine za.far ?_ NB0_214.out _) | exact HI0.out)) (by (with_reducible repeat (first | apply Kd.zo | apply Kd.zq | apply Kd.zA)); exact (Kd.zZ (Kd.R_far (p := ⟨gb214, 0, none⟩) (Kd.zUa HO210.out BK214.out (by decide)) (fun _ hk => hk.2) (.slice Ao_3 t211.length co_3)) (fun _ h_ => h_.1))) (by decide)) hk (fun _ h => h.2)) (fun _ h => h.1)); have n3_ := zb.mk (Kd.zZ (Kd.zGa (za.apart (show za w0 _ g s0_0 t205 t206 from by repeat (first | (with_reducible first | exact HI0.out | apply za.alloc | apply za.drewN | apply za.drew | apply za.zca | apply za.zba | refine za.far ?_ NB0_201.out _ | refine za.far ?_ NB0_214.out _) | exact HI0.out)) (by (with_reducible repeat (first | apply Kd.zo | apply Kd.zq | apply Kd.zA)); exact (Kd.zZ (Kd.R_far (p := ⟨gb214, 0, none⟩) (Kd.zUa HO213.out BK214.out (by decide)) (fun _ hk => hk.2) (.slice Ao_3 t211.length co_3)) (fun _ h_ => h_.1))) (by decide)) hk (fun _ h => h.2)) (fun _ h => h.1)); have n4_ := zb.mk (zn.blk hk (g' := gb214) (o := .cells #[.slice Ao_3 t211.length co_3] 26 (0, 0)) (by (with_reducible repeat (first | refine zk ?_ _ | refine zm ?_ | refine zi ?_ _)); refine blk_put (cs := #[.slice none 0 0]) ?_ 0 _ rfl; (with_reducible repeat (first | refine zk ?_ _ | refine zm ?_ | refine zi ?_ _)); exact BK214.out) NB214_0.out (by simp)); have n5_ := zb.mk (zn.trans (by repeat (first | (with_reducible first | exact HK.out | apply zn.set_ | apply zy | apply zF | apply zx | refine zS ?_ GW201.out _ | refine zS ?_ GW214.out _) | exact HK.out)) hk (.inl rfl)); have n6_ := zb.mk (hb); have n7_ := zb.mk (hi); clear BK201; clear HO204; clear HO210; clear HO213; clear BK214; clear HK; clear HB; clear HI0; have BK201 := n0_; have HO204 := n1_; have HO210 := n2_; have HO213 := n3_; have BK214 := n4_; have HK := n5_; have HB := n6_; have HI0 := n7_; clear n0_ n1_ n2_ n3_ n4_ n5_ n6_ n7_; (try clear hb); (try clear hb_1); (try clear hk); (try clear hi)) | skip); try go_wp2
   have n0_ := zb.mk (Kd.zA HO204.out)
   have n1_ := zb.mk (Kd.zA HO210.out)
   have n2_ := zb.mk (Kd.zA HO213.out)
   have n3_ := zb.mk (zm BK201.out)
   have n4_ := zb.mk (zm BK214.out)
   have n5_ := zb.mk (za.drew HI0.out)
   have n6_ := zb.mk (zF HK.out)
   have n7_ := zb.mk (zf HB.out)
   clear HO204
   clear HO210
   clear HO213
   clear BK201
   clear BK214
   clear HI0
   clear HK
   clear HB
   have HO204 := n0_
   have HO210 := n1_
   have HO213 := n2_
   have BK201 := n3_
   have BK214 := n4_
   have HI0 := n5_
   have HK := n6_
   have HB := n7_
   clear n0_ n1_ n2_ n3_ n4_ n5_ n6_ n7_
   refine start_ (n := 11) (S := fun w' => w'.cell? ⟨gb214, 0, none⟩ = some (.slice Ao_3 t211.length co_3)) (ds := [10]) #[false, false, false, false, false, false, false, false, false, false, false] (by kernel_rfl) rfl rfl ((zD BK214.out 0).trans rfl) (fun hHeld => ?_); refine with_tabW zP.tab10 zP.bits10 (fun HT_ HW_ => ?_)
   generalize w_6.drew = w_7 at HO204 HO210 HO213 BK201 BK214 HI0 HK HB hHeld ⊢
   refine zib (i := 0) (N := some 36) (v := ?_) (a' := ?_) #[true, false, false, false, false, false, false, false, false, false, false] rfl rfl (zVa HT_.out (by kernel_rfl)) (fun _ _ _ h => h) (Or.inl ⟨by rfl, ?_⟩) ?_ ?_
   rotate_left
   · intro w'
     go_simp
     with_reducible rfl
   rotate_left
   · simp only [Act.put, List.setIfInBounds_toArray, List.set_cons_zero, List.set_cons_succ, zva]
     rfl
   refine zib (i := 2) (N := some 38) (v := ?_) (a' := ?_) #[true, false, true, false, false, false, false, false, false, false, false] rfl rfl (zVa HT_.out (by kernel_rfl)) (fun _ _ _ h => h) (Or.inl ⟨by rfl, ?_⟩) ?_ ?_
   rotate_left
   · intro w'
     go_simp
     with_reducible rfl
   rotate_left
   · simp only [Act.put, List.setIfInBounds_toArray, List.set_cons_zero, List.set_cons_succ, zva]
     rfl
   refine zib (i := 3) (N := some 39) (v := ?_) (a' := ?_) #[true, false, true, true, false, false, false, false, false, false, false] rfl rfl (zVa HT_.out (by kernel_rfl)) (fun _ _ _ h => h) (Or.inl ⟨by rfl, ?_⟩) ?_ ?_
   rotate_left
   · intro w'
     go_simp
     with_reducible rfl
   rotate_left
   · simp only [Act.put, List.setIfInBounds_toArray, List.set_cons_zero, List.set_cons_succ, zva]
     rfl
   refine zib (i := 5) (N := some 41) (v := ?_) (a' := ?_) #[true, false, true, true, false, true, false, false, false, false, false] rfl rfl (zVa HT_.out (by kernel_rfl)) (fun _ _ _ h => h) (Or.inl ⟨by rfl, ?_⟩) ?_ ?_
   rotate_left
   · intro w'
     go_simp
     with_reducible rfl
   rotate_left
   · simp only [Act.put, List.setIfInBounds_toArray, List.set_cons_zero, List.set_cons_succ, zva]
     rfl
   refine take_ (i := 1) (N := some 37) (v := ?_) (a' := ?_) #[true, true, true, true, false, true, false, false, false, false, false] rfl rfl (take_ofW HT_.out HW_.out (by kernel_rfl)) (fun _ _ _ h => h) (Or.inl ⟨by rfl, ?_⟩) hHeld ?_ ?_
   rotate_left
   · intro w' s0
     go_simp
     with_reducible rfl
   rotate_left
   · simp only [Act.put, List.setIfInBounds_toArray, List.set_cons_zero, List.set_cons_succ, zva]
     rfl
   refine join_ (σ := Value) 4 #[true, true, true, true, true, true, true, false, false, false, false] (fun s_ => [(40, .int .i64 t225), (42, s_)]) (fun s_ w' => (w'.cell? ⟨gb214, 0, none⟩ = some (.slice Ao_3 t211.length co_3)) ∧ (Kd.R Kd.string 9 w' w.heap.size (fun k_ => some k_ ≠ (.slice Ao_2 t207.length co_2 : Value).ownBlock) (.slice Ao_1 t202.length co_1) t202) ∧ (Kd.R Kd.string 9 w' w.heap.size (fun k_ => some k_ ≠ (.slice Ao_1 t202.length co_1 : Value).ownBlock) (.slice Ao_2 t207.length co_2) t207) ∧ (Kd.R zXa 73 w' w.heap.size (fun _ => True) (.slice Ao_3 t211.length co_3) t211) ∧ (Kd.R (Kd.int .i64) 3 w' w.heap.size (fun _ => True) s_ y228) ∧ (w'.heap[gb201]? = some (.cells #[.slice none 0 0] 26 (0, 0))) ∧ (w'.heap[gb214]? = some (.cells #[.slice Ao_3 t211.length co_3] 26 (0, 0))) ∧ (za w0 w' g s0_0 t226 t227) ∧ (zn w w' g none) ∧ (Below w0.heap.size w0 w')) ?_ ?_
   rotate_left
   · intro hCont
     refine two_ (i := 4) (j := 6) (Ni := some 40) (Nj := some 42) #[true, true, true, true, true, true, false, false, false, false, false] #[true, true, true, true, false, true, true, false, false, false, false] rfl rfl rfl rfl (two_of HT_.out (by kernel_rfl)) (by decide) (by decide) (fun K hK => ?_) (fun K hK => ?_)
     · skip
       refine goes_ Tryz.func132 (by kernel_rfl) rfl #[.pointer (some ⟨g, 0, none⟩), .int .i64 (t211.length : Int)] (by rfl) rfl rfl (by (try simp only [List.map_toArray, List.map_cons, List.map_nil]); first | done | rfl | (simp only [List.length_drop, List.length_take]; rfl)) ?_
       with_reducible refine (zK.calls g s0_0 t216 t217 (t211.length : Int) t225 t226 t227 w0 _ ?side1 ?side2 A34.out).mono ?_
       (case side1 => repeat (first | (with_reducible first | exact HI0.out | apply za.alloc | apply za.drewN | apply za.drew | apply za.zca | apply za.zba | refine za.far ?_ NB0_201.out _ | refine za.far ?_ NB0_214.out _) | exact HI0.out))
       (case side2 => repeat (first | (with_reducible first | exact HB.out | apply zg | apply ze | apply zf | refine zh ?_ (za.ge HI0.out) | refine zh ?_ GE201.out | refine zh ?_ GE214.out) | exact HB.out))
       rintro e w_8 ⟨rfl, hi, hb, hk⟩
       refine ⟨_, rfl, ?_⟩
       have n0_ := zb.mk (zn.blk hk (g' := gb201) (o := .cells #[.slice none 0 0] 26 (0, 0)) (by (with_reducible repeat (first | refine zk ?_ _ | refine zm ?_ | refine zi ?_ _)); exact BK201.out) NB201_0.out (by simp))
       have n1_ := zb.mk (Kd.zZ (Kd.zGa (za.apart (show za w0 _ g s0_0 t216 t217 from by repeat (first | (with_reducible first | exact HI0.out | apply za.alloc | apply za.drewN | apply za.drew | apply za.zca | apply za.zba | refine za.far ?_ NB0_201.out _ | refine za.far ?_ NB0_214.out _) | exact HI0.out)) (by (with_reducible repeat (first | apply Kd.zo | apply Kd.zq | apply Kd.zA)); exact HO204.out) (by decide)) hk (fun _ h => h.2)) (fun _ h => h.1))
       have n2_ := zb.mk (Kd.zZ (Kd.zGa (za.apart (show za w0 _ g s0_0 t216 t217 from by repeat (first | (with_reducible first | exact HI0.out | apply za.alloc | apply za.drewN | apply za.drew | apply za.zca | apply za.zba | refine za.far ?_ NB0_201.out _ | refine za.far ?_ NB0_214.out _) | exact HI0.out)) (by (with_reducible repeat (first | apply Kd.zo | apply Kd.zq | apply Kd.zA)); exact HO210.out) (by decide)) hk (fun _ h => h.2)) (fun _ h => h.1))
       have n3_ := zb.mk (Kd.zZ (Kd.zGa (za.apart (show za w0 _ g s0_0 t216 t217 from by repeat (first | (with_reducible first | exact HI0.out | apply za.alloc | apply za.drewN | apply za.drew | apply za.zca | apply za.zba | refine za.far ?_ NB0_201.out _ | refine za.far ?_ NB0_214.out _) | exact HI0.out)) (by (with_reducible repeat (first | apply Kd.zo | apply Kd.zq | apply Kd.zA)); exact HO213.out) (by decide)) hk (fun _ h => h.2)) (fun _ h => h.1))
       have n4_ := zb.mk (zn.blk hk (g' := gb214) (o := .cells #[.slice Ao_3 t211.length co_3] 26 (0, 0)) (by (with_reducible repeat (first | refine zk ?_ _ | refine zm ?_ | refine zi ?_ _)); exact BK214.out) NB214_0.out (by simp))
       have n5_ := zb.mk (zn.trans (by repeat (first | (with_reducible first | exact HK.out | apply zn.set_ | apply zy | apply zF | apply zx | refine zS ?_ GW201.out _ | refine zS ?_ GW214.out _) | exact HK.out)) hk (.inl rfl))
       have n6_ := zb.mk (hb)
       have n7_ := zb.mk (hi)
       clear BK201
       clear HO204
       clear HO210
       clear HO213
       clear BK214
       clear HK
       clear HB
       clear HI0
       have BK201 := n0_
       have HO204 := n1_
       have HO210 := n2_
       have HO213 := n3_
       have BK214 := n4_
       have HK := n5_
       have HB := n6_
       have HI0 := n7_
       clear n0_ n1_ n2_ n3_ n4_ n5_ n6_ n7_
       (try clear hb)
       (try clear hb_1)
       (try clear hk)
       (try clear hi)
       refine hK.out _ _ ((zD BK214.out 0).trans rfl) (fun hHeld => ?_)
       clear hK K
       refine norm_ (a' := ?_) ?_ ?_
       rotate_left
       · show Act.put _ (some 40) _ = _
         simp only [Act.put, List.setIfInBounds_toArray, List.set_cons_zero, List.set_cons_succ, zva]
         rfl
       refine one_ (i := 6) (N := some 42) #[true, true, true, true, true, true, true, false, false, false, false] rfl rfl (one_of HT_.out (by kernel_rfl)) (by decide) (fun K hK => ?_)
       refine Kd.R_lit_step (Kd.int .i64) _ 3 ?hg (N := 42) ?hd (xs := ([(-1), 26, 0, 3] : List Int)) (inner := [.int .i64 (-1), .int .i64 26, .int .i64 0, .int .i64 3]) (ok := fun _ => True) (okp := fun _ => True) ?hr ?hp (fun _ hk => hk) trivial (Below.refl _ _) (Nat.le_refl _) (by simp) ?_; (case hd => rfl); (case hg => rfl); (case hr => first | (go_simp; done) | (go_simp; rfl)); (case hp => exact (Reps.one (show Kd.M (Kd.int .i64) _ _ _ (-1) [.int .i64 (-1)] from rfl) (Reps.one (show Kd.M (Kd.int .i64) _ _ _ 26 [.int .i64 26] from rfl) (Reps.one (show Kd.M (Kd.int .i64) _ _ _ 0 [.int .i64 0] from rfl) (Reps.one (show Kd.M (Kd.int .i64) _ _ _ 3 [.int .i64 3] from rfl) (Reps.none _ _))))))
       intro v229 w_9 ho_2 hb hg_ hnew_
       clear hg_ hnew_
       (first | rw [← Ny228.out] at ho_2 | (simp only [Int.reduceToNat] at ho_2; rw [← Ny228.out] at ho_2))
       have n0_ := zb.mk (Kd.zta (by (with_reducible repeat (first | apply Kd.zo | apply Kd.zq | apply Kd.zA)); exact HO204.out) hb)
       have n1_ := zb.mk (Kd.zta (by (with_reducible repeat (first | apply Kd.zo | apply Kd.zq | apply Kd.zA)); exact HO210.out) hb)
       have n2_ := zb.mk (Kd.zta (by (with_reducible repeat (first | apply Kd.zo | apply Kd.zq | apply Kd.zA)); exact HO213.out) hb)
       have n3_ := zb.mk (Kd.zua ho_2 (zYa (w := w) (g := g) (row := none) (by repeat (first | (with_reducible first | exact HK.out | apply zn.set_ | apply zy | apply zF | apply zx | refine zS ?_ GW201.out _ | refine zS ?_ GW214.out _) | exact HK.out))))
       have n4_ := zb.mk (za.below (by repeat (first | (with_reducible first | exact HI0.out | apply za.alloc | apply za.drewN | apply za.drew | apply za.zca | apply za.zba | refine za.far ?_ NB0_201.out _ | refine za.far ?_ NB0_214.out _) | exact HI0.out)) hb)
       have n5_ := zb.mk (zG (g := gb201) (o := .cells #[.slice none 0 0] 26 (0, 0)) (by (with_reducible repeat (first | refine zk ?_ _ | refine zm ?_ | refine zi ?_ _)); exact BK201.out) hb)
       have n6_ := zb.mk (zG (g := gb214) (o := .cells #[.slice Ao_3 t211.length co_3] 26 (0, 0)) (by (with_reducible repeat (first | refine zk ?_ _ | refine zm ?_ | refine zi ?_ _)); exact BK214.out) hb)
       have n7_ := zb.mk (zn.trans (by repeat (first | (with_reducible first | exact HK.out | apply zn.set_ | apply zy | apply zF | apply zx | refine zS ?_ GW201.out _ | refine zS ?_ GW214.out _) | exact HK.out)) (zn.of_below hb g none) (.inl rfl))
       have n8_ := zb.mk (zw (by repeat (first | (with_reducible first | exact HB.out | apply zg | apply ze | apply zf | refine zh ?_ (za.ge HI0.out) | refine zh ?_ GE201.out | refine zh ?_ GE214.out) | exact HB.out)) hb)
       clear HO204
       clear HO210
       clear HO213
       clear HI0
       clear BK201
       clear BK214
       clear HK
       clear HB
       have HO204 := n0_
       have HO210 := n1_
       have HO213 := n2_
       have HO230 := n3_
       have HI0 := n4_
       have BK201 := n5_
       have BK214 := n6_
       have HK := n7_
       have HB := n8_
       clear n0_ n1_ n2_ n3_ n4_ n5_ n6_ n7_ n8_
       clear hb ho_2
       refine hK.out _ _ ((zD BK214.out 0).trans rfl) (fun hHeld => ?_)
       clear hK K
       refine norm_ (a' := ?_) ?_ ?_
       rotate_left
       · show Act.put _ (some 42) _ = _
         simp only [Act.put, List.setIfInBounds_toArray, List.set_cons_zero, List.set_cons_succ, zva]
         rfl
       exact norm_ (by simp only [putAll, Act.put, List.setIfInBounds_toArray, List.set_cons_zero, List.set_cons_succ]) (hCont (v229) _ ⟨hHeld, (by (with_reducible repeat (first | apply Kd.zo | apply Kd.zq | apply Kd.zA)); exact Kd.zZ HO204.out (fun _ hk => hk.2)), (by (with_reducible repeat (first | apply Kd.zo | apply Kd.zq | apply Kd.zA)); exact Kd.zZ HO210.out (fun _ hk => hk.2)), (by (with_reducible repeat (first | apply Kd.zo | apply Kd.zq | apply Kd.zA)); exact HO213.out), (by (with_reducible repeat (first | apply Kd.zo | apply Kd.zq | apply Kd.zA)); exact HO230.out), (by (with_reducible repeat (first | refine zk ?_ _ | refine zm ?_ | refine zi ?_ _)); exact BK201.out), (by (with_reducible repeat (first | refine zk ?_ _ | refine zm ?_ | refine zi ?_ _)); exact BK214.out), (by repeat (first | (with_reducible first | exact HI0.out | apply za.alloc | apply za.drewN | apply za.drew | apply za.zca | apply za.zba | refine za.far ?_ NB0_201.out _ | refine za.far ?_ NB0_214.out _) | exact HI0.out)), (by repeat (first | (with_reducible first | exact HK.out | apply zn.set_ | apply zy | apply zF | apply zx | refine zS ?_ GW201.out _ | refine zS ?_ GW214.out _) | exact HK.out)), (by repeat (first | (with_reducible first | exact HB.out | apply zg | apply ze | apply zf | refine zh ?_ (za.ge HI0.out) | refine zh ?_ GE201.out | refine zh ?_ GE214.out) | exact HB.out))⟩)
     · skip
       refine Kd.R_lit_step (Kd.int .i64) _ 3 ?hg (N := 42) ?hd (xs := ([(-1), 26, 0, 3] : List Int)) (inner := [.int .i64 (-1), .int .i64 26, .int .i64 0, .int .i64 3]) (ok := fun _ => True) (okp := fun _ => True) ?hr ?hp (fun _ hk => hk) trivial (Below.refl _ _) (Nat.le_refl _) (by simp) ?_; (case hd => rfl); (case hg => rfl); (case hr => first | (go_simp; done) | (go_simp; rfl)); (case hp => exact (Reps.one (show Kd.M (Kd.int .i64) _ _ _ (-1) [.int .i64 (-1)] from rfl) (Reps.one (show Kd.M (Kd.int .i64) _ _ _ 26 [.int .i64 26] from rfl) (Reps.one (show Kd.M (Kd.int .i64) _ _ _ 0 [.int .i64 0] from rfl) (Reps.one (show Kd.M (Kd.int .i64) _ _ _ 3 [.int .i64 3] from rfl) (Reps.none _ _))))))
       intro v229 w_8 ho_3 hb hg_ hnew_
       clear hg_ hnew_
       (first | rw [← Ny228.out] at ho_3 | (simp only [Int.reduceToNat] at ho_3; rw [← Ny228.out] at ho_3))
       have n0_ := zb.mk (Kd.zta (by (with_reducible repeat (first | apply Kd.zo | apply Kd.zq | apply Kd.zA)); exact HO204.out) hb)
       have n1_ := zb.mk (Kd.zta (by (with_reducible repeat (first | apply Kd.zo | apply Kd.zq | apply Kd.zA)); exact HO210.out) hb)
       have n2_ := zb.mk (Kd.zta (by (with_reducible repeat (first | apply Kd.zo | apply Kd.zq | apply Kd.zA)); exact HO213.out) hb)
       have n3_ := zb.mk (Kd.zua ho_3 (zYa (w := w) (g := g) (row := none) (by repeat (first | (with_reducible first | exact HK.out | apply zn.set_ | apply zy | apply zF | apply zx | refine zS ?_ GW201.out _ | refine zS ?_ GW214.out _) | exact HK.out))))
       have n4_ := zb.mk (za.below (by repeat (first | (with_reducible first | exact HI0.out | apply za.alloc | apply za.drewN | apply za.drew | apply za.zca | apply za.zba | refine za.far ?_ NB0_201.out _ | refine za.far ?_ NB0_214.out _) | exact HI0.out)) hb)
       have n5_ := zb.mk (zG (g := gb201) (o := .cells #[.slice none 0 0] 26 (0, 0)) (by (with_reducible repeat (first | refine zk ?_ _ | refine zm ?_ | refine zi ?_ _)); exact BK201.out) hb)
       have n6_ := zb.mk (zG (g := gb214) (o := .cells #[.slice Ao_3 t211.length co_3] 26 (0, 0)) (by (with_reducible repeat (first | refine zk ?_ _ | refine zm ?_ | refine zi ?_ _)); exact BK214.out) hb)
       have n7_ := zb.mk (zn.trans (by repeat (first | (with_reducible first | exact HK.out | apply zn.set_ | apply zy | apply zF | apply zx | refine zS ?_ GW201.out _ | refine zS ?_ GW214.out _) | exact HK.out)) (zn.of_below hb g none) (.inl rfl))
       have n8_ := zb.mk (zw (by repeat (first | (with_reducible first | exact HB.out | apply zg | apply ze | apply zf | refine zh ?_ (za.ge HI0.out) | refine zh ?_ GE201.out | refine zh ?_ GE214.out) | exact HB.out)) hb)
       clear HO204
       clear HO210
       clear HO213
       clear HI0
       clear BK201
       clear BK214
       clear HK
       clear HB
       have HO204 := n0_
       have HO210 := n1_
       have HO213 := n2_
       have HO230 := n3_
       have HI0 := n4_
       have BK201 := n5_
       have BK214 := n6_
       have HK := n7_
       have HB := n8_
       clear n0_ n1_ n2_ n3_ n4_ n5_ n6_ n7_ n8_
       clear hb ho_3
       refine hK.out _ _ ((zD BK214.out 0).trans rfl) (fun hHeld => ?_)
       clear hK K
       refine norm_ (a' := ?_) ?_ ?_
       rotate_left
       · show Act.put _ (some 42) _ = _
         simp only [Act.put, List.setIfInBounds_toArray, List.set_cons_zero, List.set_cons_succ, zva]
         rfl
       refine one_ (i := 4) (N := some 40) #[true, true, true, true, true, true, true, false, false, false, false] rfl rfl (one_of HT_.out (by kernel_rfl)) (by decide) (fun K hK => ?_)
       refine goes_ Tryz.func132 (by kernel_rfl) rfl #[.pointer (some ⟨g, 0, none⟩), .int .i64 (t211.length : Int)] (by rfl) rfl rfl (by (try simp only [List.map_toArray, List.map_cons, List.map_nil]); first | done | rfl | (simp only [List.length_drop, List.length_take]; rfl)) ?_
       with_reducible refine (zK.calls g s0_0 t216 t217 (t211.length : Int) t225 t226 t227 w0 _ ?side1 ?side2 A34.out).mono ?_
       (case side1 => repeat (first | (with_reducible first | exact HI0.out | apply za.alloc | apply za.drewN | apply za.drew | apply za.zca | apply za.zba | refine za.far ?_ NB0_201.out _ | refine za.far ?_ NB0_214.out _) | exact HI0.out))
       (case side2 => repeat (first | (with_reducible first | exact HB.out | apply zg | apply ze | apply zf | refine zh ?_ (za.ge HI0.out) | refine zh ?_ GE201.out | refine zh ?_ GE214.out) | exact HB.out))
       rintro e w_10 ⟨rfl, hi, hb, hk⟩
       refine ⟨_, rfl, ?_⟩
       have n0_ := zb.mk (zn.blk hk (g' := gb201) (o := .cells #[.slice none 0 0] 26 (0, 0)) (by (with_reducible repeat (first | refine zk ?_ _ | refine zm ?_ | refine zi ?_ _)); exact BK201.out) NB201_0.out (by simp))
       have n1_ := zb.mk (Kd.zZ (Kd.zGa (za.apart (show za w0 _ g s0_0 t216 t217 from by repeat (first | (with_reducible first | exact HI0.out | apply za.alloc | apply za.drewN | apply za.drew | apply za.zca | apply za.zba | refine za.far ?_ NB0_201.out _ | refine za.far ?_ NB0_214.out _) | exact HI0.out)) (by (with_reducible repeat (first | apply Kd.zo | apply Kd.zq | apply Kd.zA)); exact HO204.out) (by decide)) hk (fun _ h => h.2)) (fun _ h => h.1))
       have n2_ := zb.mk (Kd.zZ (Kd.zGa (za.apart (show za w0 _ g s0_0 t216 t217 from by repeat (first | (with_reducible first | exact HI0.out | apply za.alloc | apply za.drewN | apply za.drew | apply za.zca | apply za.zba | refine za.far ?_ NB0_201.out _ | refine za.far ?_ NB0_214.out _) | exact HI0.out)) (by (with_reducible repeat (first | apply Kd.zo | apply Kd.zq | apply Kd.zA)); exact HO210.out) (by decide)) hk (fun _ h => h.2)) (fun _ h => h.1))
       have n3_ := zb.mk (Kd.zZ (Kd.zGa (za.apart (show za w0 _ g s0_0 t216 t217 from by repeat (first | (with_reducible first | exact HI0.out | apply za.alloc | apply za.drewN | apply za.drew | apply za.zca | apply za.zba | refine za.far ?_ NB0_201.out _ | refine za.far ?_ NB0_214.out _) | exact HI0.out)) (by (with_reducible repeat (first | apply Kd.zo | apply Kd.zq | apply Kd.zA)); exact HO213.out) (by decide)) hk (fun _ h => h.2)) (fun _ h => h.1))
       have n4_ := zb.mk (zn.blk hk (g' := gb214) (o := .cells #[.slice Ao_3 t211.length co_3] 26 (0, 0)) (by (with_reducible repeat (first | refine zk ?_ _ | refine zm ?_ | refine zi ?_ _)); exact BK214.out) NB214_0.out (by simp))
       have n5_ := zb.mk (Kd.zZ (Kd.zGa (za.apart (show za w0 _ g s0_0 t216 t217 from by repeat (first | (with_reducible first | exact HI0.out | apply za.alloc | apply za.drewN | apply za.drew | apply za.zca | apply za.zba | refine za.far ?_ NB0_201.out _ | refine za.far ?_ NB0_214.out _) | exact HI0.out)) (by (with_reducible repeat (first | apply Kd.zo | apply Kd.zq | apply Kd.zA)); exact HO230.out) (by decide)) hk (fun _ h => h.2)) (fun _ h => h.1))
       have n6_ := zb.mk (zn.trans (by repeat (first | (with_reducible first | exact HK.out | apply zn.set_ | apply zy | apply zF | apply zx | refine zS ?_ GW201.out _ | refine zS ?_ GW214.out _) | exact HK.out)) hk (.inl rfl))
       have n7_ := zb.mk (hb)
       have n8_ := zb.mk (hi)
       clear BK201
       clear HO204
       clear HO210
       clear HO213
       clear BK214
       clear HO230
       clear HK
       clear HB
       clear HI0
       have BK201 := n0_
       have HO204 := n1_
       have HO210 := n2_
       have HO213 := n3_
       have BK214 := n4_
       have HO230 := n5_
       have HK := n6_
       have HB := n7_
       have HI0 := n8_
       clear n0_ n1_ n2_ n3_ n4_ n5_ n6_ n7_ n8_
       (try clear hb)
       (try clear hb_1)
       (try clear hk)
       (try clear hi)
       refine hK.out _ _ ((zD BK214.out 0).trans rfl) (fun hHeld => ?_)
       clear hK K
       refine norm_ (a' := ?_) ?_ ?_
       rotate_left
       · show Act.put _ (some 40) _ = _
         simp only [Act.put, List.setIfInBounds_toArray, List.set_cons_zero, List.set_cons_succ, zva]
         rfl
       exact norm_ (by simp only [putAll, Act.put, List.setIfInBounds_toArray, List.set_cons_zero, List.set_cons_succ]) (hCont (v229) _ ⟨hHeld, (by (with_reducible repeat (first | apply Kd.zo | apply Kd.zq | apply Kd.zA)); exact Kd.zZ HO204.out (fun _ hk => hk.2)), (by (with_reducible repeat (first | apply Kd.zo | apply Kd.zq | apply Kd.zA)); exact Kd.zZ HO210.out (fun _ hk => hk.2)), (by (with_reducible repeat (first | apply Kd.zo | apply Kd.zq | apply Kd.zA)); exact HO213.out), (by (with_reducible repeat (first | apply Kd.zo | apply Kd.zq | apply Kd.zA)); exact HO230.out), (by (with_reducible repeat (first | refine zk ?_ _ | refine zm ?_ | refine zi ?_ _)); exact BK201.out), (by (with_reducible repeat (first | refine zk ?_ _ | refine zm ?_ | refine zi ?_ _)); exact BK214.out), (by repeat (first | (with_reducible first | exact HI0.out | apply za.alloc | apply za.drewN | apply za.drew | apply za.zca | apply za.zba | refine za.far ?_ NB0_201.out _ | refine za.far ?_ NB0_214.out _) | exact HI0.out)), (by repeat (first | (with_reducible first | exact HK.out | apply zn.set_ | apply zy | apply zF | apply zx | refine zS ?_ GW201.out _ | refine zS ?_ GW214.out _) | exact HK.out)), (by repeat (first | (with_reducible first | exact HB.out | apply zg | apply ze | apply zf | refine zh ?_ (za.ge HI0.out) | refine zh ?_ GE201.out | refine zh ?_ GE214.out) | exact HB.out))⟩)
   rintro v229 w_11 ⟨hS_, h0_, h1_, h2_, h3_, h4_, h5_, h6_, h7_, h8_⟩
   have n0_ : zb (Kd.R Kd.string 9 w_11 w.heap.size (fun k_ => some k_ ≠ (.slice Ao_2 t207.length co_2 : Value).ownBlock) (.slice Ao_1 t202.length co_1) t202) := ⟨h0_⟩
   have n1_ : zb (Kd.R Kd.string 9 w_11 w.heap.size (fun k_ => some k_ ≠ (.slice Ao_1 t202.length co_1 : Value).ownBlock) (.slice Ao_2 t207.length co_2) t207) := ⟨h1_⟩
   have n2_ : zb (Kd.R zXa 73 w_11 w.heap.size (fun _ => True) (.slice Ao_3 t211.length co_3) t211) := ⟨h2_⟩
   have n3_ : zb (Kd.R (Kd.int .i64) 3 w_11 w.heap.size (fun _ => True) v229 y228) := ⟨h3_⟩
   have n4_ : zb (w_11.heap[gb201]? = some (.cells #[.slice none 0 0] 26 (0, 0))) := ⟨h4_⟩
   have n5_ : zb (w_11.heap[gb214]? = some (.cells #[.slice Ao_3 t211.length co_3] 26 (0, 0))) := ⟨h5_⟩
   have n6_ : zb (za w0 w_11 g s0_0 t226 t227) := ⟨h6_⟩
   have n7_ : zb (zn w w_11 g none) := ⟨h7_⟩
   have n8_ : zb (Below w0.heap.size w0 w_11) := ⟨h8_⟩
   clear HO204
   clear HO210
   clear HO213
   clear BK201
   clear BK214
   clear HI0
   clear HK
   clear HB
   clear h0_ h1_ h2_ h3_ h4_ h5_ h6_ h7_ h8_
   have HO204 := n0_
   have HO210 := n1_
   have HO213 := n2_
   have HO230 := n3_
   have BK201 := n4_
   have BK214 := n5_
   have HI0 := n6_
   have HK := n7_
   have HB := n8_
   clear n0_ n1_ n2_ n3_ n4_ n5_ n6_ n7_ n8_
   have hHeld : w_11.cell? ⟨gb214, 0, none⟩ = some (.slice Ao_3 t211.length co_3) := hS_
   obtain ⟨Ao_4, co_4, eo_4⟩ := Kd.zpa HO230.out
   (first | subst eo_4 | (injection eo_4 with f1_ f2_ f3_; have f4_ := f1_.symm; have f5_ := f3_.symm; clear f1_ f2_ f3_; subst f4_; subst f5_))
   refine norm_ (a' := ?_) ?_ ?_
   rotate_left
   · simp only [putAll, Act.put, List.setIfInBounds_toArray, List.set_cons_zero, List.set_cons_succ]
     rfl
   refine one_ (i := 7) (N := some 43) #[true, true, true, true, true, true, true, true, false, false, false] rfl rfl (one_of HT_.out (by kernel_rfl)) (by decide) (fun K hK => ?_)
   refine goes_ Tryz.func155 (by kernel_rfl) rfl #[.pointer (some ⟨g, 0, none⟩), .slice Ao_4 y228.length co_4] (by rfl) rfl rfl (by (try simp only [List.map_toArray, List.map_cons, List.map_nil]); first | done | rfl | (simp only [List.length_drop, List.length_take]; rfl)) ?_
   with_reducible refine (zaa.calls g s0_0 t226 t227 _ _ y228 t231 t232 t233 w0 _ ?side1 ?side2 ?side3 ?side4 ?side5 A35.out).mono ?_
   (case side1 => repeat (first | (with_reducible first | exact HI0.out | apply za.alloc | apply za.drewN | apply za.drew | apply za.zca | apply za.zba | refine za.far ?_ NB0_201.out _ | refine za.far ?_ NB0_214.out _) | exact HI0.out))
   (case side2 => repeat (first | (with_reducible first | exact HB.out | apply zg | apply ze | apply zf | refine zh ?_ (za.ge HI0.out) | refine zh ?_ GE201.out | refine zh ?_ GE214.out) | exact HB.out))
   (case side3 => repeat (first | exact (Kd.zQ HO230.out).2.2 | (with_reducible refine Kd.zga ?_ _) | (with_reducible refine Kd.zia ?_ _) | (with_reducible refine Kd.zAa ?_)))
   (case side4 => exact (Kd.zQ HO230.out).2.1)
   (case side5 => exact far_slice (za.own_ne HI0.out HO230.out (by decide)))
   rintro e w_12 ⟨rfl, hi, hb, hk⟩
   refine ⟨_, rfl, ?_⟩
   have n0_ := zb.mk (zn.blk hk (g' := gb201) (o := .cells #[.slice none 0 0] 26 (0, 0)) (by (with_reducible repeat (first | refine zk ?_ _ | refine zm ?_ | refine zi ?_ _)); exact BK201.out) NB201_0.out (by simp))
   have n1_ := zb.mk (Kd.zZ (Kd.zGa (za.apart (show za w0 _ g s0_0 t226 t227 from by repeat (first | (with_reducible first | exact HI0.out | apply za.alloc | apply za.drewN | apply za.drew | apply za.zca | apply za.zba | refine za.far ?_ NB0_201.out _ | refine za.far ?_ NB0_214.out _) | exact HI0.out)) (by (with_reducible repeat (first | apply Kd.zo | apply Kd.zq | apply Kd.zA)); exact HO204.out) (by decide)) hk (fun _ h => h.2)) (fun _ h => h.1))
   have n2_ := zb.mk (Kd.zZ (Kd.zGa (za.apart (show za w0 _ g s0_0 t226 t227 from by repeat (first | (with_reducible first | exact HI0.out | apply za.alloc | apply za.drewN | apply za.drew | apply za.zca | apply za.zba | refine za.far ?_ NB0_201.out _ | refine za.far ?_ NB0_214.out _) | exact HI0.out)) (by (with_reducible repeat (first | apply Kd.zo | apply Kd.zq | apply Kd.zA)); exact HO210.out) (by decide)) hk (fun _ h => h.2)) (fun _ h => h.1))
   have n3_ := zb.mk (Kd.zZ (Kd.zGa (za.apart (show za w0 _ g s0_0 t226 t227 from by repeat (first | (with_reducible first | exact HI0.out | apply za.alloc | apply za.drewN | apply za.drew | apply za.zca | apply za.zba | refine za.far ?_ NB0_201.out _ | refine za.far ?_ NB0_214.out _) | exact HI0.out)) (by (with_reducible repeat (first | apply Kd.zo | apply Kd.zq | apply Kd.zA)); exact HO213.out) (by decide)) hk (fun _ h => h.2)) (fun _ h => h.1))
   have n4_ := zb.mk (zn.blk hk (g' := gb214) (o := .cells #[.slice Ao_3 t211.length co_3] 26 (0, 0)) (by (with_reducible repeat (first | refine zk ?_ _ | refine zm ?_ | refine zi ?_ _)); exact BK214.out) NB214_0.out (by simp))
   have n5_ := zb.mk (Kd.zZ (Kd.zGa (za.apart (show za w0 _ g s0_0 t226 t227 from by repeat (first | (with_reducible first | exact HI0.out | apply za.alloc | apply za.drewN | apply za.drew | apply za.zca | apply za.zba | refine za.far ?_ NB0_201.out _ | refine za.far ?_ NB0_214.out _) | exact HI0.out)) (by (with_reducible repeat (first | apply Kd.zo | apply Kd.zq | apply Kd.zA)); exact HO230.out) (by decide)) hk (fun _ h => h.2)) (fun _ h => h.1))
   have n6_ := zb.mk (zn.trans (by repeat (first | (with_reducible first | exact HK.out | apply zn.set_ | apply zy | apply zF | apply zx | refine zS ?_ GW201.out _ | refine zS ?_ GW214.out _) | exact HK.out)) hk (.inl rfl))
   have n7_ := zb.mk (hb)
   have n8_ := zb.mk (hi)
   clear BK201
   clear HO204
   clear HO210
   clear HO213
   clear BK214
   clear HO230
   clear HK
   clear HB
   clear HI0
   have BK201 := n0_
   have HO204 := n1_
   have HO210 := n2_
   have HO213 := n3_
   have BK214 := n4_
   have HO230 := n5_
   have HK := n6_
   have HB := n7_
   have HI0 := n8_
   clear n0_ n1_ n2_ n3_ n4_ n5_ n6_ n7_ n8_
   (try clear hb)
   (try clear hb_1)
   (try clear hk)
   (try clear hi)
   have p38 : 0 ≤ (t225 : Int) := of_decide_eq_true (by first | (with_reducible assumption) | assumption)
   have q38 : (t225 : Int) < ((t211.length : Int) : Int) := of_decide_eq_true (by first | (with_reducible assumption) | assumption)
   obtain ⟨go38, co_5, eo_5, gb38, gl38, cl38, HG38⟩ := Kd.R_form HO213.out (by omega)
   (first | cases eo_5 | (injection eo_5 with ea_ en_ ec_; (first | subst ea_ | (injection ea_ with ea_; subst ea_)); subst ec_; clear en_))
   have GB38 := zb.mk gb38
   have GG38 := zb.mk HG38
   clear gb38 gl38 HG38
   obtain ⟨ce38, hcl_1, hM38, hcc_1, hfr_1⟩ := Kd.R_elem HO213.out z_Node (t225 : Int) p38 q38
   obtain rfl := k_Node_openM hM38
   have hx_1_0 : World.cell? _ ⟨go38, (t225 : Int).toNat * 3, none⟩ = some (.int .i64 ((zl t211 t225).f0)) := hcc_1 0 _ rfl
   have hx_1_1 : World.cell? _ ⟨go38, (t225 : Int).toNat * 3 + 1, none⟩ = some (.int .i64 ((zl t211 t225).f1)) := hcc_1 1 _ rfl
   have hx_1_2 : World.cell? _ ⟨go38, (t225 : Int).toNat * 3 + 2, none⟩ = some (.bool ((zl t211 t225).f2)) := hcc_1 2 _ rfl
   have hf_1_0 : World.frozen? _ ⟨go38, (t225 : Int).toNat * 3, none⟩ = false := hfr_1 0
   have hf_1_1 : World.frozen? _ ⟨go38, (t225 : Int).toNat * 3 + 1, none⟩ = false := hfr_1 1
   have hf_1_2 : World.frozen? _ ⟨go38, (t225 : Int).toNat * 3 + 2, none⟩ = false := hfr_1 2
   clear hcl_1 hcc_1 hfr_1 hM38
   replace p38 := eq_true p38
   replace q38 := eq_true q38
   have HN0_go38 := zb.mk (show g ≠ go38 from by have h_ := za.own_ne HI0.out HO213.out (by decide); intro e_; exact h_ (by rw [e_]; rfl))
   obtain ⟨ce58, hcl_2, hM58, hcc_2, hfr_2⟩ := Kd.R_elem HO213.out z_Node (t225 : Int) (of_decide_eq_true (by first | (with_reducible assumption) | assumption)) (by have h_ : (t225 : Int) < ((t211.length : Int) : Int) := of_decide_eq_true (by first | (with_reducible assumption) | assumption); first | exact h_ | (have e_ := (Kd.zQ HO213.out).1; omega) | simpa using h_)
   obtain rfl := k_Node_openM hM58
   have HP58 := (Kd.R_seg HO213.out (t225 : Int) (of_decide_eq_true (by first | (with_reducible assumption) | assumption)) (by have h_ : (t225 : Int) < ((t211.length : Int) : Int) := of_decide_eq_true (by first | (with_reducible assumption) | assumption); first | exact h_ | (have e_ := (Kd.zQ HO213.out).1; omega) | simpa using h_) (seg := [.int .i64 t231]) (j := 0) hcl_2 hcc_2 (show 1 ≤ 3 from by decide) (x' := (⟨t231, (zl t211 t225).f1, (zl t211 t225).f2⟩ : zL)) (k_Node_mkM _ _ _ (⟨t231, (zl t211 t225).f1, (zl t211 t225).f2⟩ : zL) ) (fun _ hk => hk)).1
   rw [← Ny234.out] at HP58
   have HQ58 := zb.mk HP58
   clear hcl_2 hcc_2 hfr_2 hM58 HP58
   refine hK.out _ _ ((zD BK214.out 0).trans rfl) (fun hHeld => ?_)
   clear hK K
   refine norm_ (a' := ?_) ?_ ?_
   rotate_left
   · show Act.put _ (some 43) _ = _
     simp only [Act.put, List.setIfInBounds_toArray, List.set_cons_zero, List.set_cons_succ, zva]
     rfl
   refine zib (i := 8) (N := some 44) (v := ?_) (a' := ?_) #[true, true, true, true, true, true, true, true, true, false, false] rfl rfl (zVa HT_.out (by kernel_rfl)) (fun _ _ _ h => h) (Or.inl ⟨by rfl, ?_⟩) ?_ ?_
   rotate_left
   · intro w'
     go_simp
     with_reducible rfl
   rotate_left
   · simp only [Act.put, List.setIfInBounds_toArray, List.set_cons_zero, List.set_cons_succ, zva]
     rfl
   refine zib (i := 9) (N := some 45) (v := ?_) (a' := ?_) #[true, true, true, true, true, true, true, true, true, true, false] rfl rfl (zVa HT_.out (by kernel_rfl)) (fun _ _ _ h => h) (Or.inl ⟨by rfl, ?_⟩) ?_ ?_
   rotate_left
   · intro w'
     go_simp
     with_reducible rfl
   rotate_left
   · simp only [Act.put, List.setIfInBounds_toArray, List.set_cons_zero, List.set_cons_succ, zva]
     rfl
   refine last_ (i := 10) (N := none) #[true, true, true, true, true, true, true, true, true, true, true] rfl rfl (one_of HT_.out (by kernel_rfl)) (by decide) (fun K hK => ?_)
   refine skip_ (w1 := ?_) (by rfl) rfl ?_ ?_
   rotate_left
   · go_simp
     rfl
   refine hK.out _ _ ?_
   clear hK K
   refine done_ (done_of HT_.out (by kernel_rfl)) ?_
   have n0_ : zb (Kd.R Kd.string 9 (w_12.setCell ⟨go38, (t225 : Int).toNat * 3, none⟩ (.int .i64 t231)) w.heap.size (fun k_ => some k_ ≠ (.slice Ao_2 t207.length co_2 : Value).ownBlock) (.slice Ao_1 t202.length co_1) t202) := ⟨by (with_reducible repeat (first | apply Kd.zo | apply Kd.zq | apply Kd.zA)); exact Kd.zZ (Kd.R_far (p := ⟨go38, (t225 : Int).toNat * 3, none⟩) (Kd.zUa HO204.out GG38.out (by decide)) (fun _ hk => hk.2) (.int .i64 t231)) (fun _ hk => hk.1)⟩
   have n1_ : zb (Kd.R Kd.string 9 (w_12.setCell ⟨go38, (t225 : Int).toNat * 3, none⟩ (.int .i64 t231)) w.heap.size (fun k_ => some k_ ≠ (.slice Ao_1 t202.length co_1 : Value).ownBlock) (.slice Ao_2 t207.length co_2) t207) := ⟨by (with_reducible repeat (first | apply Kd.zo | apply Kd.zq | apply Kd.zA)); exact Kd.zZ (Kd.R_far (p := ⟨go38, (t225 : Int).toNat * 3, none⟩) (Kd.zUa HO210.out GG38.out (by decide)) (fun _ hk => hk.2) (.int .i64 t231)) (fun _ hk => hk.1)⟩
   have n2_ : zb (Kd.R zXa 73 (w_12.setCell ⟨go38, (t225 : Int).toNat * 3, none⟩ (.int .i64 t231)) w.heap.size (fun _ => True) (.slice (some ⟨go38, 0, none⟩) t211.length co_3) y234) := ⟨by (with_reducible repeat (first | apply Kd.zo | apply Kd.zq | apply Kd.zA)); exact HQ58.out⟩
   have n3_ : zb (Kd.R (Kd.int .i64) 3 (w_12.setCell ⟨go38, (t225 : Int).toNat * 3, none⟩ (.int .i64 t231)) w.heap.size (fun _ => True) (.slice Ao_4 y228.length co_4) y228) := ⟨by (with_reducible repeat (first | apply Kd.zo | apply Kd.zq | apply Kd.zA)); exact Kd.zZ (Kd.R_far (p := ⟨go38, (t225 : Int).toNat * 3, none⟩) (Kd.zUa HO230.out GG38.out (by decide)) (fun _ hk => hk.2) (.int .i64 t231)) (fun _ hk => trivial)⟩
   have n4_ : zb ((w_12.setCell ⟨go38, (t225 : Int).toNat * 3, none⟩ (.int .i64 t231)).heap[gb201]? = some (.cells #[.slice none 0 0] 26 (0, 0))) := ⟨by (with_reducible repeat (first | refine zk ?_ _ | refine zm ?_ | refine zi ?_ _)); refine blk_far ?_ (by have h_ := Kd.R_ne HO213.out BK201.out (by decide); intro e_; exact h_ (by rw [e_]; rfl)) _; (with_reducible repeat (first | refine zk ?_ _ | refine zm ?_ | refine zi ?_ _)); exact BK201.out⟩
   have n5_ : zb ((w_12.setCell ⟨go38, (t225 : Int).toNat * 3, none⟩ (.int .i64 t231)).heap[gb214]? = some (.cells #[.slice (some ⟨go38, 0, none⟩) t211.length co_3] 26 (0, 0))) := ⟨by (with_reducible repeat (first | refine zk ?_ _ | refine zm ?_ | refine zi ?_ _)); refine blk_far ?_ (by have h_ := Kd.R_ne HO213.out BK214.out (by decide); intro e_; exact h_ (by rw [e_]; rfl)) _; (with_reducible repeat (first | refine zk ?_ _ | refine zm ?_ | refine zi ?_ _)); exact BK214.out⟩
   have n6_ : zb (za w0 (w_12.setCell ⟨go38, (t225 : Int).toNat * 3, none⟩ (.int .i64 t231)) g s0_0 t232 t233) := ⟨by repeat (first | (with_reducible first | exact HI0.out | apply za.alloc | apply za.drewN | apply za.drew | apply za.zca | apply za.zba | refine za.far ?_ HN0_go38.out _ | refine za.far ?_ NB0_201.out _ | refine za.far ?_ NB0_214.out _) | exact HI0.out)⟩
   have n7_ : zb (zn w (w_12.setCell ⟨go38, (t225 : Int).toNat * 3, none⟩ (.int .i64 t231)) g none) := ⟨by repeat (first | (with_reducible first | exact HK.out | apply zn.set_ | apply zy | apply zF | apply zx | refine zS ?_ GB38.out _ | refine zS ?_ GW201.out _ | refine zS ?_ GW214.out _) | exact HK.out)⟩
   have n8_ : zb (Below w0.heap.size w0 (w_12.setCell ⟨go38, (t225 : Int).toNat * 3, none⟩ (.int .i64 t231))) := ⟨by repeat (first | (with_reducible first | exact HB.out | apply zg | apply ze | apply zf | refine zh ?_ (Nat.le_trans HL.out GB38.out) | refine zh ?_ (za.ge HI0.out) | refine zh ?_ GE201.out | refine zh ?_ GE214.out) | exact HB.out)⟩
   (try clear HO204)
   (try clear HO210)
   (try clear HO213)
   (try clear HO230)
   (try clear BK201)
   (try clear BK214)
   (try clear HI0)
   (try clear HK)
   (try clear HB)
   generalize (w_12.setCell ⟨go38, (t225 : Int).toNat * 3, none⟩ (.int .i64 t231)) = w_13 at n0_ n1_ n2_ n3_ n4_ n5_ n6_ n7_ n8_ ⊢
   have HO204 := n0_
   have HO210 := n1_
   have HO213 := n2_
   have HO230 := n3_
   have BK201 := n4_
   have BK214 := n5_
   have HI0 := n6_
   have HK := n7_
   have HB := n8_
   clear n0_ n1_ n2_ n3_ n4_ n5_ n6_ n7_ n8_
   have hcz_2_0 : w_13.cell? ⟨gb214, 0, none⟩ = some (.slice (some ⟨go38, 0, none⟩) t211.length co_3) := (zD BK214.out 0).trans rfl
   have hfz_2_0 := zz BK214.out 0
   have hnb_3 := NB201_0.out
   have hnc_3 := NB0_201.out
   have hcz_3_0 : w_13.cell? ⟨gb201, 0, none⟩ = some (.slice none 0 0) := (zD BK201.out 0).trans rfl
   have hfz_3_0 := zz BK201.out 0
   try go_wp2
   refine bodyPost_ret (results_cell_row rfl _ _ gb201 26 #[.slice (some ⟨go38, 0, none⟩) t211.length co_3] (0, 0) _ rfl (by (with_reducible repeat (first | refine zk ?_ _ | refine zm ?_ | refine zi ?_ _)); refine blk_put (cs := #[.slice none 0 0]) ?_ 0 _ rfl; (with_reducible repeat (first | refine zk ?_ _ | refine zm ?_ | refine zi ?_ _)); exact BK201.out) Tryz.underlying26 rfl (by kernel_rfl)) rfl ?_
   exact ⟨_, by first | rfl | (simp [zC, zB] <;> rfl) | (simp [*, zC, zB] <;> rfl), by (with_reducible repeat (first | apply Kd.zo | apply Kd.zq | apply Kd.zA)); exact Kd.zZ (Kd.R_far (p := ⟨gb201, 0, none⟩) (Kd.zUa HO213.out BK201.out (by decide)) (fun _ hk => hk.2) (.slice (some ⟨go38, 0, none⟩) t211.length co_3)) (fun _ hk => trivial), by repeat (first | (with_reducible first | exact HI0.out | apply za.alloc | apply za.drewN | apply za.drew | apply za.zca | apply za.zba | refine za.far ?_ NB0_201.out _ | refine za.far ?_ NB0_214.out _) | exact HI0.out), by repeat (first | (with_reducible first | exact HB.out | apply zg | apply ze | apply zf | refine zh ?_ (za.ge HI0.out) | refine zh ?_ GE201.out | refine zh ?_ GE214.out) | exact HB.out), by repeat (first | (with_reducible first | exact HK.out | apply zn.set_ | apply zy | apply zF | apply zx | refine zS ?_ GW201.out _ | refine zS ?_ GW214.out _) | exact HK.out)⟩
  ·(first | (go_at_call 132; (with_reducible refine (zK.calls g s0_0 t205 t206 60 t215 t216 t217 w0 _ ?side1 ?side2 A6.out).mono ?_); (case side1 => repeat (first | (with_reducible first | exact HI0.out | apply za.alloc | apply za.drewN | apply za.drew | apply za.zca | apply za.zba | refine za.far ?_ NB0_201.out _ | refine za.far ?_ NB0_214.out _) | exact HI0.out)); (case side2 => repeat (first | (with_reducible first | exact HB.out | apply zg | apply ze | apply zf | refine zh ?_ (za.ge HI0.out) | refine zh ?_ GE201.out | refine zh ?_ GE214.out) | exact HB.out)); rintro e w_6 ⟨rfl, hi, hb, hk⟩; have n0_ := zb.mk (zn.blk hk (g' := gb201) (o := .cells #[.slice none 0 0] 26 (0, 0)) (by (with_reducible repeat (first | refine zk ?_ _ | refine zm ?_ | refine zi ?_ _)); refine blk_far ?_ NB201_214.out _; (with_reducible repeat (first | refine zk ?_ _ | refine zm ?_ | refine zi ?_ _)); exact BK201.out) NB201_0.out (by simp)); have n1_ := zb.mk (Kd.zZ (Kd.zGa (za.apart (show za w0 _ g s0_0 t205 t206 from by repeat (first | (with_reducible first | exact HI0.out | apply za.alloc | apply za.drewN | apply za.drew | apply za.zca | apply za.zba | refine za.far ?_ NB0_201.out _ | refine za.far ?_ NB0_214.out _) | exact HI0.out)) (by (with_reducible repeat (first | apply Kd.zo | apply Kd.zq | apply Kd.zA)); exact (Kd.zZ (Kd.R_far (p := ⟨gb214, 0, none⟩) (Kd.zUa HO204.out BK214.out (by decide)) (fun _ hk => hk.2) (.slice Ao_3 t211.length co_3)) (fun _ h_ => h_.1))) (by decide)) hk (fun _ h => h.2)) (fun _ h => h.1)); have n2_ := zb.mk (Kd.zZ (Kd.zGa (za.apart (show za w0 _ g s0_0 t205 t206 from by repeat (first | (with_reducible first | exact HI0.out | apply za.alloc | apply za.drewN | apply za.drew | apply za.zca | apply za.zba | refine za.far ?_ NB0_201.out _ | refine za.far ?_ NB0_214.out _) | exact HI0.out)) (by (with_reducible repeat (first | apply Kd.zo | apply Kd.zq | apply Kd.zA)); exact (Kd.zZ (Kd.R_far (p := ⟨gb214, 0, none⟩) (Kd.zUa HO210.out BK214.out (by decide)) (fun _ hk => hk.2) (.slice Ao_3 t211.length co_3)) (fun _ h_ => h_.1))) (by decide)) hk (fun _ h => h.2)) (fun _ h => h.1)); have n3_ := zb.mk (Kd.zZ (Kd.zGa (za.apart (show za w0 _ g s0_0 t205 t206 from by repeat (first | (with_reducible first | exact HI0.out | apply za.alloc | apply za.drewN | apply za.drew | apply za.zca | apply za.zba | refine za.far ?_ NB0_201.out _ | refine za.far ?_ NB0_214.out _) | exact HI0.out)) (by (with_reducible repeat (first | apply Kd.zo | apply Kd.zq | apply Kd.zA)); exact (Kd.zZ (Kd.R_far (p := ⟨gb214, 0, none⟩) (Kd.zUa HO213.out BK214.out (by decide)) (fun _ hk => hk.2) (.slice Ao_3 t211.length co_3)) (fun _ h_ => h_.1))) (by decide)) hk (fun _ h => h.2)) (fun _ h => h.1)); have n4_ := zb.mk (zn.blk hk (g' := gb214) (o := .cells #[.slice Ao_3 t211.length co_3] 26 (0, 0)) (by (with_reducible repeat (first | refine zk ?_ _ | refine zm ?_ | refine zi ?_ _)); refine blk_put (cs := #[.slice none 0 0]) ?_ 0 _ rfl; (with_reducible repeat (first | refine zk ?_ _ | refine zm ?_ | refine zi ?_ _)); exact BK214.out) NB214_0.out (by simp)); have n5_ := zb.mk (zn.trans (by repeat (first | (with_reducible first | exact HK.out | apply zn.set_ | apply zy | apply zF | apply zx | refine zS ?_ GW201.out _ | refine zS ?_ GW214.out _) | exact HK.out)) hk (.inl rfl)); have n6_ := zb.mk (hb); have n7_ := zb.mk (hi); clear BK201; clear HO204; clear HO210; clear HO213; clear BK214; clear HK; clear HB; clear HI0; have BK201 := n0_; have HO204 := n1_; have HO210 := n2_; have HO213 := n3_; have BK214 := n4_; have HK := n5_; have HB := n6_; have HI0 := n7_; clear n0_ n1_ n2_ n3_ n4_ n5_ n6_ n7_; (try clear hb); (try clear hb_1); (try clear hk); (try clear hi)) | skip); try go_wp2
   have n0_ := zb.mk (Kd.zA HO204.out)
   have n1_ := zb.mk (Kd.zA HO210.out)
   have n2_ := zb.mk (Kd.zA HO213.out)
   have n3_ := zb.mk (zm BK201.out)
   have n4_ := zb.mk (zm BK214.out)
   have n5_ := zb.mk (za.drew HI0.out)
   have n6_ := zb.mk (zF HK.out)
   have n7_ := zb.mk (zf HB.out)
   clear HO204
   clear HO210
   clear HO213
   clear BK201
   clear BK214
   clear HI0
   clear HK
   clear HB
   have HO204 := n0_
   have HO210 := n1_
   have HO213 := n2_
   have BK201 := n3_
   have BK214 := n4_
   have HI0 := n5_
   have HK := n6_
   have HB := n7_
   clear n0_ n1_ n2_ n3_ n4_ n5_ n6_ n7_
   refine start_ (n := 10) (S := fun w' => w'.cell? ⟨gb214, 0, none⟩ = some (.slice Ao_3 t211.length co_3)) (ds := [9]) #[false, false, false, false, false, false, false, false, false, false] (by kernel_rfl) rfl rfl ((zD BK214.out 0).trans rfl) (fun hHeld => ?_); refine with_tabW zP.tab8 zP.bits8 (fun HT_ HW_ => ?_)
   generalize w_6.drew = w_7 at HO204 HO210 HO213 BK201 BK214 HI0 HK HB hHeld ⊢
   refine zib (i := 0) (N := some 25) (v := ?_) (a' := ?_) #[true, false, false, false, false, false, false, false, false, false] rfl rfl (zVa HT_.out (by kernel_rfl)) (fun _ _ _ h => h) (Or.inl ⟨by rfl, ?_⟩) ?_ ?_
   rotate_left
   · intro w'
     go_simp
     with_reducible rfl
   rotate_left
   · simp only [Act.put, List.setIfInBounds_toArray, List.set_cons_zero, List.set_cons_succ, zva]
     rfl
   refine zib (i := 2) (N := some 27) (v := ?_) (a' := ?_) #[true, false, true, false, false, false, false, false, false, false] rfl rfl (zVa HT_.out (by kernel_rfl)) (fun _ _ _ h => h) (Or.inl ⟨by rfl, ?_⟩) ?_ ?_
   rotate_left
   · intro w'
     go_simp
     with_reducible rfl
   rotate_left
   · simp only [Act.put, List.setIfInBounds_toArray, List.set_cons_zero, List.set_cons_succ, zva]
     rfl
   refine zib (i := 3) (N := some 28) (v := ?_) (a' := ?_) #[true, false, true, true, false, false, false, false, false, false] rfl rfl (zVa HT_.out (by kernel_rfl)) (fun _ _ _ h => h) (Or.inl ⟨by rfl, ?_⟩) ?_ ?_
   rotate_left
   · intro w'
     go_simp
     with_reducible rfl
   rotate_left
   · simp only [Act.put, List.setIfInBounds_toArray, List.set_cons_zero, List.set_cons_succ, zva]
     rfl
   refine zib (i := 5) (N := some 30) (v := ?_) (a' := ?_) #[true, false, true, true, false, true, false, false, false, false] rfl rfl (zVa HT_.out (by kernel_rfl)) (fun _ _ _ h => h) (Or.inl ⟨by rfl, ?_⟩) ?_ ?_
   rotate_left
   · intro w'
     go_simp
     with_reducible rfl
   rotate_left
   · simp only [Act.put, List.setIfInBounds_toArray, List.set_cons_zero, List.set_cons_succ, zva]
     rfl
   refine take_ (i := 1) (N := some 26) (v := ?_) (a' := ?_) #[true, true, true, true, false, true, false, false, false, false] rfl rfl (take_ofW HT_.out HW_.out (by kernel_rfl)) (fun _ _ _ h => h) (Or.inl ⟨by rfl, ?_⟩) hHeld ?_ ?_
   rotate_left
   · intro w' s0
     go_simp
     with_reducible rfl
   rotate_left
   · simp only [Act.put, List.setIfInBounds_toArray, List.set_cons_zero, List.set_cons_succ, zva]
     rfl
   refine one_ (i := 4) (N := some 29) #[true, true, true, true, true, true, false, false, false, false] rfl rfl (one_of HT_.out (by kernel_rfl)) (by decide) (fun K hK => ?_)
   refine goes_ Tryz.func132 (by kernel_rfl) rfl #[.pointer (some ⟨g, 0, none⟩), .int .i64 (t211.length : Int)] (by rfl) rfl rfl (by (try simp only [List.map_toArray, List.map_cons, List.map_nil]); first | done | rfl | (simp only [List.length_drop, List.length_take]; rfl)) ?_
   with_reducible refine (zK.calls g s0_0 t216 t217 (t211.length : Int) t218 t219 t220 w0 _ ?side1 ?side2 A8.out).mono ?_
   (case side1 => repeat (first | (with_reducible first | exact HI0.out | apply za.alloc | apply za.drewN | apply za.drew | apply za.zca | apply za.zba | refine za.far ?_ NB0_201.out _ | refine za.far ?_ NB0_214.out _) | exact HI0.out))
   (case side2 => repeat (first | (with_reducible first | exact HB.out | apply zg | apply ze | apply zf | refine zh ?_ (za.ge HI0.out) | refine zh ?_ GE201.out | refine zh ?_ GE214.out) | exact HB.out))
   rintro e w_8 ⟨rfl, hi, hb, hk⟩
   refine ⟨_, rfl, ?_⟩
   have n0_ := zb.mk (zn.blk hk (g' := gb201) (o := .cells #[.slice none 0 0] 26 (0, 0)) (by (with_reducible repeat (first | refine zk ?_ _ | refine zm ?_ | refine zi ?_ _)); exact BK201.out) NB201_0.out (by simp))
   have n1_ := zb.mk (Kd.zZ (Kd.zGa (za.apart (show za w0 _ g s0_0 t216 t217 from by repeat (first | (with_reducible first | exact HI0.out | apply za.alloc | apply za.drewN | apply za.drew | apply za.zca | apply za.zba | refine za.far ?_ NB0_201.out _ | refine za.far ?_ NB0_214.out _) | exact HI0.out)) (by (with_reducible repeat (first | apply Kd.zo | apply Kd.zq | apply Kd.zA)); exact HO204.out) (by decide)) hk (fun _ h => h.2)) (fun _ h => h.1))
   have n2_ := zb.mk (Kd.zZ (Kd.zGa (za.apart (show za w0 _ g s0_0 t216 t217 from by repeat (first | (with_reducible first | exact HI0.out | apply za.alloc | apply za.drewN | apply za.drew | apply za.zca | apply za.zba | refine za.far ?_ NB0_201.out _ | refine za.far ?_ NB0_214.out _) | exact HI0.out)) (by (with_reducible repeat (first | apply Kd.zo | apply Kd.zq | apply Kd.zA)); exact HO210.out) (by decide)) hk (fun _ h => h.2)) (fun _ h => h.1))
   have n3_ := zb.mk (Kd.zZ (Kd.zGa (za.apart (show za w0 _ g s0_0 t216 t217 from by repeat (first | (with_reducible first | exact HI0.out | apply za.alloc | apply za.drewN | apply za.drew | apply za.zca | apply za.zba | refine za.far ?_ NB0_201.out _ | refine za.far ?_ NB0_214.out _) | exact HI0.out)) (by (with_reducible repeat (first | apply Kd.zo | apply Kd.zq | apply Kd.zA)); exact HO213.out) (by decide)) hk (fun _ h => h.2)) (fun _ h => h.1))
   have n4_ := zb.mk (zn.blk hk (g' := gb214) (o := .cells #[.slice Ao_3 t211.length co_3] 26 (0, 0)) (by (with_reducible repeat (first | refine zk ?_ _ | refine zm ?_ | refine zi ?_ _)); exact BK214.out) NB214_0.out (by simp))
   have n5_ := zb.mk (zn.trans (by repeat (first | (with_reducible first | exact HK.out | apply zn.set_ | apply zy | apply zF | apply zx | refine zS ?_ GW201.out _ | refine zS ?_ GW214.out _) | exact HK.out)) hk (.inl rfl))
   have n6_ := zb.mk (hb)
   have n7_ := zb.mk (hi)
   clear BK201
   clear HO204
   clear HO210
   clear HO213
   clear BK214
   clear HK
   clear HB
   clear HI0
   have BK201 := n0_
   have HO204 := n1_
   have HO210 := n2_
   have HO213 := n3_
   have BK214 := n4_
   have HK := n5_
   have HB := n6_
   have HI0 := n7_
   clear n0_ n1_ n2_ n3_ n4_ n5_ n6_ n7_
   (try clear hb)
   (try clear hb_1)
   (try clear hk)
   (try clear hi)
   refine hK.out _ _ ((zD BK214.out 0).trans rfl) (fun hHeld => ?_)
   clear hK K
   refine norm_ (a' := ?_) ?_ ?_
   rotate_left
   · show Act.put _ (some 29) _ = _
     simp only [Act.put, List.setIfInBounds_toArray, List.set_cons_zero, List.set_cons_succ, zva]
     rfl
   refine one_ (i := 6) (N := some 31) #[true, true, true, true, true, true, true, false, false, false] rfl rfl (one_of HT_.out (by kernel_rfl)) (by decide) (fun K hK => ?_)
   refine goes_ Tryz.func127 (by kernel_rfl) rfl #[.pointer (some ⟨g, 0, none⟩), .int .i64 2] (by rfl) rfl rfl (by (try simp only [List.map_toArray, List.map_cons, List.map_nil]); first | done | rfl | (simp only [List.length_drop, List.length_take]; rfl)) ?_
   with_reducible refine (zM.calls g s0_0 t219 t220 2 t221 t222 t223 w0 _ ?side1 ?side2 A9.out).mono ?_
   (case side1 => repeat (first | (with_reducible first | exact HI0.out | apply za.alloc | apply za.drewN | apply za.drew | apply za.zca | apply za.zba | refine za.far ?_ NB0_201.out _ | refine za.far ?_ NB0_214.out _) | exact HI0.out))
   (case side2 => repeat (first | (with_reducible first | exact HB.out | apply zg | apply ze | apply zf | refine zh ?_ (za.ge HI0.out) | refine zh ?_ GE201.out | refine zh ?_ GE214.out) | exact HB.out))
   rintro e w_9 ⟨rfl, hi, hb, hk⟩
   refine ⟨_, rfl, ?_⟩
   have n0_ := zb.mk (zn.blk hk (g' := gb201) (o := .cells #[.slice none 0 0] 26 (0, 0)) (by (with_reducible repeat (first | refine zk ?_ _ | refine zm ?_ | refine zi ?_ _)); exact BK201.out) NB201_0.out (by simp))
   have n1_ := zb.mk (Kd.zZ (Kd.zGa (za.apart (show za w0 _ g s0_0 t219 t220 from by repeat (first | (with_reducible first | exact HI0.out | apply za.alloc | apply za.drewN | apply za.drew | apply za.zca | apply za.zba | refine za.far ?_ NB0_201.out _ | refine za.far ?_ NB0_214.out _) | exact HI0.out)) (by (with_reducible repeat (first | apply Kd.zo | apply Kd.zq | apply Kd.zA)); exact HO204.out) (by decide)) hk (fun _ h => h.2)) (fun _ h => h.1))
   have n2_ := zb.mk (Kd.zZ (Kd.zGa (za.apart (show za w0 _ g s0_0 t219 t220 from by repeat (first | (with_reducible first | exact HI0.out | apply za.alloc | apply za.drewN | apply za.drew | apply za.zca | apply za.zba | refine za.far ?_ NB0_201.out _ | refine za.far ?_ NB0_214.out _) | exact HI0.out)) (by (with_reducible repeat (first | apply Kd.zo | apply Kd.zq | apply Kd.zA)); exact HO210.out) (by decide)) hk (fun _ h => h.2)) (fun _ h => h.1))
   have n3_ := zb.mk (Kd.zZ (Kd.zGa (za.apart (show za w0 _ g s0_0 t219 t220 from by repeat (first | (with_reducible first | exact HI0.out | apply za.alloc | apply za.drewN | apply za.drew | apply za.zca | apply za.zba | refine za.far ?_ NB0_201.out _ | refine za.far ?_ NB0_214.out _) | exact HI0.out)) (by (with_reducible repeat (first | apply Kd.zo | apply Kd.zq | apply Kd.zA)); exact HO213.out) (by decide)) hk (fun _ h => h.2)) (fun _ h => h.1))
   have n4_ := zb.mk (zn.blk hk (g' := gb214) (o := .cells #[.slice Ao_3 t211.length co_3] 26 (0, 0)) (by (with_reducible repeat (first | refine zk ?_ _ | refine zm ?_ | refine zi ?_ _)); exact BK214.out) NB214_0.out (by simp))
   have n5_ := zb.mk (zn.trans (by repeat (first | (with_reducible first | exact HK.out | apply zn.set_ | apply zy | apply zF | apply zx | refine zS ?_ GW201.out _ | refine zS ?_ GW214.out _) | exact HK.out)) hk (.inl rfl))
   have n6_ := zb.mk (hb)
   have n7_ := zb.mk (hi)
   clear BK201
   clear HO204
   clear HO210
   clear HO213
   clear BK214
   clear HK
   clear HB
   clear HI0
   have BK201 := n0_
   have HO204 := n1_
   have HO210 := n2_
   have HO213 := n3_
   have BK214 := n4_
   have HK := n5_
   have HB := n6_
   have HI0 := n7_
   clear n0_ n1_ n2_ n3_ n4_ n5_ n6_ n7_
   (try clear hb)
   (try clear hb_1)
   (try clear hk)
   (try clear hi)
   have p12 : 0 ≤ (t218 : Int) := of_decide_eq_true (by first | (with_reducible assumption) | assumption)
   have q12 : (t218 : Int) < ((t211.length : Int) : Int) := of_decide_eq_true (by first | (with_reducible assumption) | assumption)
   obtain ⟨go12, co_4, eo_4, gb12, gl12, cl12, HG12⟩ := Kd.R_form HO213.out (by omega)
   (first | cases eo_4 | (injection eo_4 with ea_ en_ ec_; (first | subst ea_ | (injection ea_ with ea_; subst ea_)); subst ec_; clear en_))
   have GB12 := zb.mk gb12
   have GG12 := zb.mk HG12
   clear gb12 gl12 HG12
   obtain ⟨ce12, hcl_1, hM12, hcc_1, hfr_1⟩ := Kd.R_elem HO213.out z_Node (t218 : Int) p12 q12
   obtain rfl := k_Node_openM hM12
   have hx_1_0 : World.cell? _ ⟨go12, (t218 : Int).toNat * 3, none⟩ = some (.int .i64 ((zl t211 t218).f0)) := hcc_1 0 _ rfl
   have hx_1_1 : World.cell? _ ⟨go12, (t218 : Int).toNat * 3 + 1, none⟩ = some (.int .i64 ((zl t211 t218).f1)) := hcc_1 1 _ rfl
   have hx_1_2 : World.cell? _ ⟨go12, (t218 : Int).toNat * 3 + 2, none⟩ = some (.bool ((zl t211 t218).f2)) := hcc_1 2 _ rfl
   have hf_1_0 : World.frozen? _ ⟨go12, (t218 : Int).toNat * 3, none⟩ = false := hfr_1 0
   have hf_1_1 : World.frozen? _ ⟨go12, (t218 : Int).toNat * 3 + 1, none⟩ = false := hfr_1 1
   have hf_1_2 : World.frozen? _ ⟨go12, (t218 : Int).toNat * 3 + 2, none⟩ = false := hfr_1 2
   clear hcl_1 hcc_1 hfr_1 hM12
   replace p12 := eq_true p12
   replace q12 := eq_true q12
   have HN0_go12 := zb.mk (show g ≠ go12 from by have h_ := za.own_ne HI0.out HO213.out (by decide); intro e_; exact h_ (by rw [e_]; rfl))
   obtain ⟨ce28, hcl_2, hM28, hcc_2, hfr_2⟩ := Kd.R_elem HO213.out z_Node (t218 : Int) (of_decide_eq_true (by first | (with_reducible assumption) | assumption)) (by have h_ : (t218 : Int) < ((t211.length : Int) : Int) := of_decide_eq_true (by first | (with_reducible assumption) | assumption); first | exact h_ | (have e_ := (Kd.zQ HO213.out).1; omega) | simpa using h_)
   obtain rfl := k_Node_openM hM28
   have HP28 := (Kd.R_seg HO213.out (t218 : Int) (of_decide_eq_true (by first | (with_reducible assumption) | assumption)) (by have h_ : (t218 : Int) < ((t211.length : Int) : Int) := of_decide_eq_true (by first | (with_reducible assumption) | assumption); first | exact h_ | (have e_ := (Kd.zQ HO213.out).1; omega) | simpa using h_) (seg := [.bool t221]) (j := 2) hcl_2 hcc_2 (show 3 ≤ 3 from by decide) (x' := (⟨(zl t211 t218).f0, (zl t211 t218).f1, t221⟩ : zL)) (k_Node_mkM _ _ _ (⟨(zl t211 t218).f0, (zl t211 t218).f1, t221⟩ : zL) ) (fun _ hk => hk)).1
   rw [← Ny224.out] at HP28
   have HQ28 := zb.mk HP28
   clear hcl_2 hcc_2 hfr_2 hM28 HP28
   refine hK.out _ _ ((zD BK214.out 0).trans rfl) (fun hHeld => ?_)
   clear hK K
   refine norm_ (a' := ?_) ?_ ?_
   rotate_left
   · show Act.put _ (some 31) _ = _
     simp only [Act.put, List.setIfInBounds_toArray, List.set_cons_zero, List.set_cons_succ, zva]
     rfl
   refine zib (i := 7) (N := some 32) (v := ?_) (a' := ?_) #[true, true, true, true, true, true, true, true, false, false] rfl rfl (zVa HT_.out (by kernel_rfl)) (fun _ _ _ h => h) (Or.inl ⟨by rfl, ?_⟩) ?_ ?_
   rotate_left
   · intro w'
     go_simp
     with_reducible rfl
   rotate_left
   · simp only [Act.put, List.setIfInBounds_toArray, List.set_cons_zero, List.set_cons_succ, zva]
     rfl
   refine zib (i := 8) (N := some 33) (v := ?_) (a' := ?_) #[true, true, true, true, true, true, true, true, true, false] rfl rfl (zVa HT_.out (by kernel_rfl)) (fun _ _ _ h => h) (Or.inl ⟨by rfl, ?_⟩) ?_ ?_
   rotate_left
   · intro w'
     go_simp
     with_reducible rfl
   rotate_left
   · simp only [Act.put, List.setIfInBounds_toArray, List.set_cons_zero, List.set_cons_succ, zva]
     rfl
   refine last_ (i := 9) (N := none) #[true, true, true, true, true, true, true, true, true, true] rfl rfl (one_of HT_.out (by kernel_rfl)) (by decide) (fun K hK => ?_)
   refine skip_ (w1 := ?_) (by rfl) rfl ?_ ?_
   rotate_left
   · go_simp
     rfl
   refine hK.out _ _ ?_
   clear hK K
   refine done_ (done_of HT_.out (by kernel_rfl)) ?_
   have n0_ : zb (Kd.R Kd.string 9 (w_9.setCell ⟨go12, (t218 : Int).toNat * 3 + 2, none⟩ (.bool t221)) w.heap.size (fun k_ => some k_ ≠ (.slice Ao_2 t207.length co_2 : Value).ownBlock) (.slice Ao_1 t202.length co_1) t202) := ⟨by (with_reducible repeat (first | apply Kd.zo | apply Kd.zq | apply Kd.zA)); exact Kd.zZ (Kd.R_far (p := ⟨go12, (t218 : Int).toNat * 3 + 2, none⟩) (Kd.zUa HO204.out GG12.out (by decide)) (fun _ hk => hk.2) (.bool t221)) (fun _ hk => hk.1.2)⟩
   have n1_ : zb (Kd.R Kd.string 9 (w_9.setCell ⟨go12, (t218 : Int).toNat * 3 + 2, none⟩ (.bool t221)) w.heap.size (fun k_ => some k_ ≠ (.slice Ao_1 t202.length co_1 : Value).ownBlock) (.slice Ao_2 t207.length co_2) t207) := ⟨by (with_reducible repeat (first | apply Kd.zo | apply Kd.zq | apply Kd.zA)); exact Kd.zZ (Kd.R_far (p := ⟨go12, (t218 : Int).toNat * 3 + 2, none⟩) (Kd.zUa HO210.out GG12.out (by decide)) (fun _ hk => hk.2) (.bool t221)) (fun _ hk => hk.1.2)⟩
   have n2_ : zb (Kd.R zXa 73 (w_9.setCell ⟨go12, (t218 : Int).toNat * 3 + 2, none⟩ (.bool t221)) w.heap.size (fun _ => True) (.slice (some ⟨go12, 0, none⟩) t211.length co_3) y224) := ⟨by (with_reducible repeat (first | apply Kd.zo | apply Kd.zq | apply Kd.zA)); exact HQ28.out⟩
   have n3_ : zb ((w_9.setCell ⟨go12, (t218 : Int).toNat * 3 + 2, none⟩ (.bool t221)).heap[gb201]? = some (.cells #[.slice none 0 0] 26 (0, 0))) := ⟨by (with_reducible repeat (first | refine zk ?_ _ | refine zm ?_ | refine zi ?_ _)); refine blk_far ?_ (by have h_ := Kd.R_ne HO213.out BK201.out (by decide); intro e_; exact h_ (by rw [e_]; rfl)) _; (with_reducible repeat (first | refine zk ?_ _ | refine zm ?_ | refine zi ?_ _)); exact BK201.out⟩
   have n4_ : zb ((w_9.setCell ⟨go12, (t218 : Int).toNat * 3 + 2, none⟩ (.bool t221)).heap[gb214]? = some (.cells #[.slice (some ⟨go12, 0, none⟩) t211.length co_3] 26 (0, 0))) := ⟨by (with_reducible repeat (first | refine zk ?_ _ | refine zm ?_ | refine zi ?_ _)); refine blk_far ?_ (by have h_ := Kd.R_ne HO213.out BK214.out (by decide); intro e_; exact h_ (by rw [e_]; rfl)) _; (with_reducible repeat (first | refine zk ?_ _ | refine zm ?_ | refine zi ?_ _)); exact BK214.out⟩
   have n5_ : zb (za w0 (w_9.setCell ⟨go12, (t218 : Int).toNat * 3 + 2, none⟩ (.bool t221)) g s0_0 t222 t223) := ⟨by repeat (first | (with_reducible first | exact HI0.out | apply za.alloc | apply za.drewN | apply za.drew | apply za.zca | apply za.zba | refine za.far ?_ HN0_go12.out _ | refine za.far ?_ NB0_201.out _ | refine za.far ?_ NB0_214.out _) | exact HI0.out)⟩
   have n6_ : zb (zn w (w_9.setCell ⟨go12, (t218 : Int).toNat * 3 + 2, none⟩ (.bool t221)) g none) := ⟨by repeat (first | (with_reducible first | exact HK.out | apply zn.set_ | apply zy | apply zF | apply zx | refine zS ?_ GB12.out _ | refine zS ?_ GW201.out _ | refine zS ?_ GW214.out _) | exact HK.out)⟩
   have n7_ : zb (Below w0.heap.size w0 (w_9.setCell ⟨go12, (t218 : Int).toNat * 3 + 2, none⟩ (.bool t221))) := ⟨by repeat (first | (with_reducible first | exact HB.out | apply zg | apply ze | apply zf | refine zh ?_ (Nat.le_trans HL.out GB12.out) | refine zh ?_ (za.ge HI0.out) | refine zh ?_ GE201.out | refine zh ?_ GE214.out) | exact HB.out)⟩
   (try clear HO204)
   (try clear HO210)
   (try clear HO213)
   (try clear BK201)
   (try clear BK214)
   (try clear HI0)
   (try clear HK)
   (try clear HB)
   generalize (w_9.setCell ⟨go12, (t218 : Int).toNat * 3 + 2, none⟩ (.bool t221)) = w_10 at n0_ n1_ n2_ n3_ n4_ n5_ n6_ n7_ ⊢
   have HO204 := n0_
   have HO210 := n1_
   have HO213 := n2_
   have BK201 := n3_
   have BK214 := n4_
   have HI0 := n5_
   have HK := n6_
   have HB := n7_
   clear n0_ n1_ n2_ n3_ n4_ n5_ n6_ n7_
   have hcz_2_0 : w_10.cell? ⟨gb214, 0, none⟩ = some (.slice (some ⟨go12, 0, none⟩) t211.length co_3) := (zD BK214.out 0).trans rfl
   have hfz_2_0 := zz BK214.out 0
   have hnb_3 := NB201_0.out
   have hnc_3 := NB0_201.out
   have hcz_3_0 : w_10.cell? ⟨gb201, 0, none⟩ = some (.slice none 0 0) := (zD BK201.out 0).trans rfl
   have hfz_3_0 := zz BK201.out 0
   try go_wp2
   refine bodyPost_ret (results_cell_row rfl _ _ gb201 26 #[.slice (some ⟨go12, 0, none⟩) t211.length co_3] (0, 0) _ rfl (by (with_reducible repeat (first | refine zk ?_ _ | refine zm ?_ | refine zi ?_ _)); refine blk_put (cs := #[.slice none 0 0]) ?_ 0 _ rfl; (with_reducible repeat (first | refine zk ?_ _ | refine zm ?_ | refine zi ?_ _)); exact BK201.out) Tryz.underlying26 rfl (by kernel_rfl)) rfl ?_
   exact ⟨_, by first | rfl | (simp [zC, zB] <;> rfl) | (simp [*, zC, zB] <;> rfl), by (with_reducible repeat (first | apply Kd.zo | apply Kd.zq | apply Kd.zA)); exact Kd.zZ (Kd.R_far (p := ⟨gb201, 0, none⟩) (Kd.zUa HO213.out BK201.out (by decide)) (fun _ hk => hk.2) (.slice (some ⟨go12, 0, none⟩) t211.length co_3)) (fun _ hk => trivial), by repeat (first | (with_reducible first | exact HI0.out | apply za.alloc | apply za.drewN | apply za.drew | apply za.zca | apply za.zba | refine za.far ?_ NB0_201.out _ | refine za.far ?_ NB0_214.out _) | exact HI0.out), by repeat (first | (with_reducible first | exact HB.out | apply zg | apply ze | apply zf | refine zh ?_ (za.ge HI0.out) | refine zh ?_ GE201.out | refine zh ?_ GE214.out) | exact HB.out), by repeat (first | (with_reducible first | exact HK.out | apply zn.set_ | apply zy | apply zF | apply zx | refine zS ?_ GW201.out _ | refine zS ?_ GW214.out _) | exact HK.out)⟩
end Go.Proofs.YtfabennfhmlihaaGreatDoor.P
end
section
namespace Go.Proofs.YtfabennfhmlihaaGreatDoor.P
open Go.RowKit Go.Proofs.YtfabennfhmlihaaGreatDoorW.zJ Go.Proofs.YtfabennfhmlihaaGreatDoorW.zU Go.Proofs.YtfabennfhmlihaaGreatDoorW.PrintMore
set_option linter.unusedVariables false
set_option linter.unusedSimpArgs false
mutual
def zN.j0 : Nat → Int → Bool → List Int → Int → Int → List (zL) → Option (ByteArray × Int × Int)
 | 0, _, _, _, _, _, _ => none
 | k + 1, x5, x20, x1000, x1001, x1002, x285000 => if x20 = true then ((zK.f x1000 x1001 x1002 x5).bind fun bt289 => ((zma.f k x285000 bt289.1).bind fun t292 => ((zM.f x1000 bt289.2.1 bt289.2.2 4).bind fun bt293 => (if bt293.1 = true then (zN.j1 k t292 (decide ((t292.size : Int) < 12)) x1000 bt293.2.1 bt293.2.2) else (zN.j1 k t292 false x1000 bt293.2.1 bt293.2.2))))) else ((zsa.f k x1000 x1001 x1002).bind fun bt302 => (some (bt302.1, bt302.2.1, bt302.2.2)))
def zN.j1 : Nat → ByteArray → Bool → List Int → Int → Int → Option (ByteArray × Int × Int)
 | 0, _, _, _, _, _ => none
 | k + 1, x6, x32, x1000, x1001, x1002 => if x32 = true then ((zCa.f x1000 x1001 x1002 (([(⟨#[97]⟩ : ByteArray), (⟨#[98]⟩ : ByteArray), (⟨#[99]⟩ : ByteArray)] : List ByteArray))).bind fun bt299 => (if x6.size + bt299.1.size ≤ 9223372036854775807 then (some (x6 ++ bt299.1, bt299.2.1, bt299.2.2)) else (none))) else (some (x6, x1001, x1002))
end
def zN.f (k : Nat) (s0_0 : List Int) (s0_1 : Int) (s0_2 : Int) (l1_0 : List (zL)) : Option (ByteArray × Int × Int) := if (l1_0.length : Int) > 0 then ((zM.f s0_0 s0_1 s0_2 3).bind fun bt285 => (if bt285.1 = true then (zN.j0 k (l1_0.length : Int) false s0_0 bt285.2.1 bt285.2.2 l1_0) else ((zea.f k l1_0).bind fun t288 => (zN.j0 k (l1_0.length : Int) t288 s0_0 bt285.2.1 bt285.2.2 l1_0)))) else (zN.j0 k (l1_0.length : Int) false s0_0 s0_1 s0_2 l1_0)
set_option maxHeartbeats 8000000 in
set_option maxRecDepth 100000 in
theorem zN.calls (k : Nat) (g : Nat) (s0_0 : List Int) (s0_1 : Int) (s0_2 : Int) (A1_0 : Option Addr) (c1_0 : Nat) (l1_0 : List (zL)) (r1 : ByteArray) (r2 : Int) (r3 : Int) (w0 w : World) (hI : za w0 w g s0_0 s0_1 s0_2) (hB : Below w0.heap.size w0 w) (hr1_0 : ∀ W_, zn w W_ g none → Kd.C zXa W_ A1_0 l1_0.length l1_0) (hc1_0 : l1_0.length ≤ c1_0) (h : zN.f k s0_0 s0_1 s0_2 l1_0 = some (r1, r2, r3)) :
  Calls Tryz.prog 114 #[.pointer (some ⟨g, 0, none⟩), .agg #[.slice A1_0 l1_0.length c1_0]] w fun e w' => e = .returned (.string r1) ∧ za w0 w' g s0_0 r2 r3 ∧ Below w0.heap.size w0 w' ∧ zn w w' g none := by
 have hu26 := Tryz.underlying26
 have HR1_0 := zb.mk hr1_0
 have HC1_0 := zb.mk hc1_0
 clear hr1_0 hc1_0
 have HI0 := zb.mk hI
 have HK := zb.mk (zn.refl w g none)
 have HL := zb.mk hB.size
 clear hI
 have HW0 := zb.mk hB.size
 have HB := zb.mk hB
 clear hB
 have H : (if (l1_0.length : Int) > 0 then ((zM.f s0_0 s0_1 s0_2 3).bind fun bt285 => (if bt285.1 = true then (zN.j0 k (l1_0.length : Int) false s0_0 bt285.2.1 bt285.2.2 l1_0) else ((zea.f k l1_0).bind fun t288 => (zN.j0 k (l1_0.length : Int) t288 s0_0 bt285.2.1 bt285.2.2 l1_0)))) else (zN.j0 k (l1_0.length : Int) false s0_0 s0_1 s0_2 l1_0)) = some (r1, r2, r3) := h
 clear h
 have HC3 := zb.mk H
 clear H
 go_enter Tryz.func114, Tryz.ntmps114
 go_upto_region 2 with (first | ((with_reducible refine zoa (N := 3) rfl ?_); (try (refine zOa (by rfl) ?_; dsimp only)); refine zEa ?hg (N := 3) ?hd (cs := #[.slice A1_0 l1_0.length c1_0]) (t := 26) ?hr ?_; (case hd => rfl); (case hg => rfl); (case hr => first | (go_simp; done) | (go_simp; rfl)); intro gb284 hg w4 hbox hb; have n0_ := zb.mk (za.below (by repeat (first | (with_reducible first | exact HI0.out | apply za.alloc | apply za.drewN | apply za.drew | apply za.zca | apply za.zba) | exact HI0.out)) hb); have n1_ := zb.mk (zn.trans (by repeat (first | (with_reducible first | exact HK.out | apply zn.set_ | apply zy | apply zF | apply zx) | exact HK.out)) (zn.of_below hb g none) (.inl rfl)); have n2_ := zb.mk (zw (by repeat (first | (with_reducible first | exact HB.out | apply zg | apply ze | apply zf | refine zh ?_ (za.ge HI0.out)) | exact HB.out)) hb); have n3_ := zb.mk (hbox); have n4_ := zb.mk ((by rw [hg]; exact (zYa (w := w) (g := g) (row := none) (by repeat (first | (with_reducible first | exact HK.out | apply zn.set_ | apply zy | apply zF | apply zx) | exact HK.out))) : w.heap.size ≤ gb284)); have n5_ := zb.mk ((Nat.le_trans HW0.out (by rw [hg]; exact (zYa (w := w) (g := g) (row := none) (by repeat (first | (with_reducible first | exact HK.out | apply zn.set_ | apply zy | apply zF | apply zx) | exact HK.out))) : w.heap.size ≤ gb284) : w0.heap.size ≤ gb284)); have n6_ := zb.mk ((by rw [hg]; exact Nat.ne_of_lt (za.lt (show za w0 _ g s0_0 s0_1 s0_2 from by repeat (first | (with_reducible first | exact HI0.out | apply za.alloc | apply za.drewN | apply za.drew | apply za.zca | apply za.zba) | exact HI0.out))) : g ≠ gb284)); have n7_ := zb.mk ((by rw [hg]; exact Nat.ne_of_gt (za.lt (show za w0 _ g s0_0 s0_1 s0_2 from by repeat (first | (with_reducible first | exact HI0.out | apply za.alloc | apply za.drewN | apply za.drew | apply za.zca | apply za.zba) | exact HI0.out))) : gb284 ≠ g)); clear HI0; clear HK; clear HB; have HI0 := n0_; have HK := n1_; have HB := n2_; have BK284 := n3_; have GW284 := n4_; have GE284 := n5_; have NB0_284 := n6_; have NB284_0 := n7_; clear n0_ n1_ n2_ n3_ n4_ n5_ n6_ n7_; clear hb hbox hg; have hnb5 := NB284_0.out; have hnc5 := NB0_284.out; have hcz6_0 : w4.cell? ⟨gb284, 0, none⟩ = some (.slice A1_0 l1_0.length c1_0) := (zD BK284.out 0).trans rfl; have hfz6_0 := zz BK284.out 0))
 (try simp only [Act.put, List.setIfInBounds_toArray, List.set_cons_zero, List.set_cons_succ])
 go_cut [20] (fun v20 wc => ∃ (kq : Nat) (x20_2 : Bool) (x1001_2 : Int) (x1002_2 : Int), v20 = .bool x20_2 ∧ zb (zN.j0 kq (l1_0.length : Int) x20_2 s0_0 x1001_2 x1002_2 l1_0 = some (r1, r2, r3)) ∧ zb (kq ≤ k) ∧ zb (wc.heap[gb284]? = some (.cells #[(.slice A1_0 l1_0.length c1_0)] 26 (0, 0))) ∧ zb (za w0 wc g s0_0 x1001_2 x1002_2) ∧ zb (zn w wc g none) ∧ zb (Below w0.heap.size w0 wc))
 case first =>
  have H := HC3.out
  clear HC3
  by_cases c7 : (l1_0.length : Int) > 0
  ·rw [if_pos c7] at H
   have c7b0 : decide (0 < (l1_0.length : Int)) = true := decide_eq_true c7
   have c7b1 : decide (0 < l1_0.length) = true := decide_eq_true (by omega)
   clear c7
   (first | rw [c7b0] | (simp only [zva]; rw [c7b0]) | skip)
   replace H := Option.bind_eq_some_iff.mp H
   obtain ⟨⟨t285, t286, t287⟩, A80, H⟩ := H
   replace H : (if t285 = true then (zN.j0 k (l1_0.length : Int) false s0_0 t286 t287 l1_0) else ((zea.f k l1_0).bind fun t288 => (zN.j0 k (l1_0.length : Int) t288 s0_0 t286 t287 l1_0))) = some (r1, r2, r3) := H
   have A8 := zb.mk A80
   clear A80
   by_cases c9 : t285 = true
   ·subst c9
    have H1 : (zN.j0 k (l1_0.length : Int) false s0_0 t286 t287 l1_0) = some (r1, r2, r3) := by rw [if_pos rfl] at H; exact H
    clear H
    have H := H1
    clear H1
    have H' := zb.mk H
    clear H
    go_wp2_with (first | (go_at_call 127; (with_reducible refine (zM.calls g s0_0 s0_1 s0_2 3 true t286 t287 w0 _ ?side1 ?side2 A8.out).mono ?_); (case side1 => repeat (first | (with_reducible first | exact HI0.out | apply za.alloc | apply za.drewN | apply za.drew | apply za.zca | apply za.zba | refine za.far ?_ NB0_284.out _) | exact HI0.out)); (case side2 => repeat (first | (with_reducible first | exact HB.out | apply zg | apply ze | apply zf | refine zh ?_ (za.ge HI0.out) | refine zh ?_ GE284.out) | exact HB.out)); rintro e w10 ⟨rfl, hi, hb, hk⟩; have n0_ := zb.mk (zn.blk hk (g' := gb284) (o := .cells #[.slice A1_0 l1_0.length c1_0] 26 (0, 0)) (by (with_reducible repeat (first | refine zk ?_ _ | refine zm ?_ | refine zi ?_ _)); exact BK284.out) NB284_0.out (by simp)); have n1_ := zb.mk (zn.trans (by repeat (first | (with_reducible first | exact HK.out | apply zn.set_ | apply zy | apply zF | apply zx | refine zS ?_ GW284.out _) | exact HK.out)) hk (.inl rfl)); have n2_ := zb.mk (hb); have n3_ := zb.mk (hi); clear BK284; clear HK; clear HB; clear HI0; have BK284 := n0_; have HK := n1_; have HB := n2_; have HI0 := n3_; clear n0_ n1_ n2_ n3_; (try clear hb); (try clear hb2); (try clear hk); (try clear hi)))
    go_meet
    case rel => exact ⟨_, (false), (t286), (t287), (by first | rfl | (simp; done) | (simp [*]; done)), H', ⟨by first | omega | exact Nat.le_refl _⟩, ⟨by (with_reducible repeat (first | refine zk ?_ _ | refine zm ?_ | refine zi ?_ _)); exact BK284.out⟩, ⟨by repeat (first | (with_reducible first | exact HI0.out | apply za.alloc | apply za.drewN | apply za.drew | apply za.zca | apply za.zba | refine za.far ?_ NB0_284.out _) | exact HI0.out)⟩, ⟨by repeat (first | (with_reducible first | exact HK.out | apply zn.set_ | apply zy | apply zF | apply zx | refine zS ?_ GW284.out _) | exact HK.out)⟩, ⟨by repeat (first | (with_reducible first | exact HB.out | apply zg | apply ze | apply zf | refine zh ?_ (za.ge HI0.out) | refine zh ?_ GE284.out) | exact HB.out)⟩⟩
   ·replace c9 := Bool.eq_false_iff.mpr c9
    subst c9
    have H1 : ((zea.f k l1_0).bind fun t288 => (zN.j0 k (l1_0.length : Int) t288 s0_0 t286 t287 l1_0)) = some (r1, r2, r3) := by rw [if_neg (show ¬ (false = true) by decide)] at H; exact H
    clear H
    have H := H1
    clear H1
    replace H := Option.bind_eq_some_iff.mp H
    obtain ⟨t288, A110, H⟩ := H
    replace H : (zN.j0 k (l1_0.length : Int) t288 s0_0 t286 t287 l1_0) = some (r1, r2, r3) := H
    have A11 := zb.mk A110
    clear A110
    have H' := zb.mk H
    clear H
    go_wp2_with (first | (go_at_call 127; (with_reducible refine (zM.calls g s0_0 s0_1 s0_2 3 false t286 t287 w0 _ ?side1 ?side2 A8.out).mono ?_); (case side1 => repeat (first | (with_reducible first | exact HI0.out | apply za.alloc | apply za.drewN | apply za.drew | apply za.zca | apply za.zba | refine za.far ?_ NB0_284.out _) | exact HI0.out)); (case side2 => repeat (first | (with_reducible first | exact HB.out | apply zg | apply ze | apply zf | refine zh ?_ (za.ge HI0.out) | refine zh ?_ GE284.out) | exact HB.out)); rintro e w12 ⟨rfl, hi, hb, hk⟩; have n0_ := zb.mk (zn.blk hk (g' := gb284) (o := .cells #[.slice A1_0 l1_0.length c1_0] 26 (0, 0)) (by (with_reducible repeat (first | refine zk ?_ _ | refine zm ?_ | refine zi ?_ _)); exact BK284.out) NB284_0.out (by simp)); have n1_ := zb.mk (zn.trans (by repeat (first | (with_reducible first | exact HK.out | apply zn.set_ | apply zy | apply zF | apply zx | refine zS ?_ GW284.out _) | exact HK.out)) hk (.inl rfl)); have n2_ := zb.mk (hb); have n3_ := zb.mk (hi); clear BK284; clear HK; clear HB; clear HI0; have BK284 := n0_; have HK := n1_; have HB := n2_; have HI0 := n3_; clear n0_ n1_ n2_ n3_; (try clear hb); (try clear hb2); (try clear hk); (try clear hi); have hnb13 := NB284_0.out; have hnc13 := NB0_284.out; have hcz14_0 : w12.cell? ⟨gb284, 0, none⟩ = some (.slice A1_0 l1_0.length c1_0) := (zD BK284.out 0).trans rfl; have hfz14_0 := zz BK284.out 0) | (go_at_call 118; (with_reducible refine (zea.calls k _ _ l1_0 t288 _ ?side1 ?side2 A11.out).mono ?_); (case side1 => exact Kd.C_foot_now HR1_0.out (by repeat (first | (with_reducible first | exact HK.out | apply zn.set_ | apply zy | apply zF | apply zx | refine zS ?_ GW284.out _) | exact HK.out))); (case side2 => exact HC1_0.out); rintro e w15 ⟨rfl, hb⟩; have n0_ := zb.mk (za.below (by repeat (first | (with_reducible first | exact HI0.out | apply za.alloc | apply za.drewN | apply za.drew | apply za.zca | apply za.zba | refine za.far ?_ NB0_284.out _) | exact HI0.out)) hb); have n1_ := zb.mk (zG (g := gb284) (o := .cells #[.slice A1_0 l1_0.length c1_0] 26 (0, 0)) (by (with_reducible repeat (first | refine zk ?_ _ | refine zm ?_ | refine zi ?_ _)); exact BK284.out) hb); have n2_ := zb.mk (zn.trans (by repeat (first | (with_reducible first | exact HK.out | apply zn.set_ | apply zy | apply zF | apply zx | refine zS ?_ GW284.out _) | exact HK.out)) (zn.of_below hb g none) (.inl rfl)); have n3_ := zb.mk (zw (by repeat (first | (with_reducible first | exact HB.out | apply zg | apply ze | apply zf | refine zh ?_ (za.ge HI0.out) | refine zh ?_ GE284.out) | exact HB.out)) hb); clear HI0; clear BK284; clear HK; clear HB; have HI0 := n0_; have BK284 := n1_; have HK := n2_; have HB := n3_; clear n0_ n1_ n2_ n3_; (try clear hb); (try clear hb2); (try clear hk); (try clear hi)))
    go_meet
    case rel => exact ⟨_, (t288), (t286), (t287), (by first | rfl | (simp; done) | (simp [*]; done)), H', ⟨by first | omega | exact Nat.le_refl _⟩, ⟨by (with_reducible repeat (first | refine zk ?_ _ | refine zm ?_ | refine zi ?_ _)); exact BK284.out⟩, ⟨by repeat (first | (with_reducible first | exact HI0.out | apply za.alloc | apply za.drewN | apply za.drew | apply za.zca | apply za.zba | refine za.far ?_ NB0_284.out _) | exact HI0.out)⟩, ⟨by repeat (first | (with_reducible first | exact HK.out | apply zn.set_ | apply zy | apply zF | apply zx | refine zS ?_ GW284.out _) | exact HK.out)⟩, ⟨by repeat (first | (with_reducible first | exact HB.out | apply zg | apply ze | apply zf | refine zh ?_ (za.ge HI0.out) | refine zh ?_ GE284.out) | exact HB.out)⟩⟩
  ·rw [if_neg c7] at H
   have c7b0 : decide (0 < (l1_0.length : Int)) = false := decide_eq_false c7
   have c7b1 : decide (0 < l1_0.length) = false := decide_eq_false (by omega)
   clear c7
   (first | rw [c7b0] | (simp only [zva]; rw [c7b0]) | skip)
   have H' := zb.mk H
   clear H
   go_wp2
   go_meet
   case rel => exact ⟨_, (false), (s0_1), (s0_2), (by first | rfl | (simp; done) | (simp [*]; done)), H', ⟨by first | omega | exact Nat.le_refl _⟩, ⟨by (with_reducible repeat (first | refine zk ?_ _ | refine zm ?_ | refine zi ?_ _)); exact BK284.out⟩, ⟨by repeat (first | (with_reducible first | exact HI0.out | apply za.alloc | apply za.drewN | apply za.drew | apply za.zca | apply za.zba | refine za.far ?_ NB0_284.out _) | exact HI0.out)⟩, ⟨by repeat (first | (with_reducible first | exact HK.out | apply zn.set_ | apply zy | apply zF | apply zx | refine zS ?_ GW284.out _) | exact HK.out)⟩, ⟨by repeat (first | (with_reducible first | exact HB.out | apply zg | apply ze | apply zf | refine zh ?_ (za.ge HI0.out) | refine zh ?_ GE284.out) | exact HB.out)⟩⟩
 case rest =>
  clear HC3
  try clear c1
  try clear p2
  try clear c5
  try clear c7
  try clear c7b0
  try clear c7b1
  try clear c9
  try clear c11
  try clear c13
  try clear hcz14_0
  try clear hcz6_0
  try clear hfz14_0
  try clear hfz6_0
  obtain ⟨kq, x20_2, x1001_2, x1002_2, rfl, HA, HJ2, BK284, HI0, HK, HB⟩ := hcut
  cases kq with
  | zero => exact absurd HA.out (by simp [zN.j0])
  | succ kj2 =>
   have H := HA.out
   clear HA
   simp only [zN.j0] at H
   by_cases c16 : x20_2 = true
   ·subst c16
    have H1 : ((zK.f s0_0 x1001_2 x1002_2 (l1_0.length : Int)).bind fun bt289 => ((zma.f kj2 l1_0 bt289.1).bind fun t292 => ((zM.f s0_0 bt289.2.1 bt289.2.2 4).bind fun bt293 => (if bt293.1 = true then (zN.j1 kj2 t292 (decide ((t292.size : Int) < 12)) s0_0 bt293.2.1 bt293.2.2) else (zN.j1 kj2 t292 false s0_0 bt293.2.1 bt293.2.2))))) = some (r1, r2, r3) := by rw [if_pos rfl] at H; exact H
    clear H
    have H := H1
    clear H1
    replace H := Option.bind_eq_some_iff.mp H
    obtain ⟨⟨t289, t290, t291⟩, A170, H⟩ := H
    replace H : ((zma.f kj2 l1_0 t289).bind fun t292 => ((zM.f s0_0 t290 t291 4).bind fun bt293 => (if bt293.1 = true then (zN.j1 kj2 t292 (decide ((t292.size : Int) < 12)) s0_0 bt293.2.1 bt293.2.2) else (zN.j1 kj2 t292 false s0_0 bt293.2.1 bt293.2.2)))) = some (r1, r2, r3) := H
    have A17 := zb.mk A170
    clear A170
    replace H := Option.bind_eq_some_iff.mp H
    obtain ⟨t292, A180, H⟩ := H
    replace H : ((zM.f s0_0 t290 t291 4).bind fun bt293 => (if bt293.1 = true then (zN.j1 kj2 t292 (decide ((t292.size : Int) < 12)) s0_0 bt293.2.1 bt293.2.2) else (zN.j1 kj2 t292 false s0_0 bt293.2.1 bt293.2.2))) = some (r1, r2, r3) := H
    have A18 := zb.mk A180
    clear A180
    have HC19 := zb.mk H
    clear H
    try go_wp2
    have n0_ := zb.mk (zm BK284.out)
    have n1_ := zb.mk (za.drew HI0.out)
    have n2_ := zb.mk (zF HK.out)
    have n3_ := zb.mk (zf HB.out)
    clear BK284
    clear HI0
    clear HK
    clear HB
    have BK284 := n0_
    have HI0 := n1_
    have HK := n2_
    have HB := n3_
    clear n0_ n1_ n2_ n3_
    refine start_ (n := 6) (S := fun w' => w'.cell? ⟨gb284, 0, none⟩ = some (.slice A1_0 l1_0.length c1_0)) (ds := []) #[false, false, false, false, false, false] (by kernel_rfl) rfl rfl ((zD BK284.out 0).trans rfl) (fun hHeld => ?_)
    generalize wc.drew = w20 at BK284 HI0 HK HB hHeld ⊢
    refine zib (i := 1) (N := some 22) (v := ?_) (a' := ?_) #[false, true, false, false, false, false] rfl rfl (by kernel_rfl) (fun _ _ _ h => h) (Or.inl ⟨by rfl, ?_⟩) ?_ ?_
    rotate_left
    ·intro w'
     go_simp
     with_reducible rfl
    rotate_left
    ·simp only [Act.put, List.setIfInBounds_toArray, List.set_cons_zero, List.set_cons_succ, zva]
     rfl
    refine zib (i := 2) (N := some 23) (v := ?_) (a' := ?_) #[false, true, true, false, false, false] rfl rfl (by kernel_rfl) (fun _ _ _ h => h) (Or.inl ⟨by rfl, ?_⟩) ?_ ?_
    rotate_left
    ·intro w'
     go_simp
     with_reducible rfl
    rotate_left
    ·simp only [Act.put, List.setIfInBounds_toArray, List.set_cons_zero, List.set_cons_succ, zva]
     rfl
    refine take_ (i := 0) (N := some 21) (v := ?_) (a' := ?_) #[true, true, true, false, false, false] rfl rfl (by kernel_rfl) (fun _ _ _ h => h) (Or.inl ⟨by rfl, ?_⟩) hHeld ?_ ?_
    rotate_left
    ·intro w' s0
     go_simp
     with_reducible rfl
    rotate_left
    ·simp only [Act.put, List.setIfInBounds_toArray, List.set_cons_zero, List.set_cons_succ, zva]
     rfl
    refine one_ (i := 3) (N := some 24) #[true, true, true, true, false, false] rfl rfl (by kernel_rfl) (by decide) (fun K hK => ?_)
    refine goes_ Tryz.func132 (by kernel_rfl) rfl #[.pointer (some ⟨g, 0, none⟩), .int .i64 (l1_0.length : Int)] (by rfl) rfl rfl (by (try simp only [List.map_toArray, List.map_cons, List.map_nil]); first | done | rfl | (simp only [List.length_drop, List.length_take]; rfl)) ?_
    with_reducible refine (zK.calls g s0_0 x1001_2 x1002_2 (l1_0.length : Int) t289 t290 t291 w0 _ ?side1 ?side2 A17.out).mono ?_
    (case side1 => repeat (first | (with_reducible first | exact HI0.out | apply za.alloc | apply za.drewN | apply za.drew | apply za.zca | apply za.zba | refine za.far ?_ NB0_284.out _) | exact HI0.out))
    (case side2 => repeat (first | (with_reducible first | exact HB.out | apply zg | apply ze | apply zf | refine zh ?_ (za.ge HI0.out) | refine zh ?_ GE284.out) | exact HB.out))
    rintro e w21 ⟨rfl, hi, hb, hk⟩
    refine ⟨_, rfl, ?_⟩
    have n0_ := zb.mk (zn.blk hk (g' := gb284) (o := .cells #[.slice A1_0 l1_0.length c1_0] 26 (0, 0)) (by (with_reducible repeat (first | refine zk ?_ _ | refine zm ?_ | refine zi ?_ _)); exact BK284.out) NB284_0.out (by simp))
    have n1_ := zb.mk (zn.trans (by repeat (first | (with_reducible first | exact HK.out | apply zn.set_ | apply zy | apply zF | apply zx | refine zS ?_ GW284.out _) | exact HK.out)) hk (.inl rfl))
    have n2_ := zb.mk (hb)
    have n3_ := zb.mk (hi)
    clear BK284
    clear HK
    clear HB
    clear HI0
    have BK284 := n0_
    have HK := n1_
    have HB := n2_
    have HI0 := n3_
    clear n0_ n1_ n2_ n3_
    (try clear hb)
    (try clear hb2)
    (try clear hk)
    (try clear hi)
    refine hK.out _ _ ((zD BK284.out 0).trans rfl) (fun hHeld => ?_)
    clear hK K
    refine norm_ (a' := ?_) ?_ ?_
    rotate_left
    ·show Act.put _ (some 24) _ = _
     simp only [Act.put, List.setIfInBounds_toArray, List.set_cons_zero, List.set_cons_succ, zva]
     rfl
    refine one_ (i := 4) (N := some 25) #[true, true, true, true, true, false] rfl rfl (by kernel_rfl) (by decide) (fun K hK => ?_)
    refine goes_ Tryz.func170 (by kernel_rfl) rfl #[.agg #[.slice A1_0 l1_0.length c1_0], .int .i64 t289] (by rfl) rfl rfl (by (try simp only [List.map_toArray, List.map_cons, List.map_nil]); first | done | rfl | (simp only [List.length_drop, List.length_take]; rfl)) ?_
    with_reducible refine (zma.calls kj2 _ _ l1_0 t289 t292 _ ?side1 ?side2 A18.out).mono ?_
    (case side1 => exact Kd.C_foot_now HR1_0.out (by repeat (first | (with_reducible first | exact HK.out | apply zn.set_ | apply zy | apply zF | apply zx | refine zS ?_ GW284.out _) | exact HK.out)))
    (case side2 => exact HC1_0.out)
    rintro e w22 ⟨rfl, hb⟩
    refine ⟨_, rfl, ?_⟩
    have n0_ := zb.mk (zG (g := gb284) (o := .cells #[.slice A1_0 l1_0.length c1_0] 26 (0, 0)) (by (with_reducible repeat (first | refine zk ?_ _ | refine zm ?_ | refine zi ?_ _)); exact BK284.out) hb)
    have n1_ := zb.mk (za.below (by repeat (first | (with_reducible first | exact HI0.out | apply za.alloc | apply za.drewN | apply za.drew | apply za.zca | apply za.zba | refine za.far ?_ NB0_284.out _) | exact HI0.out)) hb)
    have n2_ := zb.mk (zn.trans (by repeat (first | (with_reducible first | exact HK.out | apply zn.set_ | apply zy | apply zF | apply zx | refine zS ?_ GW284.out _) | exact HK.out)) (zn.of_below hb g none) (.inl rfl))
    have n3_ := zb.mk (zw (by repeat (first | (with_reducible first | exact HB.out | apply zg | apply ze | apply zf | refine zh ?_ (za.ge HI0.out) | refine zh ?_ GE284.out) | exact HB.out)) hb)
    clear BK284
    clear HI0
    clear HK
    clear HB
    have BK284 := n0_
    have HI0 := n1_
    have HK := n2_
    have HB := n3_
    clear n0_ n1_ n2_ n3_
    (try clear hb)
    (try clear hb2)
    (try clear hk)
    (try clear hi)
    refine hK.out _ _ ((zD BK284.out 0).trans rfl) (fun hHeld => ?_)
    clear hK K
    refine norm_ (a' := ?_) ?_ ?_
    rotate_left
    ·show Act.put _ (some 25) _ = _
     simp only [Act.put, List.setIfInBounds_toArray, List.set_cons_zero, List.set_cons_succ, zva]
     rfl
    refine zib (i := 5) (N := some 6) (v := ?_) (a' := ?_) #[true, true, true, true, true, true] rfl rfl (by kernel_rfl) (fun _ _ _ h => h) (Or.inl ⟨by rfl, ?_⟩) ?_ ?_
    rotate_left
    ·intro w'
     go_simp
     with_reducible rfl
    rotate_left
    ·simp only [Act.put, List.setIfInBounds_toArray, List.set_cons_zero, List.set_cons_succ, zva]
     rfl
    refine done_ (by kernel_rfl) ?_
    go_upto_region 4 with (fail)
    go_cut [32] (fun v32 wc => ∃ (kq : Nat) (x32_18 : Bool) (x1001_18 : Int) (x1002_18 : Int), v32 = .bool x32_18 ∧ zb (zN.j1 kq t292 x32_18 s0_0 x1001_18 x1002_18 = some (r1, r2, r3)) ∧ zb (kq ≤ kj2) ∧ zb (wc.heap[gb284]? = some (.cells #[(.slice A1_0 l1_0.length c1_0)] 26 (0, 0))) ∧ zb (za w0 wc g s0_0 x1001_18 x1002_18) ∧ zb (zn w wc g none) ∧ zb (Below w0.heap.size w0 wc))
    case first =>
     have H := HC19.out
     clear HC19
     replace H := Option.bind_eq_some_iff.mp H
     obtain ⟨⟨t293, t294, t295⟩, A230, H⟩ := H
     replace H : (if t293 = true then (zN.j1 kj2 t292 (decide ((t292.size : Int) < 12)) s0_0 t294 t295) else (zN.j1 kj2 t292 false s0_0 t294 t295)) = some (r1, r2, r3) := H
     have A23 := zb.mk A230
     clear A230
     by_cases c24 : t293 = true
     ·subst c24
      have H1 : (zN.j1 kj2 t292 (decide ((t292.size : Int) < 12)) s0_0 t294 t295) = some (r1, r2, r3) := by rw [if_pos rfl] at H; exact H
      clear H
      have H := H1
      clear H1
      have H' := zb.mk H
      clear H
      go_wp2_with (first | ((with_reducible refine zH (f := 127) rfl ?_); refine zra (some 27) rfl rfl Tryz.func127 (by kernel_rfl) rfl #[.pointer (some ⟨g, 0, none⟩), .int .i64 4] rfl (by (try simp only [List.map_toArray, List.map_cons, List.map_nil]); first | done | rfl | (simp only [List.length_drop, List.length_take]; rfl)) ?_; (with_reducible refine (zM.calls g s0_0 t290 t291 4 true t294 t295 w0 _ ?side1 ?side2 A23.out).mono ?_); (case side1 => repeat (first | (with_reducible first | exact HI0.out | apply za.alloc | apply za.drewN | apply za.drew | apply za.zca | apply za.zba | refine za.far ?_ NB0_284.out _) | exact HI0.out)); (case side2 => repeat (first | (with_reducible first | exact HB.out | apply zg | apply ze | apply zf | refine zh ?_ (za.ge HI0.out) | refine zh ?_ GE284.out) | exact HB.out)); rintro e w25 ⟨rfl, hi, hb, hk⟩; refine ⟨_, rfl, ?_⟩; have n0_ := zb.mk (zn.blk hk (g' := gb284) (o := .cells #[.slice A1_0 l1_0.length c1_0] 26 (0, 0)) (by (with_reducible repeat (first | refine zk ?_ _ | refine zm ?_ | refine zi ?_ _)); exact BK284.out) NB284_0.out (by simp)); have n1_ := zb.mk (zn.trans (by repeat (first | (with_reducible first | exact HK.out | apply zn.set_ | apply zy | apply zF | apply zx | refine zS ?_ GW284.out _) | exact HK.out)) hk (.inl rfl)); have n2_ := zb.mk (hb); have n3_ := zb.mk (hi); clear BK284; clear HK; clear HB; clear HI0; have BK284 := n0_; have HK := n1_; have HB := n2_; have HI0 := n3_; clear n0_ n1_ n2_ n3_; (try clear hb); (try clear hb2); (try clear hk); (try clear hi)))
      go_meet
      case rel => exact ⟨_, (decide ((t292.size : Int) < 12)), (t294), (t295), (by first | rfl | (simp; done) | (simp [*]; done)), H', ⟨by have := HJ2.out; first | omega | exact Nat.le_refl _⟩, ⟨by (with_reducible repeat (first | refine zk ?_ _ | refine zm ?_ | refine zi ?_ _)); exact BK284.out⟩, ⟨by repeat (first | (with_reducible first | exact HI0.out | apply za.alloc | apply za.drewN | apply za.drew | apply za.zca | apply za.zba | refine za.far ?_ NB0_284.out _) | exact HI0.out)⟩, ⟨by repeat (first | (with_reducible first | exact HK.out | apply zn.set_ | apply zy | apply zF | apply zx | refine zS ?_ GW284.out _) | exact HK.out)⟩, ⟨by repeat (first | (with_reducible first | exact HB.out | apply zg | apply ze | apply zf | refine zh ?_ (za.ge HI0.out) | refine zh ?_ GE284.out) | exact HB.out)⟩⟩
     ·replace c24 := Bool.eq_false_iff.mpr c24
      subst c24
      have H1 : (zN.j1 kj2 t292 false s0_0 t294 t295) = some (r1, r2, r3) := by rw [if_neg (show ¬ (false = true) by decide)] at H; exact H
      clear H
      have H := H1
      clear H1
      have H' := zb.mk H
      clear H
      go_wp2_with (first | ((with_reducible refine zH (f := 127) rfl ?_); refine zra (some 27) rfl rfl Tryz.func127 (by kernel_rfl) rfl #[.pointer (some ⟨g, 0, none⟩), .int .i64 4] rfl (by (try simp only [List.map_toArray, List.map_cons, List.map_nil]); first | done | rfl | (simp only [List.length_drop, List.length_take]; rfl)) ?_; (with_reducible refine (zM.calls g s0_0 t290 t291 4 false t294 t295 w0 _ ?side1 ?side2 A23.out).mono ?_); (case side1 => repeat (first | (with_reducible first | exact HI0.out | apply za.alloc | apply za.drewN | apply za.drew | apply za.zca | apply za.zba | refine za.far ?_ NB0_284.out _) | exact HI0.out)); (case side2 => repeat (first | (with_reducible first | exact HB.out | apply zg | apply ze | apply zf | refine zh ?_ (za.ge HI0.out) | refine zh ?_ GE284.out) | exact HB.out)); rintro e w26 ⟨rfl, hi, hb, hk⟩; refine ⟨_, rfl, ?_⟩; have n0_ := zb.mk (zn.blk hk (g' := gb284) (o := .cells #[.slice A1_0 l1_0.length c1_0] 26 (0, 0)) (by (with_reducible repeat (first | refine zk ?_ _ | refine zm ?_ | refine zi ?_ _)); exact BK284.out) NB284_0.out (by simp)); have n1_ := zb.mk (zn.trans (by repeat (first | (with_reducible first | exact HK.out | apply zn.set_ | apply zy | apply zF | apply zx | refine zS ?_ GW284.out _) | exact HK.out)) hk (.inl rfl)); have n2_ := zb.mk (hb); have n3_ := zb.mk (hi); clear BK284; clear HK; clear HB; clear HI0; have BK284 := n0_; have HK := n1_; have HB := n2_; have HI0 := n3_; clear n0_ n1_ n2_ n3_; (try clear hb); (try clear hb2); (try clear hk); (try clear hi)))
      go_meet
      case rel => exact ⟨_, (false), (t294), (t295), (by first | rfl | (simp; done) | (simp [*]; done)), H', ⟨by have := HJ2.out; first | omega | exact Nat.le_refl _⟩, ⟨by (with_reducible repeat (first | refine zk ?_ _ | refine zm ?_ | refine zi ?_ _)); exact BK284.out⟩, ⟨by repeat (first | (with_reducible first | exact HI0.out | apply za.alloc | apply za.drewN | apply za.drew | apply za.zca | apply za.zba | refine za.far ?_ NB0_284.out _) | exact HI0.out)⟩, ⟨by repeat (first | (with_reducible first | exact HK.out | apply zn.set_ | apply zy | apply zF | apply zx | refine zS ?_ GW284.out _) | exact HK.out)⟩, ⟨by repeat (first | (with_reducible first | exact HB.out | apply zg | apply ze | apply zf | refine zh ?_ (za.ge HI0.out) | refine zh ?_ GE284.out) | exact HB.out)⟩⟩
    case rest =>
     clear HC19
     try clear c1
     try clear c2
     try clear p2
     try clear c5
     try clear c7
     try clear c7b0
     try clear c7b1
     try clear c9
     try clear c11
     try clear c12
     try clear c13
     try clear c16
     try clear c17
     try clear c24
     try clear hcz14_0
     try clear hcz6_0
     try clear hfz14_0
     try clear hfz6_0
     try clear p2
     obtain ⟨kq, x32_18, x1001_18, x1002_18, rfl, HA, HJ18, BK284, HI0, HK, HB⟩ := hcut
     cases kq with
     | zero => exact absurd HA.out (by simp [zN.j1])
     | succ kj18 =>
      have H := HA.out
      clear HA
      simp only [zN.j1] at H
      by_cases c27 : x32_18 = true
      ·subst c27
       have H1 : ((zCa.f s0_0 x1001_18 x1002_18 (([(⟨#[97]⟩ : ByteArray), (⟨#[98]⟩ : ByteArray), (⟨#[99]⟩ : ByteArray)] : List ByteArray))).bind fun bt299 => (if t292.size + bt299.1.size ≤ 9223372036854775807 then (some (t292 ++ bt299.1, bt299.2.1, bt299.2.2)) else (none))) = some (r1, r2, r3) := by rw [if_pos rfl] at H; exact H
       clear H
       have H := H1
       clear H1
       obtain ⟨y296, hy296⟩ : ∃ y_ : List ByteArray, y_ = (([(⟨#[97]⟩ : ByteArray), (⟨#[98]⟩ : ByteArray), (⟨#[99]⟩ : ByteArray)] : List ByteArray)) := ⟨_, rfl⟩
       replace H : ((zCa.f s0_0 x1001_18 x1002_18 y296).bind fun bt299 => (if t292.size + bt299.1.size ≤ 9223372036854775807 then (some (t292 ++ bt299.1, bt299.2.1, bt299.2.2)) else (none))) = some (r1, r2, r3) := by first | (rw [hy296]; with_reducible exact H) | (have H2_ := (Option.bind_some _ _).symm.trans H; rw [hy296]; with_reducible exact H2_) | (have H2_ := (Option.bind_some _ _).symm.trans H; with_reducible exact H2_) | with_reducible exact H | (rw [hy296]; exact H) | exact H
       have Ny296 := zb.mk hy296
       clear hy296
       replace H := Option.bind_eq_some_iff.mp H
       obtain ⟨⟨t299, t300, t301⟩, A280, H⟩ := H
       replace H : (if t292.size + t299.size ≤ 9223372036854775807 then (some (t292 ++ t299, t300, t301)) else (none)) = some (r1, r2, r3) := H
       have A28 := zb.mk A280
       clear A280
       by_cases c29 : t292.size + t299.size ≤ 9223372036854775807
       ·rw [if_pos c29] at H
        have c29b0 := eq_true c29
        have c29b1 : decide (t292.size + t299.size ≤ 9223372036854775807) = true := decide_eq_true c29
        try have c29b2 : (9223372036854775807 < t292.size + t299.size) = False := eq_false (Nat.not_lt.2 c29)
        simp only [Option.some.injEq, Prod.mk.injEq] at H
        obtain ⟨rfl, rfl, rfl⟩ := H
        go_wp2_with (first | ((with_reducible refine zoa (N := 35) rfl ?_); (try (refine zOa (by rfl) ?_; dsimp only)); refine Kd.R_lit Kd.string _ 9 ?hg (N := 35) ?hd (xs := ([(⟨#[97]⟩ : ByteArray), (⟨#[98]⟩ : ByteArray), (⟨#[99]⟩ : ByteArray)] : List ByteArray)) (inner := [.string (⟨#[97]⟩ : ByteArray), .string (⟨#[98]⟩ : ByteArray), .string (⟨#[99]⟩ : ByteArray)]) (ok := fun _ => True) (okp := fun _ => True) ?hr ?hp (fun _ hk => hk) trivial (Below.refl _ _) (Nat.le_refl _) (by simp) ?_; (case hd => rfl); (case hg => rfl); (case hr => first | (go_simp; done) | (go_simp; rfl)); (case hp => exact (Reps.one (show Kd.M Kd.string _ _ _ (⟨#[97]⟩ : ByteArray) [.string (⟨#[97]⟩ : ByteArray)] from rfl) (Reps.one (show Kd.M Kd.string _ _ _ (⟨#[98]⟩ : ByteArray) [.string (⟨#[98]⟩ : ByteArray)] from rfl) (Reps.one (show Kd.M Kd.string _ _ _ (⟨#[99]⟩ : ByteArray) [.string (⟨#[99]⟩ : ByteArray)] from rfl) (Reps.none _ _))))); intro v297 w30 ho31 hb hg_ hnew_; clear hg_ hnew_; (first | rw [← Ny296.out] at ho31 | (simp only [Int.reduceToNat] at ho31; rw [← Ny296.out] at ho31)); have n0_ := zb.mk (Kd.zua ho31 (zYa (w := w) (g := g) (row := none) (by repeat (first | (with_reducible first | exact HK.out | apply zn.set_ | apply zy | apply zF | apply zx | refine zS ?_ GW284.out _) | exact HK.out)))); have n1_ := zb.mk (zG (g := gb284) (o := .cells #[.slice A1_0 l1_0.length c1_0] 26 (0, 0)) (by (with_reducible repeat (first | refine zk ?_ _ | refine zm ?_ | refine zi ?_ _)); exact BK284.out) hb); have n2_ := zb.mk (za.below (by repeat (first | (with_reducible first | exact HI0.out | apply za.alloc | apply za.drewN | apply za.drew | apply za.zca | apply za.zba | refine za.far ?_ NB0_284.out _) | exact HI0.out)) hb); have n3_ := zb.mk (zn.trans (by repeat (first | (with_reducible first | exact HK.out | apply zn.set_ | apply zy | apply zF | apply zx | refine zS ?_ GW284.out _) | exact HK.out)) (zn.of_below hb g none) (.inl rfl)); have n4_ := zb.mk (zw (by repeat (first | (with_reducible first | exact HB.out | apply zg | apply ze | apply zf | refine zh ?_ (za.ge HI0.out) | refine zh ?_ GE284.out) | exact HB.out)) hb); clear BK284; clear HI0; clear HK; clear HB; have HO298 := n0_; have BK284 := n1_; have HI0 := n2_; have HK := n3_; have HB := n4_; clear n0_ n1_ n2_ n3_ n4_; clear hb ho31; obtain ⟨Ao32, co32, eo32⟩ := Kd.zpa HO298.out; subst eo32) | ((with_reducible refine zH (f := 126) rfl ?_); refine zra (some 36) rfl rfl Tryz.func126 (by kernel_rfl) rfl #[.pointer (some ⟨g, 0, none⟩), .slice Ao32 y296.length co32] rfl (by (try simp only [List.map_toArray, List.map_cons, List.map_nil]); first | done | rfl | (simp only [List.length_drop, List.length_take]; rfl)) ?_; (with_reducible refine (zCa.calls g s0_0 x1001_18 x1002_18 _ _ y296 t299 t300 t301 w0 _ ?side1 ?side2 ?side3 ?side4 ?side5 A28.out).mono ?_); (case side1 => repeat (first | (with_reducible first | exact HI0.out | apply za.alloc | apply za.drewN | apply za.drew | apply za.zca | apply za.zba | refine za.far ?_ NB0_284.out _) | exact HI0.out)); (case side2 => repeat (first | (with_reducible first | exact HB.out | apply zg | apply ze | apply zf | refine zh ?_ (za.ge HI0.out) | refine zh ?_ GE284.out) | exact HB.out)); (case side3 => repeat (first | exact (Kd.zQ HO298.out).2.2 | (with_reducible refine Kd.zga ?_ _) | (with_reducible refine Kd.zia ?_ _) | (with_reducible refine Kd.zAa ?_))); (case side4 => exact (Kd.zQ HO298.out).2.1); (case side5 => exact far_slice (za.own_ne HI0.out HO298.out (by decide))); rintro e w33 ⟨rfl, hi, hb, hk⟩; refine ⟨_, rfl, ?_⟩; have n0_ := zb.mk (zn.blk hk (g' := gb284) (o := .cells #[.slice A1_0 l1_0.length c1_0] 26 (0, 0)) (by (with_reducible repeat (first | refine zk ?_ _ | refine zm ?_ | refine zi ?_ _)); exact BK284.out) NB284_0.out (by simp)); have n1_ := zb.mk (Kd.zZ (Kd.zGa (za.apart (show za w0 _ g s0_0 x1001_18 x1002_18 from by repeat (first | (with_reducible first | exact HI0.out | apply za.alloc | apply za.drewN | apply za.drew | apply za.zca | apply za.zba | refine za.far ?_ NB0_284.out _) | exact HI0.out)) (by (with_reducible repeat (first | apply Kd.zo | apply Kd.zq | apply Kd.zA)); exact HO298.out) (by decide)) hk (fun _ h => h.2)) (fun _ h => h.1)); have n2_ := zb.mk (zn.trans (by repeat (first | (with_reducible first | exact HK.out | apply zn.set_ | apply zy | apply zF | apply zx | refine zS ?_ GW284.out _) | exact HK.out)) hk (.inl rfl)); have n3_ := zb.mk (hb); have n4_ := zb.mk (hi); clear BK284; clear HO298; clear HK; clear HB; clear HI0; have BK284 := n0_; have HO298 := n1_; have HK := n2_; have HB := n3_; have HI0 := n4_; clear n0_ n1_ n2_ n3_ n4_; (try clear hb); (try clear hb2); (try clear hk); (try clear hi)))
        go_ret
        exact ⟨by first | rfl | (simp [zC, zB] <;> rfl) | (simp [*, zC, zB] <;> rfl), by repeat (first | (with_reducible first | exact HI0.out | apply za.alloc | apply za.drewN | apply za.drew | apply za.zca | apply za.zba | refine za.far ?_ NB0_284.out _) | exact HI0.out), by repeat (first | (with_reducible first | exact HB.out | apply zg | apply ze | apply zf | refine zh ?_ (za.ge HI0.out) | refine zh ?_ GE284.out) | exact HB.out), by repeat (first | (with_reducible first | exact HK.out | apply zn.set_ | apply zy | apply zF | apply zx | refine zS ?_ GW284.out _) | exact HK.out)⟩
       ·rw [if_neg c29] at H
        exact absurd H (by simp)
      ·replace c27 := Bool.eq_false_iff.mpr c27
       subst c27
       have H1 : (some (t292, x1001_18, x1002_18)) = some (r1, r2, r3) := by rw [if_neg (show ¬ (false = true) by decide)] at H; exact H
       clear H
       have H := H1
       clear H1
       simp only [Option.some.injEq, Prod.mk.injEq] at H
       obtain ⟨rfl, rfl, rfl⟩ := H
       go_wp2
       go_ret
       exact ⟨by first | rfl | (simp [zC, zB] <;> rfl) | (simp [*, zC, zB] <;> rfl), by repeat (first | (with_reducible first | exact HI0.out | apply za.alloc | apply za.drewN | apply za.drew | apply za.zca | apply za.zba | refine za.far ?_ NB0_284.out _) | exact HI0.out), by repeat (first | (with_reducible first | exact HB.out | apply zg | apply ze | apply zf | refine zh ?_ (za.ge HI0.out) | refine zh ?_ GE284.out) | exact HB.out), by repeat (first | (with_reducible first | exact HK.out | apply zn.set_ | apply zy | apply zF | apply zx | refine zS ?_ GW284.out _) | exact HK.out)⟩
   ·replace c16 := Bool.eq_false_iff.mpr c16
    subst c16
    have H1 : ((zsa.f kj2 s0_0 x1001_2 x1002_2).bind fun bt302 => (some (bt302.1, bt302.2.1, bt302.2.2))) = some (r1, r2, r3) := by rw [if_neg (show ¬ (false = true) by decide)] at H; exact H
    clear H
    have H := H1
    clear H1
    replace H := Option.bind_eq_some_iff.mp H
    obtain ⟨⟨t302, t303, t304⟩, A340, H⟩ := H
    replace H : (some (t302, t303, t304)) = some (r1, r2, r3) := H
    have A34 := zb.mk A340
    clear A340
    simp only [Option.some.injEq, Prod.mk.injEq] at H
    obtain ⟨rfl, rfl, rfl⟩ := H
    go_wp2_with (first | ((with_reducible refine zH (f := 184) rfl ?_); refine zra (some 40) rfl rfl Tryz.func184 (by kernel_rfl) rfl #[.pointer (some ⟨g, 0, none⟩)] rfl (by (try simp only [List.map_toArray, List.map_cons, List.map_nil]); first | done | rfl | (simp only [List.length_drop, List.length_take]; rfl)) ?_; (with_reducible refine (zsa.calls kj2 g s0_0 x1001_2 x1002_2 t302 t303 t304 w0 _ ?side1 ?side2 A34.out).mono ?_); (case side1 => repeat (first | (with_reducible first | exact HI0.out | apply za.alloc | apply za.drewN | apply za.drew | apply za.zca | apply za.zba | refine za.far ?_ NB0_284.out _) | exact HI0.out)); (case side2 => repeat (first | (with_reducible first | exact HB.out | apply zg | apply ze | apply zf | refine zh ?_ (za.ge HI0.out) | refine zh ?_ GE284.out) | exact HB.out)); rintro e w35 ⟨rfl, hi, hb, hk⟩; refine ⟨_, rfl, ?_⟩; have n0_ := zb.mk (zn.blk hk (g' := gb284) (o := .cells #[.slice A1_0 l1_0.length c1_0] 26 (0, 0)) (by (with_reducible repeat (first | refine zk ?_ _ | refine zm ?_ | refine zi ?_ _)); exact BK284.out) NB284_0.out (by simp)); have n1_ := zb.mk (zn.trans (by repeat (first | (with_reducible first | exact HK.out | apply zn.set_ | apply zy | apply zF | apply zx | refine zS ?_ GW284.out _) | exact HK.out)) hk (.inl rfl)); have n2_ := zb.mk (hb); have n3_ := zb.mk (hi); clear BK284; clear HK; clear HB; clear HI0; have BK284 := n0_; have HK := n1_; have HB := n2_; have HI0 := n3_; clear n0_ n1_ n2_ n3_; (try clear hb); (try clear hb2); (try clear hk); (try clear hi)))
    go_ret
    exact ⟨by first | rfl | (simp [zC, zB] <;> rfl) | (simp [*, zC, zB] <;> rfl), by repeat (first | (with_reducible first | exact HI0.out | apply za.alloc | apply za.drewN | apply za.drew | apply za.zca | apply za.zba | refine za.far ?_ NB0_284.out _) | exact HI0.out), by repeat (first | (with_reducible first | exact HB.out | apply zg | apply ze | apply zf | refine zh ?_ (za.ge HI0.out) | refine zh ?_ GE284.out) | exact HB.out), by repeat (first | (with_reducible first | exact HK.out | apply zn.set_ | apply zy | apply zF | apply zx | refine zS ?_ GW284.out _) | exact HK.out)⟩
end Go.Proofs.YtfabennfhmlihaaGreatDoor.P
end
section
namespace Go.Proofs.YtfabennfhmlihaaGreatDoor.P
open Go.RowKit Go.Proofs.YtfabennfhmlihaaGreatDoorW.zJ Go.Proofs.YtfabennfhmlihaaGreatDoorW.zU Go.Proofs.YtfabennfhmlihaaGreatDoorW.PrintMore
set_option linter.unusedVariables false
set_option linter.unusedSimpArgs false
def spec_DrawUniquePrefix.f (k : Nat) (l0 : List Int) : Option ((List (zL)) × ByteArray) := (zP.f k l0 0 0).bind fun bt307 => ((zN.f k l0 bt307.2.1 bt307.2.2 bt307.1).bind fun bt313 => (some (bt307.1, bt313.1)))
set_option maxHeartbeats 8000000 in
set_option maxRecDepth 100000 in
theorem spec_DrawUniquePrefix.calls (k : Nat) (A0 : Option Addr) (c0 : Nat) (l0 : List Int) (r1 : List (zL)) (r2 : ByteArray) (w : World) (hr0 : Kd.C (Kd.int .u8) w A0 l0.length l0) (hc0 : l0.length ≤ c0) (h : spec_DrawUniquePrefix.f k l0 = some (r1, r2)) :
  Calls Tryz.prog 10 #[.slice A0 l0.length c0] w fun e w' => ∃ v0_ : Value, e = .returned (.tuple #[.agg #[v0_], .string r2]) ∧ Kd.R zXa 73 w' w.heap.size (fun _ => True) v0_ r1 ∧ Below w.heap.size w w' := by
 have hu26 := Tryz.underlying26
 have hu82 := Tryz.underlying82
 have HR0 := zb.mk hr0
 have HC0 := zb.mk hc0
 clear hr0 hc0
 have HB := zb.mk (Below.refl w.heap.size w)
 have H : ((zP.f k l0 0 0).bind fun bt307 => ((zN.f k l0 bt307.2.1 bt307.2.2 bt307.1).bind fun bt313 => (some (bt307.1, bt313.1)))) = some (r1, r2) := h
 clear h
 replace H := Option.bind_eq_some_iff.mp H
 obtain ⟨⟨t307, t310, t311⟩, A20, H⟩ := H
 replace H : ((zN.f k l0 t310 t311 t307).bind fun bt313 => (some (t307, bt313.1))) = some (r1, r2) := H
 have A2 := zb.mk A20
 clear A20
 replace H := Option.bind_eq_some_iff.mp H
 obtain ⟨⟨t313, t314, t315⟩, A30, H⟩ := H
 replace H : (some (t307, t313)) = some (r1, r2) := H
 have A3 := zb.mk A30
 clear A30
 simp only [Option.some.injEq, Prod.mk.injEq] at H
 obtain ⟨rfl, rfl⟩ := H
 go_enter Tryz.func10, Tryz.ntmps10
 try go_wp2_with (first | ((with_reducible refine zoa (N := 2) rfl ?_); refine zEa ?hg (N := 2) ?hd (cs := #[.slice none 0 0]) (t := 26) ?hr ?_; (case hd => rfl); (case hg => rfl); (case hr => first | (go_simp; done) | (go_simp; rfl)); intro gb305 hg w4 hbox hb; have n0_ := zb.mk (zw (by repeat (first | (with_reducible first | exact HB.out | apply zg | apply ze | apply zf) | exact HB.out)) hb); have n1_ := zb.mk (hbox); have n2_ := zb.mk ((by rw [hg]; exact (zt (by repeat (first | (with_reducible first | exact HB.out | apply zg | apply ze | apply zf) | exact HB.out))) : w.heap.size ≤ gb305)); have n3_ := zb.mk ((by rw [hg]; exact (zt (by repeat (first | (with_reducible first | exact HB.out | apply zg | apply ze | apply zf) | exact HB.out))) : w.heap.size ≤ gb305)); clear HB; have HB := n0_; have BK305 := n1_; have GW305 := n2_; have GE305 := n3_; clear n0_ n1_ n2_ n3_; clear hb hbox hg) | ((with_reducible refine zoa (N := 8) rfl ?_); refine zEa ?hg (N := 8) ?hd (cs := #[.slice A0 l0.length c0, .int .i64 0, .int .u64 0]) (t := 82) ?hr ?_; (case hd => rfl); (case hg => rfl); (case hr => first | (go_simp; done) | (go_simp; rfl)); intro gb306 hg w5 hbox hb; have n0_ := zb.mk (zG (g := gb305) (o := .cells #[.slice none 0 0] 26 (0, 0)) (by (with_reducible repeat (first | refine zk ?_ _ | refine zm ?_ | refine zi ?_ _)); exact BK305.out) hb); have n1_ := zb.mk (zw (by repeat (first | (with_reducible first | exact HB.out | apply zg | apply ze | apply zf | refine zh ?_ GE305.out) | exact HB.out)) hb); have n2_ := zb.mk ((by rw [hg]; exact (zt (by repeat (first | (with_reducible first | exact HB.out | apply zg | apply ze | apply zf | refine zh ?_ GE305.out) | exact HB.out))) : w.heap.size ≤ gb306)); have n3_ := zb.mk ((by rw [hg]; exact (zt (by repeat (first | (with_reducible first | exact HB.out | apply zg | apply ze | apply zf | refine zh ?_ GE305.out) | exact HB.out))) : w.heap.size ≤ gb306)); have n4_ := zb.mk ((by rw [hg]; exact Nat.ne_of_lt (blk_lt (g := gb305) (o := .cells #[.slice none 0 0] 26 (0, 0)) (by (with_reducible repeat (first | refine zk ?_ _ | refine zm ?_ | refine zi ?_ _)); exact BK305.out)) : gb305 ≠ gb306)); have n5_ := zb.mk ((by rw [hg]; exact Nat.ne_of_gt (blk_lt (g := gb305) (o := .cells #[.slice none 0 0] 26 (0, 0)) (by (with_reducible repeat (first | refine zk ?_ _ | refine zm ?_ | refine zi ?_ _)); exact BK305.out)) : gb306 ≠ gb305)); have n6_ := zb.mk ((⟨_, _, hbox, (by rw [hg]; exact (zt (by repeat (first | (with_reducible first | exact HB.out | apply zg | apply ze | apply zf | refine zh ?_ GE305.out) | exact HB.out))) : w.heap.size ≤ gb306), HR0.out⟩ : za w w5 gb306 l0 0 0)); clear BK305; clear HB; have BK305 := n0_; have HB := n1_; have GW306 := n2_; have GE306 := n3_; have NB305_306 := n4_; have NB306_305 := n5_; have HI306 := n6_; clear n0_ n1_ n2_ n3_ n4_ n5_ n6_; clear hb hbox hg) | ((with_reducible refine zH (f := 113) rfl ?_); refine zra (some 10) rfl rfl Tryz.func113 (by kernel_rfl) rfl #[.pointer (some ⟨gb306, 0, none⟩)] rfl (by (try simp only [List.map_toArray, List.map_cons, List.map_nil]); first | done | rfl | (simp only [List.length_drop, List.length_take]; rfl)) ?_; (with_reducible refine (zP.calls k gb306 l0 0 0 t307 t310 t311 w _ ?side1 ?side2 A2.out).mono ?_); (case side1 => repeat (first | (with_reducible first | exact HI306.out | apply za.alloc | apply za.drewN | apply za.drew | apply za.zca | apply za.zba | refine za.far ?_ NB306_305.out _) | exact HI306.out)); (case side2 => repeat (first | (with_reducible first | exact HB.out | apply zg | apply ze | apply zf | refine zh ?_ (za.ge HI306.out) | refine zh ?_ GE305.out) | exact HB.out)); rintro e w6 ⟨v308, rfl, ho0, hi, hb, hk⟩; refine ⟨_, rfl, ?_⟩; have n0_ := zb.mk (zn.blk hk (g' := gb305) (o := .cells #[.slice none 0 0] 26 (0, 0)) (by (with_reducible repeat (first | refine zk ?_ _ | refine zm ?_ | refine zi ?_ _)); exact BK305.out) NB305_306.out (by simp)); have n1_ := zb.mk (Kd.zua ho0 (zt (by repeat (first | (with_reducible first | exact HB.out | apply zg | apply ze | apply zf | refine zh ?_ (za.ge HI306.out) | refine zh ?_ GE305.out) | exact HB.out)))); have n2_ := zb.mk (hb); have n3_ := zb.mk (hi); clear BK305; clear HB; clear HI306; have BK305 := n0_; have HO309 := n1_; have HB := n2_; have HI306 := n3_; clear n0_ n1_ n2_ n3_; (try clear hb); (try clear hb2); (try clear hk); (try clear hi); (try clear ho0)) | ((with_reducible refine zoa (N := 5) rfl ?_); refine zEa ?hg (N := 5) ?hd (cs := #[.slice none 0 0]) (t := 26) ?hr ?_; (case hd => rfl); (case hg => rfl); (case hr => first | (go_simp; done) | (go_simp; rfl)); intro gb312 hg w7 hbox hb; have n0_ := zb.mk (Kd.zta (by (with_reducible repeat (first | apply Kd.zo | apply Kd.zq | apply Kd.zA)); exact HO309.out) hb); have n1_ := zb.mk (zG (g := gb305) (o := .cells #[.slice none 0 0] 26 (0, 0)) (by (with_reducible repeat (first | refine zk ?_ _ | refine zm ?_ | refine zi ?_ _)); exact BK305.out) hb); have n2_ := zb.mk (za.below (by repeat (first | (with_reducible first | exact HI306.out | apply za.alloc | apply za.drewN | apply za.drew | apply za.zca | apply za.zba | refine za.far ?_ NB306_305.out _) | exact HI306.out)) hb); have n3_ := zb.mk (zw (by repeat (first | (with_reducible first | exact HB.out | apply zg | apply ze | apply zf | refine zh ?_ (za.ge HI306.out) | refine zh ?_ GE305.out) | exact HB.out)) hb); have n4_ := zb.mk (hbox); have n5_ := zb.mk ((by rw [hg]; exact (zt (by repeat (first | (with_reducible first | exact HB.out | apply zg | apply ze | apply zf | refine zh ?_ (za.ge HI306.out) | refine zh ?_ GE305.out) | exact HB.out))) : w.heap.size ≤ gb312)); have n6_ := zb.mk ((by rw [hg]; exact (zt (by repeat (first | (with_reducible first | exact HB.out | apply zg | apply ze | apply zf | refine zh ?_ (za.ge HI306.out) | refine zh ?_ GE305.out) | exact HB.out))) : w.heap.size ≤ gb312)); have n7_ := zb.mk ((by rw [hg]; exact Nat.ne_of_lt (blk_lt (g := gb305) (o := .cells #[.slice none 0 0] 26 (0, 0)) (by (with_reducible repeat (first | refine zk ?_ _ | refine zm ?_ | refine zi ?_ _)); exact BK305.out)) : gb305 ≠ gb312)); have n8_ := zb.mk ((by rw [hg]; exact Nat.ne_of_gt (blk_lt (g := gb305) (o := .cells #[.slice none 0 0] 26 (0, 0)) (by (with_reducible repeat (first | refine zk ?_ _ | refine zm ?_ | refine zi ?_ _)); exact BK305.out)) : gb312 ≠ gb305)); have n9_ := zb.mk ((by rw [hg]; exact Nat.ne_of_lt (za.lt (show za w _ gb306 l0 t310 t311 from by repeat (first | (with_reducible first | exact HI306.out | apply za.alloc | apply za.drewN | apply za.drew | apply za.zca | apply za.zba | refine za.far ?_ NB306_305.out _) | exact HI306.out))) : gb306 ≠ gb312)); have n10_ := zb.mk ((by rw [hg]; exact Nat.ne_of_gt (za.lt (show za w _ gb306 l0 t310 t311 from by repeat (first | (with_reducible first | exact HI306.out | apply za.alloc | apply za.drewN | apply za.drew | apply za.zca | apply za.zba | refine za.far ?_ NB306_305.out _) | exact HI306.out))) : gb312 ≠ gb306)); clear HO309; clear BK305; clear HI306; clear HB; have HO309 := n0_; have BK305 := n1_; have HI306 := n2_; have HB := n3_; have BK312 := n4_; have GW312 := n5_; have GE312 := n6_; have NB305_312 := n7_; have NB312_305 := n8_; have NB306_312 := n9_; have NB312_306 := n10_; clear n0_ n1_ n2_ n3_ n4_ n5_ n6_ n7_ n8_ n9_ n10_; clear hb hbox hg; obtain ⟨Ao8, co8, eo8⟩ := Kd.zpa HO309.out; subst eo8; have hnb9 := NB312_305.out; have hnc9 := NB305_312.out; have hnb10 := NB312_306.out; have hnc10 := NB306_312.out; have hcz11_0 : w7.cell? ⟨gb312, 0, none⟩ = some (.slice none 0 0) := (zD BK312.out 0).trans rfl; have hfz11_0 := zz BK312.out 0))
 have n0_ : zb (Kd.R zXa 73 (w7.setCell ⟨gb312, 0, none⟩ (.slice Ao8 t307.length co8)) w.heap.size (fun _ => True) (.slice Ao8 t307.length co8) t307) := ⟨by (with_reducible repeat (first | apply Kd.zo | apply Kd.zq | apply Kd.zA)); exact Kd.zZ (Kd.R_far (p := ⟨gb312, 0, none⟩) (Kd.zUa HO309.out BK312.out (by decide)) (fun _ hk => hk.2) (.slice Ao8 t307.length co8)) (fun _ hk => trivial)⟩
 have n1_ : zb ((w7.setCell ⟨gb312, 0, none⟩ (.slice Ao8 t307.length co8)).heap[gb305]? = some (.cells #[.slice none 0 0] 26 (0, 0))) := ⟨by (with_reducible repeat (first | refine zk ?_ _ | refine zm ?_ | refine zi ?_ _)); refine blk_far ?_ NB305_312.out _; (with_reducible repeat (first | refine zk ?_ _ | refine zm ?_ | refine zi ?_ _)); exact BK305.out⟩
 have n2_ : zb ((w7.setCell ⟨gb312, 0, none⟩ (.slice Ao8 t307.length co8)).heap[gb312]? = some (.cells #[.slice Ao8 t307.length co8] 26 (0, 0))) := ⟨by (with_reducible repeat (first | refine zk ?_ _ | refine zm ?_ | refine zi ?_ _)); refine blk_put (cs := #[.slice none 0 0]) ?_ 0 _ rfl; (with_reducible repeat (first | refine zk ?_ _ | refine zm ?_ | refine zi ?_ _)); exact BK312.out⟩
 have n3_ : zb (za w (w7.setCell ⟨gb312, 0, none⟩ (.slice Ao8 t307.length co8)) gb306 l0 t310 t311) := ⟨by repeat (first | (with_reducible first | exact HI306.out | apply za.alloc | apply za.drewN | apply za.drew | apply za.zca | apply za.zba | refine za.far ?_ NB306_305.out _ | refine za.far ?_ NB306_312.out _) | exact HI306.out)⟩
 have n4_ : zb (Below w.heap.size w (w7.setCell ⟨gb312, 0, none⟩ (.slice Ao8 t307.length co8))) := ⟨by repeat (first | (with_reducible first | exact HB.out | apply zg | apply ze | apply zf | refine zh ?_ (za.ge HI306.out) | refine zh ?_ GE305.out | refine zh ?_ GE312.out) | exact HB.out)⟩
 (try clear HO309)
 (try clear BK305)
 (try clear BK312)
 (try clear HI306)
 (try clear HB)
 generalize (w7.setCell ⟨gb312, 0, none⟩ (.slice Ao8 t307.length co8)) = w12 at n0_ n1_ n2_ n3_ n4_ ⊢
 have HO309 := n0_
 have BK305 := n1_
 have BK312 := n2_
 have HI306 := n3_
 have HB := n4_
 clear n0_ n1_ n2_ n3_ n4_
 have n0_ := zb.mk (Kd.zA HO309.out)
 have n1_ := zb.mk (zm BK305.out)
 have n2_ := zb.mk (zm BK312.out)
 have n3_ := zb.mk (za.drew HI306.out)
 have n4_ := zb.mk (zf HB.out)
 clear HO309
 clear BK305
 clear BK312
 clear HI306
 clear HB
 have HO309 := n0_
 have BK305 := n1_
 have BK312 := n2_
 have HI306 := n3_
 have HB := n4_
 clear n0_ n1_ n2_ n3_ n4_
 refine start_ (n := 6) (S := fun w' => w'.cell? ⟨gb312, 0, none⟩ = some (.slice Ao8 t307.length co8)) (ds := []) #[false, false, false, false, false, false] (by kernel_rfl) rfl rfl ((zD BK312.out 0).trans rfl) (fun hHeld => ?_)
 generalize w12.drew = w13 at HO309 BK305 BK312 HI306 HB hHeld ⊢
 refine zib (i := 1) (N := some 12) (v := ?_) (a' := ?_) #[false, true, false, false, false, false] rfl rfl (by kernel_rfl) (fun _ _ _ h => h) (Or.inl ⟨by rfl, ?_⟩) ?_ ?_
 rotate_left
 ·intro w'
  go_simp
  with_reducible rfl
 rotate_left
 ·simp only [Act.put, List.setIfInBounds_toArray, List.set_cons_zero, List.set_cons_succ, zva]
  rfl
 refine take_ (i := 0) (N := some 11) (v := ?_) (a' := ?_) #[true, true, false, false, false, false] rfl rfl (by kernel_rfl) (fun _ _ _ h => h) (Or.inl ⟨by rfl, ?_⟩) hHeld ?_ ?_
 rotate_left
 ·intro w' s0
  go_simp
  with_reducible rfl
 rotate_left
 ·simp only [Act.put, List.setIfInBounds_toArray, List.set_cons_zero, List.set_cons_succ, zva]
  rfl
 refine take_ (i := 2) (N := some 13) (v := ?_) (a' := ?_) #[true, true, true, false, false, false] rfl rfl (by kernel_rfl) (fun _ _ _ h => h) (Or.inl ⟨by rfl, ?_⟩) hHeld ?_ ?_
 rotate_left
 ·intro w' s0
  go_simp
  with_reducible rfl
 rotate_left
 ·simp only [Act.put, List.setIfInBounds_toArray, List.set_cons_zero, List.set_cons_succ, zva]
  rfl
 refine one_ (i := 3) (N := some 14) #[true, true, true, true, false, false] rfl rfl (by kernel_rfl) (by decide) (fun K hK => ?_)
 refine goes_ Tryz.func114 (by kernel_rfl) rfl #[.pointer (some ⟨gb306, 0, none⟩), .agg #[.slice Ao8 t307.length co8]] (by rfl) rfl rfl (by (try simp only [List.map_toArray, List.map_cons, List.map_nil]); first | done | rfl | (simp only [List.length_drop, List.length_take]; rfl)) ?_
 with_reducible refine (zN.calls k gb306 l0 t310 t311 _ _ t307 t313 t314 t315 w _ ?side1 ?side2 ?side3 ?side4 A3.out).mono ?_
 (case side1 => repeat (first | (with_reducible first | exact HI306.out | apply za.alloc | apply za.drewN | apply za.drew | apply za.zca | apply za.zba | refine za.far ?_ NB306_305.out _ | refine za.far ?_ NB306_312.out _) | exact HI306.out))
 (case side2 => repeat (first | (with_reducible first | exact HB.out | apply zg | apply ze | apply zf | refine zh ?_ (za.ge HI306.out) | refine zh ?_ GE305.out | refine zh ?_ GE312.out) | exact HB.out))
 (case side3 => exact Kd.C_foot_own (za.apart (show za w _ gb306 l0 t310 t311 from by repeat (first | (with_reducible first | exact HI306.out | apply za.alloc | apply za.drewN | apply za.drew | apply za.zca | apply za.zba | refine za.far ?_ NB306_305.out _ | refine za.far ?_ NB306_312.out _) | exact HI306.out)) (by (with_reducible repeat (first | apply Kd.zo | apply Kd.zq | apply Kd.zA)); exact HO309.out) (by decide)) (fun _ h_ => h_.2))
 (case side4 => exact (Kd.zQ HO309.out).2.1)
 rintro e w14 ⟨rfl, hi, hb, hk⟩
 refine ⟨_, rfl, ?_⟩
 have n0_ := zb.mk (zn.blk hk (g' := gb305) (o := .cells #[.slice none 0 0] 26 (0, 0)) (by (with_reducible repeat (first | refine zk ?_ _ | refine zm ?_ | refine zi ?_ _)); exact BK305.out) NB305_306.out (by simp))
 have n1_ := zb.mk (Kd.zZ (Kd.zGa (za.apart (show za w _ gb306 l0 t310 t311 from by repeat (first | (with_reducible first | exact HI306.out | apply za.alloc | apply za.drewN | apply za.drew | apply za.zca | apply za.zba | refine za.far ?_ NB306_305.out _ | refine za.far ?_ NB306_312.out _) | exact HI306.out)) (by (with_reducible repeat (first | apply Kd.zo | apply Kd.zq | apply Kd.zA)); exact HO309.out) (by decide)) hk (fun _ h => h.2)) (fun _ h => h.1))
 have n2_ := zb.mk (zn.blk hk (g' := gb312) (o := .cells #[.slice Ao8 t307.length co8] 26 (0, 0)) (by (with_reducible repeat (first | refine zk ?_ _ | refine zm ?_ | refine zi ?_ _)); exact BK312.out) NB312_306.out (by simp))
 have n3_ := zb.mk (hb)
 have n4_ := zb.mk (hi)
 clear BK305
 clear HO309
 clear BK312
 clear HB
 clear HI306
 have BK305 := n0_
 have HO309 := n1_
 have BK312 := n2_
 have HB := n3_
 have HI306 := n4_
 clear n0_ n1_ n2_ n3_ n4_
 (try clear hb)
 (try clear hb2)
 (try clear hk)
 (try clear hi)
 refine hK.out _ _ ((zD BK312.out 0).trans rfl) (fun hHeld => ?_)
 clear hK K
 refine norm_ (a' := ?_) ?_ ?_
 rotate_left
 ·show Act.put _ (some 14) _ = _
  simp only [Act.put, List.setIfInBounds_toArray, List.set_cons_zero, List.set_cons_succ, zva]
  rfl
 refine one_ (i := 4) (N := none) #[true, true, true, true, true, false] rfl rfl (by kernel_rfl) (by decide) (fun K hK => ?_)
 have hs15 : w14.cell? ⟨gb305, 0, none⟩ = some (.slice none 0 0) := (zD BK305.out 0).trans rfl
 have hfs15 := zz BK305.out 0
 have hns15_1 := NB312_305.out
 have hms15_1 := NB305_312.out
 refine skip_ (w1 := ?_) (by rfl) rfl ?_ ?_
 rotate_left
 ·go_simp
  rfl
 refine hK.out _ _ (((cell_far (p := ⟨gb305, _, none⟩) NB312_305.out _).trans (hHeld))) (fun hHeld => ?_)
 clear hK K
 refine zib (i := 5) (N := some 3) (v := ?_) (a' := ?_) #[true, true, true, true, true, true] rfl rfl (by kernel_rfl) (fun _ _ _ h => h) (Or.inl ⟨by rfl, ?_⟩) ?_ ?_
 rotate_left
 ·intro w'
  go_simp
  with_reducible rfl
 rotate_left
 ·simp only [Act.put, List.setIfInBounds_toArray, List.set_cons_zero, List.set_cons_succ, zva]
  rfl
 refine done_ (by kernel_rfl) ?_
 try go_wp2
 refine bodyPost_ret (results_ct rfl _ _ gb305 26 #[.slice Ao8 t307.length co8] (0, 0) _ rfl (by (with_reducible repeat (first | refine zk ?_ _ | refine zm ?_ | refine zi ?_ _)); refine blk_put (cs := #[.slice none 0 0]) ?_ 0 _ rfl; (with_reducible repeat (first | refine zk ?_ _ | refine zm ?_ | refine zi ?_ _)); exact BK305.out) Tryz.underlying26 rfl (by kernel_rfl)) rfl ?_
 exact ⟨_, by first | rfl | (simp [zC, zB] <;> rfl) | (simp [*, zC, zB] <;> rfl), by (with_reducible repeat (first | apply Kd.zo | apply Kd.zq | apply Kd.zA)); exact Kd.zZ (Kd.R_far (p := ⟨gb305, 0, none⟩) (Kd.zUa HO309.out BK305.out (by decide)) (fun _ hk => hk.2) (.slice Ao8 t307.length co8)) (fun _ hk => trivial), by repeat (first | (with_reducible first | exact HB.out | apply zg | apply ze | apply zf | refine zh ?_ (za.ge HI306.out) | refine zh ?_ GE305.out | refine zh ?_ GE312.out) | exact HB.out)⟩
end Go.Proofs.YtfabennfhmlihaaGreatDoor.P
end
section
namespace Go.Proofs.YtfabennfhmlihaaGreatDoor.P
open Go.RowKit Go.Proofs.YtfabennfhmlihaaGreatDoorW.zJ Go.Proofs.YtfabennfhmlihaaGreatDoorW.zU Go.Proofs.YtfabennfhmlihaaGreatDoorW.PrintMore
set_option linter.unusedVariables false
set_option linter.unusedSimpArgs false
def zda.l0 : Nat → List ByteArray → ByteArray → Int → Int → Option (Int)
 | 0, _, _, _, _ => none
 | k + 1, x0, x1, x7, x8 => if x8 < x7 then (if 0 ≤ x8 then (if x8 < (x0.length : Int) then (if x1.toList = (rdOf ByteArray.empty x0 x8).toList then (some x8) else (zda.l0 k x0 x1 x7 (wrap64 (x8 + 1)))) else (none)) else (none)) else (some (-1))
def zda.f (k : Nat) (l0 : List ByteArray) (a1 : ByteArray) : Option (Int) := zda.l0 k l0 a1 (l0.length : Int) 0
set_option maxHeartbeats 8000000 in
set_option maxRecDepth 100000 in
theorem zda.calls (k : Nat) (A0 : Option Addr) (c0 : Nat) (l0 : List ByteArray) (a1 : ByteArray) (r : Int) (w : World) (hr0 : Kd.C Kd.string w A0 l0.length l0) (hc0 : l0.length ≤ c0) (h : zda.f k l0 a1 = some r) :
  Calls Tryz.prog 173 #[.slice A0 l0.length c0, .string a1] w fun e w' => e = .returned (.int .i64 r) ∧ zX w w' := by
 have HR0 := zb.mk hr0
 have HC0 := zb.mk hc0
 clear hr0 hc0
 have H : (zda.l0 k l0 a1 (l0.length : Int) 0) = some r := h
 clear h
 have H' := zb.mk H
 clear H
 go_enter Tryz.func173, Tryz.ntmps173
 go_wp2
 go_loopg [8] k (fun kq v8 w' => ∃ (x8_1 : Int), v8 = .int .i64 x8_1 ∧ zb (zda.l0 kq l0 a1 (l0.length : Int) x8_1 = some r) ∧ zb (kq ≤ k) ∧ zX w w')
 case atStart => exact ⟨(0), (by first | rfl | (simp; done) | (simp [*]; done)), H', ⟨Nat.le_refl _⟩, by repeat (first | exact zX.refl _ | apply zX.step)⟩
 case round =>
  clear H'
  try clear c1
  try clear p2
  obtain ⟨x8_1, rfl, HA, HK1, ⟨m1, rfl⟩⟩ := hrel
  cases gk with
  | zero => exact absurd HA.out (by simp [zda.l0])
  | succ k1 =>
   have H := HA.out
   clear HA
   simp only [zda.l0] at H
   by_cases c3 : x8_1 < (l0.length : Int)
   ·rw [if_pos c3] at H
    have c3b0 : decide (x8_1 < (l0.length : Int)) = true := decide_eq_true c3
    clear c3
    by_cases c4 : 0 ≤ x8_1
    ·rw [if_pos c4] at H
     have c4b0 : decide (0 ≤ x8_1) = true := decide_eq_true c4
     clear c4
     by_cases c5 : x8_1 < (l0.length : Int)
     ·rw [if_pos c5] at H
      have c5b0 : decide (x8_1 < (l0.length : Int)) = true := decide_eq_true c5
      clear c5
      by_cases c6 : a1.toList = (rdOf ByteArray.empty l0 x8_1).toList
      ·rw [if_pos c6] at H
       have c6b0 : (a1.toList == (rdOf ByteArray.empty l0 x8_1).toList) = true := beq_iff_eq.mpr c6
       have c6b1 : (a1.toList != (rdOf ByteArray.empty l0 x8_1).toList) = false := bne_eq_false_iff_eq.mpr c6
       clear c6
       obtain rfl := Option.some.inj H
       have p356 : 0 ≤ (x8_1 : Int) := of_decide_eq_true (by first | (with_reducible assumption) | assumption)
       have q356 : x8_1 < (l0.length : Int) := of_decide_eq_true (by first | (with_reducible assumption) | assumption)
       obtain ⟨ad356, e356, hx356_0⟩ := Kd.zza HR0.out x8_1 p356 q356
       cases e356
       replace p356 := eq_true p356
       replace q356 := eq_true q356
       go_wp2
       go_ret
       exact ⟨by first | rfl | (simp; done) | (simp [*]; done), by repeat (first | exact zX.refl _ | apply zX.step)⟩
      ·rw [if_neg c6] at H
       have c6b0 : (a1.toList == (rdOf ByteArray.empty l0 x8_1).toList) = false := beq_eq_false_iff_ne.mpr c6
       have c6b1 : (a1.toList != (rdOf ByteArray.empty l0 x8_1).toList) = true := bne_iff_ne.mpr c6
       have H' := zb.mk H
       clear H
       have p356 : 0 ≤ (x8_1 : Int) := of_decide_eq_true (by first | (with_reducible assumption) | assumption)
       have q356 : x8_1 < (l0.length : Int) := of_decide_eq_true (by first | (with_reducible assumption) | assumption)
       obtain ⟨ad356, e356, hx356_0⟩ := Kd.zza HR0.out x8_1 p356 q356
       cases e356
       replace p356 := eq_true p356
       replace q356 := eq_true q356
       go_wp2
       go_roundg k1
       case measure => have := HK1.out; omega
       case rel => exact ⟨(wrap64 (x8_1 + 1)), (by first | rfl | (simp; done) | (simp [*]; done)), H', ⟨by have := HK1.out; omega⟩, by repeat (first | exact zX.refl _ | apply zX.step)⟩
     ·rw [if_neg c5] at H
      exact absurd H (by simp)
    ·rw [if_neg c4] at H
     exact absurd H (by simp)
   ·rw [if_neg c3] at H
    have c3b0 : decide (x8_1 < (l0.length : Int)) = false := decide_eq_false c3
    clear c3
    obtain rfl := Option.some.inj H
    go_wp2
    go_ret
    exact ⟨by first | rfl | (simp; done) | (simp [*]; done), by repeat (first | exact zX.refl _ | apply zX.step)⟩
end Go.Proofs.YtfabennfhmlihaaGreatDoor.P
end
section
namespace Go.Proofs.YtfabennfhmlihaaGreatDoor.P
open Go.RowKit Go.Proofs.YtfabennfhmlihaaGreatDoorW.zJ Go.Proofs.YtfabennfhmlihaaGreatDoorW.zU Go.Proofs.YtfabennfhmlihaaGreatDoorW.PrintMore
set_option linter.unusedVariables false
set_option linter.unusedSimpArgs false
def zIa.f (k : Nat) (l0 : List ByteArray) (a1 : ByteArray) : Option (Bool) := (zda.f k l0 a1).bind fun t357 => (some (decide (t357 ≥ 0)))
set_option maxHeartbeats 8000000 in
set_option maxRecDepth 100000 in
theorem zIa.calls (k : Nat) (A0 : Option Addr) (c0 : Nat) (l0 : List ByteArray) (a1 : ByteArray) (r : Bool) (w : World) (hr0 : Kd.C Kd.string w A0 l0.length l0) (hc0 : l0.length ≤ c0) (h : zIa.f k l0 a1 = some r) :
  Calls Tryz.prog 195 #[.slice A0 l0.length c0, .string a1] w fun e w' => e = .returned (.bool r) ∧ zX w w' := by
 have HR0 := zb.mk hr0
 have HC0 := zb.mk hc0
 clear hr0 hc0
 have H : ((zda.f k l0 a1).bind fun t357 => (some (decide (t357 ≥ 0)))) = some r := h
 clear h
 replace H := Option.bind_eq_some_iff.mp H
 obtain ⟨t357, A30, H⟩ := H
 replace H : (some (decide (t357 ≥ 0))) = some r := H
 have A3 := zb.mk A30
 clear A30
 obtain rfl := Option.some.inj H
 go_enter Tryz.func195, Tryz.ntmps195
 go_wp2_with (first | ((with_reducible refine zH (f := 173) rfl ?_); refine zra (some 7) rfl rfl Tryz.func173 (by kernel_rfl) rfl #[.slice A0 l0.length c0, .string a1] rfl (by (try simp only [List.map_toArray, List.map_cons, List.map_nil]); first | done | rfl | (simp only [List.length_drop, List.length_take]; rfl)) ?_; (with_reducible refine (zda.calls k _ _ l0 a1 t357 _ ?side1 ?side2 A3.out).mono ?_); (case side1 => repeat (first | exact HR0.out | (with_reducible refine Kd.zga ?_ _) | (with_reducible refine Kd.zia ?_ _) | (with_reducible refine Kd.zAa ?_))); (case side2 => exact HC0.out); rintro e w' ⟨rfl, ⟨nd, rfl⟩⟩; refine ⟨_, rfl, ?_⟩))
 go_ret
 exact ⟨by first | rfl | (simp; done) | (simp [*]; done), by repeat (first | exact zX.refl _ | apply zX.step)⟩
end Go.Proofs.YtfabennfhmlihaaGreatDoor.P
end
section
namespace Go.Proofs.YtfabennfhmlihaaGreatDoor.P
open Go.RowKit Go.Proofs.YtfabennfhmlihaaGreatDoorW.zJ Go.Proofs.YtfabennfhmlihaaGreatDoorW.zU Go.Proofs.YtfabennfhmlihaaGreatDoorW.PrintMore
set_option linter.unusedVariables false
set_option linter.unusedSimpArgs false
def impl_Trie_has.f (k : Nat) (l0_0 : List (zL)) (a1 : ByteArray) : Option (Bool) := (zT.f k l0_0).bind fun t359 => ((zIa.f k t359 a1).bind fun t362 => (some t362))
set_option maxHeartbeats 8000000 in
set_option maxRecDepth 100000 in
theorem impl_Trie_has.calls (k : Nat) (A0_0 : Option Addr) (c0_0 : Nat) (l0_0 : List (zL)) (a1 : ByteArray) (r : Bool) (w : World) (hr0_0 : Kd.C zXa w A0_0 l0_0.length l0_0) (hc0_0 : l0_0.length ≤ c0_0) (h : impl_Trie_has.f k l0_0 a1 = some r) :
  Calls Tryz.prog 116 #[.agg #[.slice A0_0 l0_0.length c0_0], .string a1] w fun e w' => e = .returned (.bool r) ∧ Below w.heap.size w w' := by
 have hu26 := Tryz.underlying26
 have HR0_0 := zb.mk hr0_0
 have HC0_0 := zb.mk hc0_0
 clear hr0_0 hc0_0
 have HB := zb.mk (Below.refl w.heap.size w)
 have H : ((zT.f k l0_0).bind fun t359 => ((zIa.f k t359 a1).bind fun t362 => (some t362))) = some r := h
 clear h
 replace H := Option.bind_eq_some_iff.mp H
 obtain ⟨t359, A30, H⟩ := H
 replace H : ((zIa.f k t359 a1).bind fun t362 => (some t362)) = some r := H
 have A3 := zb.mk A30
 clear A30
 replace H := Option.bind_eq_some_iff.mp H
 obtain ⟨t362, A40, H⟩ := H
 replace H : (some t362) = some r := H
 have A4 := zb.mk A40
 clear A40
 obtain rfl := Option.some.inj H
 go_enter Tryz.func116, Tryz.ntmps116
 go_wp2_with (first | ((with_reducible refine zoa (N := 2) rfl ?_); refine zEa ?hg (N := 2) ?hd (cs := #[.slice A0_0 l0_0.length c0_0]) (t := 26) ?hr ?_; (case hd => rfl); (case hg => rfl); (case hr => first | (go_simp; done) | (go_simp; rfl)); intro gb358 hg w5 hbox hb; have n0_ := zb.mk (zw (by repeat (first | (with_reducible first | exact HB.out | apply zg | apply ze | apply zf) | exact HB.out)) hb); have n1_ := zb.mk (hbox); have n2_ := zb.mk ((by rw [hg]; exact (zt (by repeat (first | (with_reducible first | exact HB.out | apply zg | apply ze | apply zf) | exact HB.out))) : w.heap.size ≤ gb358)); have n3_ := zb.mk ((by rw [hg]; exact (zt (by repeat (first | (with_reducible first | exact HB.out | apply zg | apply ze | apply zf) | exact HB.out))) : w.heap.size ≤ gb358)); clear HB; have HB := n0_; have BK358 := n1_; have GW358 := n2_; have GE358 := n3_; clear n0_ n1_ n2_ n3_; clear hb hbox hg; have hcz6_0 : w5.cell? ⟨gb358, 0, none⟩ = some (.slice A0_0 l0_0.length c0_0) := (zD BK358.out 0).trans rfl; have hfz6_0 := zz BK358.out 0) | ((with_reducible refine zH (f := 130) rfl ?_); refine zra (some 6) rfl rfl Tryz.func130 (by kernel_rfl) rfl #[.agg #[.slice A0_0 l0_0.length c0_0]] rfl (by (try simp only [List.map_toArray, List.map_cons, List.map_nil]); first | done | rfl | (simp only [List.length_drop, List.length_take]; rfl)) ?_; (with_reducible refine (zT.calls k _ _ l0_0 t359 _ ?side1 ?side2 A3.out).mono ?_); (case side1 => repeat (first | exact (Kd.zV HR0_0.out HB.out) | (with_reducible refine Kd.zga ?_ _) | (with_reducible refine Kd.zia ?_ _) | (with_reducible refine Kd.zAa ?_))); (case side2 => exact HC0_0.out); rintro e w7 ⟨v360, rfl, ho0, hb⟩; refine ⟨_, rfl, ?_⟩; have n0_ := zb.mk (Kd.zua ho0 (zt (by repeat (first | (with_reducible first | exact HB.out | apply zg | apply ze | apply zf | refine zh ?_ GE358.out) | exact HB.out)))); have n1_ := zb.mk (zG (g := gb358) (o := .cells #[.slice A0_0 l0_0.length c0_0] 26 (0, 0)) (by (with_reducible repeat (first | refine zk ?_ _ | refine zm ?_ | refine zi ?_ _)); exact BK358.out) hb); have n2_ := zb.mk (zw (by repeat (first | (with_reducible first | exact HB.out | apply zg | apply ze | apply zf | refine zh ?_ GE358.out) | exact HB.out)) hb); clear BK358; clear HB; have HO361 := n0_; have BK358 := n1_; have HB := n2_; clear n0_ n1_ n2_; (try clear hb); (try clear hb2); (try clear hk); (try clear hi); (try clear ho0); obtain ⟨Ao8, co8, eo8⟩ := Kd.zpa HO361.out; subst eo8) | ((with_reducible refine zH (f := 195) rfl ?_); refine zra (some 8) rfl rfl Tryz.func195 (by kernel_rfl) rfl #[.slice Ao8 t359.length co8, .string a1] rfl (by (try simp only [List.map_toArray, List.map_cons, List.map_nil]); first | done | rfl | (simp only [List.length_drop, List.length_take]; rfl)) ?_; (with_reducible refine (zIa.calls k _ _ t359 a1 t362 _ ?side1 ?side2 A4.out).mono ?_); (case side1 => repeat (first | exact (Kd.zQ HO361.out).2.2 | (with_reducible refine Kd.zga ?_ _) | (with_reducible refine Kd.zia ?_ _) | (with_reducible refine Kd.zAa ?_))); (case side2 => exact (Kd.zQ HO361.out).2.1); rintro e w' ⟨rfl, ⟨nd, rfl⟩⟩; refine ⟨_, rfl, ?_⟩))
 go_ret
 exact ⟨by first | rfl | (simp [zC, zB] <;> rfl) | (simp [*, zC, zB] <;> rfl), by repeat (first | (with_reducible first | exact HB.out | apply zg | apply ze | apply zf | refine zh ?_ GE358.out) | exact HB.out)⟩
end Go.Proofs.YtfabennfhmlihaaGreatDoor.P
end
section
namespace Go.Proofs.YtfabennfhmlihaaGreatDoor.P
open Go.RowKit Go.Proofs.YtfabennfhmlihaaGreatDoorW.zJ Go.Proofs.YtfabennfhmlihaaGreatDoorW.zU Go.Proofs.YtfabennfhmlihaaGreatDoorW.PrintMore
set_option linter.unusedVariables false
set_option linter.unusedSimpArgs false
def zRa.l0 : Nat → List ByteArray → ByteArray → Int → Option (ByteArray)
 | 0, _, _, _ => none
 | k + 1, x0, x1, x5 => if x5 < (x1.size : Int) then (if 0 ≤ x5 then (if x5 ≤ (x1.size : Int) then ((zfa.f k x0 (x1.extract 0 (x5 : Int).toNat)).bind fun t379 => (if (t379.length : Int) = 1 then (some (x1.extract 0 (x5 : Int).toNat)) else (zRa.l0 k x0 x1 (wrap64 (x5 + 1))))) else (none)) else (none)) else (some x1)
def zRa.f (k : Nat) (l0 : List ByteArray) (a1 : ByteArray) : Option (ByteArray) := zRa.l0 k l0 a1 0
set_option maxHeartbeats 8000000 in
set_option maxRecDepth 100000 in
theorem zRa.calls (k : Nat) (A0 : Option Addr) (c0 : Nat) (l0 : List ByteArray) (a1 : ByteArray) (r : ByteArray) (w : World) (hr0 : Kd.C Kd.string w A0 l0.length l0) (hc0 : l0.length ≤ c0) (h : zRa.f k l0 a1 = some r) :
  Calls Tryz.prog 121 #[.slice A0 l0.length c0, .string a1] w fun e w' => e = .returned (.string r) ∧ Below w.heap.size w w' := by
 have HR0 := zb.mk hr0
 have HC0 := zb.mk hc0
 clear hr0 hc0
 have HB := zb.mk (Below.refl w.heap.size w)
 have H : (zRa.l0 k l0 a1 0) = some r := h
 clear h
 have H' := zb.mk H
 clear H
 go_enter Tryz.func121, Tryz.ntmps121
 go_wp2
 go_loopg [5] k (fun kq v5 w' => ∃ (x5_1 : Int), v5 = .int .i64 x5_1 ∧ zb (zRa.l0 kq l0 a1 x5_1 = some r) ∧ zb (kq ≤ k) ∧ zb (Below w.heap.size w w'))
 case atStart => exact ⟨(0), (by first | rfl | (simp; done) | (simp [*]; done)), H', ⟨Nat.le_refl _⟩, ⟨by repeat (first | (with_reducible first | exact HB.out | apply zg | apply ze | apply zf) | exact HB.out)⟩⟩
 case round =>
  clear H'
  try clear c1
  try clear p2
  obtain ⟨x5_1, rfl, HA, HK1, HB⟩ := hrel
  cases gk with
  | zero => exact absurd HA.out (by simp [zRa.l0])
  | succ k1 =>
   have H := HA.out
   clear HA
   simp only [zRa.l0] at H
   by_cases c3 : x5_1 < (a1.size : Int)
   ·rw [if_pos c3] at H
    have c3b0 : decide (x5_1 < (a1.size : Int)) = true := decide_eq_true c3
    clear c3
    by_cases c4 : 0 ≤ x5_1
    ·rw [if_pos c4] at H
     have c4b0 := eq_true c4
     have c4b1 : decide (0 ≤ x5_1) = true := decide_eq_true c4
     clear c4
     by_cases c5 : x5_1 ≤ (a1.size : Int)
     ·rw [if_pos c5] at H
      have c5b0 := eq_true c5
      have c5b1 : decide (x5_1 ≤ (a1.size : Int)) = true := decide_eq_true c5
      clear c5
      replace H := Option.bind_eq_some_iff.mp H
      obtain ⟨t379, A60, H⟩ := H
      replace H : (if (t379.length : Int) = 1 then (some (a1.extract 0 (x5_1 : Int).toNat)) else (zRa.l0 k1 l0 a1 (wrap64 (x5_1 + 1)))) = some r := H
      have A6 := zb.mk A60
      clear A60
      by_cases c7 : (t379.length : Int) = 1
      ·rw [if_pos c7] at H
       have c7b0 : ((t379.length : Int) == 1) = true := beq_iff_eq.mpr c7
       have c7b1 : ((t379.length : Int) != 1) = false := bne_eq_false_iff_eq.mpr c7
       clear c7
       have c8b0 := eq_true (of_decide_eq_true (by first | (with_reducible assumption) | assumption) : 0 ≤ x5_1)
       have c9b0 := eq_true (of_decide_eq_true (by first | (with_reducible assumption) | assumption) : x5_1 ≤ (a1.size : Int))
       obtain rfl := Option.some.inj H
       go_wp2_with (first | ((with_reducible refine zH (f := 123) rfl ?_); refine zra (some 16) rfl rfl Tryz.func123 (by kernel_rfl) rfl #[.slice A0 l0.length c0, .string (a1.extract 0 (x5_1 : Int).toNat)] rfl (by (try simp only [List.map_toArray, List.map_cons, List.map_nil]); first | done | rfl | (simp only [List.length_drop, List.length_take]; rfl)) ?_; (with_reducible refine (zfa.calls k1 _ _ l0 (a1.extract 0 (x5_1 : Int).toNat) t379 _ ?side1 ?side2 A6.out).mono ?_); (case side1 => repeat (first | exact (Kd.zV HR0.out HB.out) | (with_reducible refine Kd.zga ?_ _) | (with_reducible refine Kd.zia ?_ _) | (with_reducible refine Kd.zAa ?_))); (case side2 => exact HC0.out); rintro e w10 ⟨v380, rfl, ho0, hb⟩; refine ⟨_, rfl, ?_⟩; have n0_ := zb.mk (Kd.zua ho0 (zt (by repeat (first | (with_reducible first | exact HB.out | apply zg | apply ze | apply zf) | exact HB.out)))); have n1_ := zb.mk (zw (by repeat (first | (with_reducible first | exact HB.out | apply zg | apply ze | apply zf) | exact HB.out)) hb); clear HB; have HO381 := n0_; have HB := n1_; clear n0_ n1_; (try clear hb); (try clear hb2); (try clear hk); (try clear hi); (try clear ho0); obtain ⟨Ao11, co11, eo11⟩ := Kd.zpa HO381.out; subst eo11))
       go_ret
       exact ⟨by first | rfl | (simp [zC, zB] <;> rfl) | (simp [*, zC, zB] <;> rfl), by repeat (first | (with_reducible first | exact HB.out | apply zg | apply ze | apply zf) | exact HB.out)⟩
      ·rw [if_neg c7] at H
       have c7b0 : ((t379.length : Int) == 1) = false := beq_eq_false_iff_ne.mpr c7
       have c7b1 : ((t379.length : Int) != 1) = true := bne_iff_ne.mpr c7
       have H' := zb.mk H
       clear H
       go_wp2_with (first | ((with_reducible refine zH (f := 123) rfl ?_); refine zra (some 16) rfl rfl Tryz.func123 (by kernel_rfl) rfl #[.slice A0 l0.length c0, .string (a1.extract 0 (x5_1 : Int).toNat)] rfl (by (try simp only [List.map_toArray, List.map_cons, List.map_nil]); first | done | rfl | (simp only [List.length_drop, List.length_take]; rfl)) ?_; (with_reducible refine (zfa.calls k1 _ _ l0 (a1.extract 0 (x5_1 : Int).toNat) t379 _ ?side1 ?side2 A6.out).mono ?_); (case side1 => repeat (first | exact (Kd.zV HR0.out HB.out) | (with_reducible refine Kd.zga ?_ _) | (with_reducible refine Kd.zia ?_ _) | (with_reducible refine Kd.zAa ?_))); (case side2 => exact HC0.out); rintro e w12 ⟨v380, rfl, ho0, hb⟩; refine ⟨_, rfl, ?_⟩; have n0_ := zb.mk (Kd.zua ho0 (zt (by repeat (first | (with_reducible first | exact HB.out | apply zg | apply ze | apply zf) | exact HB.out)))); have n1_ := zb.mk (zw (by repeat (first | (with_reducible first | exact HB.out | apply zg | apply ze | apply zf) | exact HB.out)) hb); clear HB; have HO381 := n0_; have HB := n1_; clear n0_ n1_; (try clear hb); (try clear hb2); (try clear hk); (try clear hi); (try clear ho0); obtain ⟨Ao13, co13, eo13⟩ := Kd.zpa HO381.out; subst eo13))
       go_roundg k1
       case measure => have := HK1.out; omega
       case rel => exact ⟨(wrap64 (x5_1 + 1)), (by first | rfl | (simp; done) | (simp [*]; done)), H', ⟨by have := HK1.out; omega⟩, ⟨by repeat (first | (with_reducible first | exact HB.out | apply zg | apply ze | apply zf) | exact HB.out)⟩⟩
     ·rw [if_neg c5] at H
      exact absurd H (by simp)
    ·rw [if_neg c4] at H
     exact absurd H (by simp)
   ·rw [if_neg c3] at H
    have c3b0 : decide (x5_1 < (a1.size : Int)) = false := decide_eq_false c3
    clear c3
    obtain rfl := Option.some.inj H
    go_wp2
    go_ret
    exact ⟨by first | rfl | (simp [zC, zB] <;> rfl) | (simp [*, zC, zB] <;> rfl), by repeat (first | (with_reducible first | exact HB.out | apply zg | apply ze | apply zf) | exact HB.out)⟩
end Go.Proofs.YtfabennfhmlihaaGreatDoor.P
end
section
namespace Go.Proofs.YtfabennfhmlihaaGreatDoor.P
open Go.RowKit Go.Proofs.YtfabennfhmlihaaGreatDoorW.zJ Go.Proofs.YtfabennfhmlihaaGreatDoorW.zU Go.Proofs.YtfabennfhmlihaaGreatDoorW.PrintMore
set_option linter.unusedVariables false
set_option linter.unusedSimpArgs false
def zja.j0 : Nat → ByteArray → Bool → List (zL) → Option (ByteArray × Bool)
 | 0, _, _, _ => none
 | k + 1, x1, x15, x383000 => if x15 = true then (some ((⟨#[]⟩ : ByteArray), false)) else ((zW.f k x383000).bind fun t388 => ((zRa.f k t388 x1).bind fun t391 => (some (t391, true))))
def zja.f (k : Nat) (l0_0 : List (zL)) (a1 : ByteArray) : Option (ByteArray × Bool) := (zea.f k l0_0).bind fun t383 => (if t383 = true then ((zW.f k l0_0).bind fun t384 => ((zcb.f k t384 a1).bind fun t387 => (zja.j0 k a1 (!t387) l0_0))) else (zja.j0 k a1 true l0_0))
set_option maxHeartbeats 8000000 in
set_option maxRecDepth 100000 in
theorem zja.calls (k : Nat) (A0_0 : Option Addr) (c0_0 : Nat) (l0_0 : List (zL)) (a1 : ByteArray) (r1 : ByteArray) (r2 : Bool) (w : World) (hr0_0 : Kd.C zXa w A0_0 l0_0.length l0_0) (hc0_0 : l0_0.length ≤ c0_0) (h : zja.f k l0_0 a1 = some (r1, r2)) :
  Calls Tryz.prog 12 #[.agg #[.slice A0_0 l0_0.length c0_0], .string a1] w fun e w' => e = .returned (.tuple #[.string r1, .bool r2]) ∧ Below w.heap.size w w' := by
 have hu26 := Tryz.underlying26
 have HR0_0 := zb.mk hr0_0
 have HC0_0 := zb.mk hc0_0
 clear hr0_0 hc0_0
 have HB := zb.mk (Below.refl w.heap.size w)
 have H : ((zea.f k l0_0).bind fun t383 => (if t383 = true then ((zW.f k l0_0).bind fun t384 => ((zcb.f k t384 a1).bind fun t387 => (zja.j0 k a1 (!t387) l0_0))) else (zja.j0 k a1 true l0_0))) = some (r1, r2) := h
 clear h
 have HC3 := zb.mk H
 clear H
 go_enter Tryz.func12, Tryz.ntmps12
 go_upto_region 1 with (first | ((with_reducible refine zoa (N := 2) rfl ?_); refine zEa ?hg (N := 2) ?hd (cs := #[.slice A0_0 l0_0.length c0_0]) (t := 26) ?hr ?_; (case hd => rfl); (case hg => rfl); (case hr => first | (go_simp; done) | (go_simp; rfl)); intro gb382 hg w4 hbox hb; have n0_ := zb.mk (zw (by repeat (first | (with_reducible first | exact HB.out | apply zg | apply ze | apply zf) | exact HB.out)) hb); have n1_ := zb.mk (hbox); have n2_ := zb.mk ((by rw [hg]; exact (zt (by repeat (first | (with_reducible first | exact HB.out | apply zg | apply ze | apply zf) | exact HB.out))) : w.heap.size ≤ gb382)); have n3_ := zb.mk ((by rw [hg]; exact (zt (by repeat (first | (with_reducible first | exact HB.out | apply zg | apply ze | apply zf) | exact HB.out))) : w.heap.size ≤ gb382)); clear HB; have HB := n0_; have BK382 := n1_; have GW382 := n2_; have GE382 := n3_; clear n0_ n1_ n2_ n3_; clear hb hbox hg))
 (try simp only [Act.put, List.setIfInBounds_toArray, List.set_cons_zero, List.set_cons_succ])
 go_cut [15] (fun v15 wc => ∃ (kq : Nat) (x15_2 : Bool), v15 = .bool x15_2 ∧ zb (zja.j0 kq a1 x15_2 l0_0 = some (r1, r2)) ∧ zb (kq ≤ k) ∧ zb (wc.heap[gb382]? = some (.cells #[(.slice A0_0 l0_0.length c0_0)] 26 (0, 0))) ∧ zb (Below w.heap.size w wc))
 case first =>
  have H := HC3.out
  clear HC3
  replace H := Option.bind_eq_some_iff.mp H
  obtain ⟨t383, A50, H⟩ := H
  replace H : (if t383 = true then ((zW.f k l0_0).bind fun t384 => ((zcb.f k t384 a1).bind fun t387 => (zja.j0 k a1 (!t387) l0_0))) else (zja.j0 k a1 true l0_0)) = some (r1, r2) := H
  have A5 := zb.mk A50
  clear A50
  by_cases c6 : t383 = true
  ·subst c6
   have H1 : ((zW.f k l0_0).bind fun t384 => ((zcb.f k t384 a1).bind fun t387 => (zja.j0 k a1 (!t387) l0_0))) = some (r1, r2) := by rw [if_pos rfl] at H; exact H
   clear H
   have H := H1
   clear H1
   replace H := Option.bind_eq_some_iff.mp H
   obtain ⟨t384, A70, H⟩ := H
   replace H : ((zcb.f k t384 a1).bind fun t387 => (zja.j0 k a1 (!t387) l0_0)) = some (r1, r2) := H
   have A7 := zb.mk A70
   clear A70
   replace H := Option.bind_eq_some_iff.mp H
   obtain ⟨t387, A80, H⟩ := H
   replace H : (zja.j0 k a1 (!t387) l0_0) = some (r1, r2) := H
   have A8 := zb.mk A80
   clear A80
   have H' := zb.mk H
   clear H
   have hcz9_0 : w4.cell? ⟨gb382, 0, none⟩ = some (.slice A0_0 l0_0.length c0_0) := (zD BK382.out 0).trans rfl
   have hfz9_0 := zz BK382.out 0
   go_wp2_with (first | ((with_reducible refine zH (f := 118) rfl ?_); refine zra (some 7) rfl rfl Tryz.func118 (by kernel_rfl) rfl #[.agg #[.slice A0_0 l0_0.length c0_0]] rfl (by (try simp only [List.map_toArray, List.map_cons, List.map_nil]); first | done | rfl | (simp only [List.length_drop, List.length_take]; rfl)) ?_; (with_reducible refine (zea.calls k _ _ l0_0 true _ ?side1 ?side2 A5.out).mono ?_); (case side1 => repeat (first | exact (Kd.zV HR0_0.out HB.out) | (with_reducible refine Kd.zga ?_ _) | (with_reducible refine Kd.zia ?_ _) | (with_reducible refine Kd.zAa ?_))); (case side2 => exact HC0_0.out); rintro e w10 ⟨rfl, hb⟩; refine ⟨_, rfl, ?_⟩; have n0_ := zb.mk (zG (g := gb382) (o := .cells #[.slice A0_0 l0_0.length c0_0] 26 (0, 0)) (by (with_reducible repeat (first | refine zk ?_ _ | refine zm ?_ | refine zi ?_ _)); exact BK382.out) hb); have n1_ := zb.mk (zw (by repeat (first | (with_reducible first | exact HB.out | apply zg | apply ze | apply zf | refine zh ?_ GE382.out) | exact HB.out)) hb); clear BK382; clear HB; have BK382 := n0_; have HB := n1_; clear n0_ n1_; (try clear hb); (try clear hb2); (try clear hk); (try clear hi); have hcz11_0 : w10.cell? ⟨gb382, 0, none⟩ = some (.slice A0_0 l0_0.length c0_0) := (zD BK382.out 0).trans rfl; have hfz11_0 := zz BK382.out 0) | (go_at_call 120; (with_reducible refine (zW.calls k _ _ l0_0 t384 _ ?side1 ?side2 A7.out).mono ?_); (case side1 => repeat (first | exact (Kd.zV HR0_0.out HB.out) | (with_reducible refine Kd.zga ?_ _) | (with_reducible refine Kd.zia ?_ _) | (with_reducible refine Kd.zAa ?_))); (case side2 => exact HC0_0.out); rintro e w12 ⟨v385, rfl, ho0, hb⟩; have n0_ := zb.mk (Kd.zua ho0 (zt (by repeat (first | (with_reducible first | exact HB.out | apply zg | apply ze | apply zf | refine zh ?_ GE382.out) | exact HB.out)))); have n1_ := zb.mk (zG (g := gb382) (o := .cells #[.slice A0_0 l0_0.length c0_0] 26 (0, 0)) (by (with_reducible repeat (first | refine zk ?_ _ | refine zm ?_ | refine zi ?_ _)); exact BK382.out) hb); have n2_ := zb.mk (zw (by repeat (first | (with_reducible first | exact HB.out | apply zg | apply ze | apply zf | refine zh ?_ GE382.out) | exact HB.out)) hb); clear BK382; clear HB; have HO386 := n0_; have BK382 := n1_; have HB := n2_; clear n0_ n1_ n2_; (try clear hb); (try clear hb2); (try clear hk); (try clear hi); (try clear ho0); obtain ⟨Ao13, co13, eo13⟩ := Kd.zpa HO386.out; subst eo13) | (go_at_call 119; (with_reducible refine (zcb.calls k _ _ t384 a1 t387 _ ?side1 ?side2 A8.out).mono ?_); (case side1 => repeat (first | exact (Kd.zQ HO386.out).2.2 | (with_reducible refine Kd.zga ?_ _) | (with_reducible refine Kd.zia ?_ _) | (with_reducible refine Kd.zAa ?_))); (case side2 => exact (Kd.zQ HO386.out).2.1); rintro e w' ⟨rfl, ⟨nd, rfl⟩⟩))
   go_meet
   case rel => exact ⟨_, (!t387), (by first | rfl | (simp; done) | (simp [*]; done)), H', ⟨by first | omega | exact Nat.le_refl _⟩, ⟨by (with_reducible repeat (first | refine zk ?_ _ | refine zm ?_ | refine zi ?_ _)); exact BK382.out⟩, ⟨by repeat (first | (with_reducible first | exact HB.out | apply zg | apply ze | apply zf | refine zh ?_ GE382.out) | exact HB.out)⟩⟩
  ·replace c6 := Bool.eq_false_iff.mpr c6
   subst c6
   have H1 : (zja.j0 k a1 true l0_0) = some (r1, r2) := by rw [if_neg (show ¬ (false = true) by decide)] at H; exact H
   clear H
   have H := H1
   clear H1
   have H' := zb.mk H
   clear H
   have hcz14_0 : w4.cell? ⟨gb382, 0, none⟩ = some (.slice A0_0 l0_0.length c0_0) := (zD BK382.out 0).trans rfl
   have hfz14_0 := zz BK382.out 0
   go_wp2_with (first | ((with_reducible refine zH (f := 118) rfl ?_); refine zra (some 7) rfl rfl Tryz.func118 (by kernel_rfl) rfl #[.agg #[.slice A0_0 l0_0.length c0_0]] rfl (by (try simp only [List.map_toArray, List.map_cons, List.map_nil]); first | done | rfl | (simp only [List.length_drop, List.length_take]; rfl)) ?_; (with_reducible refine (zea.calls k _ _ l0_0 false _ ?side1 ?side2 A5.out).mono ?_); (case side1 => repeat (first | exact (Kd.zV HR0_0.out HB.out) | (with_reducible refine Kd.zga ?_ _) | (with_reducible refine Kd.zia ?_ _) | (with_reducible refine Kd.zAa ?_))); (case side2 => exact HC0_0.out); rintro e w15 ⟨rfl, hb⟩; refine ⟨_, rfl, ?_⟩; have n0_ := zb.mk (zG (g := gb382) (o := .cells #[.slice A0_0 l0_0.length c0_0] 26 (0, 0)) (by (with_reducible repeat (first | refine zk ?_ _ | refine zm ?_ | refine zi ?_ _)); exact BK382.out) hb); have n1_ := zb.mk (zw (by repeat (first | (with_reducible first | exact HB.out | apply zg | apply ze | apply zf | refine zh ?_ GE382.out) | exact HB.out)) hb); clear BK382; clear HB; have BK382 := n0_; have HB := n1_; clear n0_ n1_; (try clear hb); (try clear hb2); (try clear hk); (try clear hi)))
   go_meet
   case rel => exact ⟨_, (true), (by first | rfl | (simp; done) | (simp [*]; done)), H', ⟨by first | omega | exact Nat.le_refl _⟩, ⟨by (with_reducible repeat (first | refine zk ?_ _ | refine zm ?_ | refine zi ?_ _)); exact BK382.out⟩, ⟨by repeat (first | (with_reducible first | exact HB.out | apply zg | apply ze | apply zf | refine zh ?_ GE382.out) | exact HB.out)⟩⟩
 case rest =>
  clear HC3
  try clear c1
  try clear p2
  try clear c6
  try clear c11
  try clear c12
  try clear hcz11_0
  try clear hcz14_0
  try clear hcz9_0
  try clear hfz11_0
  try clear hfz14_0
  try clear hfz9_0
  obtain ⟨kq, x15_2, rfl, HA, HJ2, BK382, HB⟩ := hcut
  cases kq with
  | zero => exact absurd HA.out (by simp [zja.j0])
  | succ kj2 =>
   have H := HA.out
   clear HA
   simp only [zja.j0] at H
   by_cases c16 : x15_2 = true
   ·subst c16
    have H1 : (some ((⟨#[]⟩ : ByteArray), false)) = some (r1, r2) := by rw [if_pos rfl] at H; exact H
    clear H
    have H := H1
    clear H1
    simp only [Option.some.injEq, Prod.mk.injEq] at H
    obtain ⟨rfl, rfl⟩ := H
    go_wp2
    go_ret2
    exact ⟨by first | rfl | (simp [zC, zB] <;> rfl) | (simp [*, zC, zB] <;> rfl), by repeat (first | (with_reducible first | exact HB.out | apply zg | apply ze | apply zf | refine zh ?_ GE382.out) | exact HB.out)⟩
   ·replace c16 := Bool.eq_false_iff.mpr c16
    subst c16
    have H1 : ((zW.f kj2 l0_0).bind fun t388 => ((zRa.f kj2 t388 a1).bind fun t391 => (some (t391, true)))) = some (r1, r2) := by rw [if_neg (show ¬ (false = true) by decide)] at H; exact H
    clear H
    have H := H1
    clear H1
    replace H := Option.bind_eq_some_iff.mp H
    obtain ⟨t388, A170, H⟩ := H
    replace H : ((zRa.f kj2 t388 a1).bind fun t391 => (some (t391, true))) = some (r1, r2) := H
    have A17 := zb.mk A170
    clear A170
    replace H := Option.bind_eq_some_iff.mp H
    obtain ⟨t391, A180, H⟩ := H
    replace H : (some (t391, true)) = some (r1, r2) := H
    have A18 := zb.mk A180
    clear A180
    simp only [Option.some.injEq, Prod.mk.injEq] at H
    obtain ⟨rfl, rfl⟩ := H
    have hcz19_0 : wc.cell? ⟨gb382, 0, none⟩ = some (.slice A0_0 l0_0.length c0_0) := (zD BK382.out 0).trans rfl
    have hfz19_0 := zz BK382.out 0
    go_wp2_with (first | ((with_reducible refine zH (f := 120) rfl ?_); refine zra (some 17) rfl rfl Tryz.func120 (by kernel_rfl) rfl #[.agg #[.slice A0_0 l0_0.length c0_0]] rfl (by (try simp only [List.map_toArray, List.map_cons, List.map_nil]); first | done | rfl | (simp only [List.length_drop, List.length_take]; rfl)) ?_; (with_reducible refine (zW.calls kj2 _ _ l0_0 t388 _ ?side1 ?side2 A17.out).mono ?_); (case side1 => repeat (first | exact (Kd.zV HR0_0.out HB.out) | (with_reducible refine Kd.zga ?_ _) | (with_reducible refine Kd.zia ?_ _) | (with_reducible refine Kd.zAa ?_))); (case side2 => exact HC0_0.out); rintro e w20 ⟨v389, rfl, ho0, hb⟩; refine ⟨_, rfl, ?_⟩; have n0_ := zb.mk (Kd.zua ho0 (zt (by repeat (first | (with_reducible first | exact HB.out | apply zg | apply ze | apply zf | refine zh ?_ GE382.out) | exact HB.out)))); have n1_ := zb.mk (zG (g := gb382) (o := .cells #[.slice A0_0 l0_0.length c0_0] 26 (0, 0)) (by (with_reducible repeat (first | refine zk ?_ _ | refine zm ?_ | refine zi ?_ _)); exact BK382.out) hb); have n2_ := zb.mk (zw (by repeat (first | (with_reducible first | exact HB.out | apply zg | apply ze | apply zf | refine zh ?_ GE382.out) | exact HB.out)) hb); clear BK382; clear HB; have HO390 := n0_; have BK382 := n1_; have HB := n2_; clear n0_ n1_ n2_; (try clear hb); (try clear hb2); (try clear hk); (try clear hi); (try clear ho0); obtain ⟨Ao21, co21, eo21⟩ := Kd.zpa HO390.out; subst eo21) | ((with_reducible refine zH (f := 121) rfl ?_); refine zra (some 19) rfl rfl Tryz.func121 (by kernel_rfl) rfl #[.slice Ao21 t388.length co21, .string a1] rfl (by (try simp only [List.map_toArray, List.map_cons, List.map_nil]); first | done | rfl | (simp only [List.length_drop, List.length_take]; rfl)) ?_; (with_reducible refine (zRa.calls kj2 _ _ t388 a1 t391 _ ?side1 ?side2 A18.out).mono ?_); (case side1 => repeat (first | exact (Kd.zQ HO390.out).2.2 | (with_reducible refine Kd.zga ?_ _) | (with_reducible refine Kd.zia ?_ _) | (with_reducible refine Kd.zAa ?_))); (case side2 => exact (Kd.zQ HO390.out).2.1); rintro e w22 ⟨rfl, hb⟩; refine ⟨_, rfl, ?_⟩; have n0_ := zb.mk (Kd.zta (by (with_reducible repeat (first | apply Kd.zo | apply Kd.zq | apply Kd.zA)); exact HO390.out) hb); have n1_ := zb.mk (zG (g := gb382) (o := .cells #[.slice A0_0 l0_0.length c0_0] 26 (0, 0)) (by (with_reducible repeat (first | refine zk ?_ _ | refine zm ?_ | refine zi ?_ _)); exact BK382.out) hb); have n2_ := zb.mk (zw (by repeat (first | (with_reducible first | exact HB.out | apply zg | apply ze | apply zf | refine zh ?_ GE382.out) | exact HB.out)) hb); clear HO390; clear BK382; clear HB; have HO390 := n0_; have BK382 := n1_; have HB := n2_; clear n0_ n1_ n2_; (try clear hb); (try clear hb2); (try clear hk); (try clear hi)))
    go_ret2
    exact ⟨by first | rfl | (simp [zC, zB] <;> rfl) | (simp [*, zC, zB] <;> rfl), by repeat (first | (with_reducible first | exact HB.out | apply zg | apply ze | apply zf | refine zh ?_ GE382.out) | exact HB.out)⟩
end Go.Proofs.YtfabennfhmlihaaGreatDoor.P
end
section
namespace Go.Proofs.YtfabennfhmlihaaGreatDoor.P
open Go.RowKit Go.Proofs.YtfabennfhmlihaaGreatDoorW.zJ Go.Proofs.YtfabennfhmlihaaGreatDoorW.zU Go.Proofs.YtfabennfhmlihaaGreatDoorW.PrintMore
set_option linter.unusedVariables false
set_option linter.unusedSimpArgs false
def zFa.l0 : Nat → List ByteArray → ByteArray → Option (ByteArray)
 | 0, _, _ => none
 | k + 1, x0, x3 => (zfa.f k x0 x3).bind fun t419 => (if (t419.length : Int) < (x0.length : Int) then (if 0 ≤ (wrap64 ((x3.size : Int) - 1)) then (if (wrap64 ((x3.size : Int) - 1)) ≤ (x3.size : Int) then (zFa.l0 k x0 (x3.extract 0 ((wrap64 ((x3.size : Int) - 1)) : Int).toNat)) else (none)) else (none)) else (some x3))
def zFa.f (k : Nat) (l0 : List ByteArray) : Option (ByteArray) := if 0 < (l0.length : Int) then (zFa.l0 k l0 (rdOf ByteArray.empty l0 0)) else (none)
set_option maxHeartbeats 8000000 in
set_option maxRecDepth 100000 in
theorem zFa.calls (k : Nat) (A0 : Option Addr) (c0 : Nat) (l0 : List ByteArray) (r : ByteArray) (w : World) (hr0 : Kd.C Kd.string w A0 l0.length l0) (hc0 : l0.length ≤ c0) (h : zFa.f k l0 = some r) :
  Calls Tryz.prog 125 #[.slice A0 l0.length c0] w fun e w' => e = .returned (.string r) ∧ Below w.heap.size w w' := by
 have HR0 := zb.mk hr0
 have HC0 := zb.mk hc0
 clear hr0 hc0
 have HB := zb.mk (Below.refl w.heap.size w)
 have H : (if 0 < (l0.length : Int) then (zFa.l0 k l0 (rdOf ByteArray.empty l0 0)) else (none)) = some r := h
 clear h
 by_cases c2 : 0 < (l0.length : Int)
 ·rw [if_pos c2] at H
  have c2b0 : decide (0 < (l0.length : Int)) = true := decide_eq_true c2
  have c2b1 : decide (0 < l0.length) = true := decide_eq_true (by omega)
  clear c2
  have H' := zb.mk H
  clear H
  have p418 : 0 ≤ (0 : Int) := (by omega)
  have q418 : 0 < (l0.length : Int) := of_decide_eq_true (by first | (with_reducible assumption) | assumption)
  obtain ⟨ad418, e418, hx418_0⟩ := Kd.zza HR0.out 0 p418 q418
  cases e418
  have qi418 : (0 < l0.length) = True := eq_true (by omega)
  (try rw [show ((0 : Int)).toNat = 0 from rfl] at hx418_0)
  (try rw [Addr.add_zero'] at hx418_0)
  replace p418 := eq_true p418
  replace q418 := eq_true q418
  go_enter Tryz.func125, Tryz.ntmps125
  go_wp2
  go_loopg [3] k (fun kq v3 w' => ∃ (x3_1 : ByteArray), v3 = .string x3_1 ∧ zb (zFa.l0 kq l0 x3_1 = some r) ∧ zb (kq ≤ k) ∧ zb (Below w.heap.size w w'))
  case atStart => exact ⟨(rdOf ByteArray.empty l0 0), (by first | rfl | (simp; done) | (simp [*]; done)), H', ⟨Nat.le_refl _⟩, ⟨by repeat (first | (with_reducible first | exact HB.out | apply zg | apply ze | apply zf) | exact HB.out)⟩⟩
  case round =>
   clear H'
   try clear c1
   try clear c2
   try clear c2b0
   try clear c2b1
   try clear p2
   try clear hx418_0
   try clear p418
   try clear q418
   obtain ⟨x3_1, rfl, HA, HK1, HB⟩ := hrel
   cases gk with
   | zero => exact absurd HA.out (by simp [zFa.l0])
   | succ k1 =>
    have H := HA.out
    clear HA
    simp only [zFa.l0] at H
    replace H := Option.bind_eq_some_iff.mp H
    obtain ⟨t419, A30, H⟩ := H
    replace H : (if (t419.length : Int) < (l0.length : Int) then (if 0 ≤ (wrap64 ((x3_1.size : Int) - 1)) then (if (wrap64 ((x3_1.size : Int) - 1)) ≤ (x3_1.size : Int) then (zFa.l0 k1 l0 (x3_1.extract 0 ((wrap64 ((x3_1.size : Int) - 1)) : Int).toNat)) else (none)) else (none)) else (some x3_1)) = some r := H
    have A3 := zb.mk A30
    clear A30
    by_cases c4 : (t419.length : Int) < (l0.length : Int)
    ·rw [if_pos c4] at H
     have c4b0 : decide ((t419.length : Int) < (l0.length : Int)) = true := decide_eq_true c4
     have c4b1 : decide (t419.length < l0.length) = true := decide_eq_true (Int.ofNat_lt.mp c4)
     clear c4
     obtain ⟨ji5, hji5⟩ : ∃ j_ : Int, (wrap64 ((x3_1.size : Int) - 1)) = j_ := ⟨_, rfl⟩
     replace H : (if 0 ≤ (ji5) then (if (ji5) ≤ (x3_1.size : Int) then (zFa.l0 k1 l0 (x3_1.extract 0 ((ji5) : Int).toNat)) else (none)) else (none)) = some r := by first | (rw [hji5] at H; exact H) | (simp only [hji5] at H ⊢; exact H)
     (try rw [hji5] at A3)
     have hji5w : (IntKind.i64.wrap ((x3_1.size : Int) - 1)) = ji5 := (zva _).trans hji5
     by_cases c6 : 0 ≤ (ji5)
     ·rw [if_pos c6] at H
      have c6b0 := eq_true c6
      have c6b1 : decide (0 ≤ (ji5)) = true := decide_eq_true c6
      clear c6
      by_cases c7 : (ji5) ≤ (x3_1.size : Int)
      ·rw [if_pos c7] at H
       have c7b0 := eq_true c7
       have c7b1 : decide ((ji5) ≤ (x3_1.size : Int)) = true := decide_eq_true c7
       clear c7
       have H' := zb.mk H
       clear H
       go_wp2_with (first | ((with_reducible refine zH (f := 123) rfl ?_); refine zra (some 9) rfl rfl Tryz.func123 (by kernel_rfl) rfl #[.slice (some ad418) l0.length c0, .string x3_1] rfl (by (try simp only [List.map_toArray, List.map_cons, List.map_nil]); first | done | rfl | (simp only [List.length_drop, List.length_take]; rfl)) ?_; (with_reducible refine (zfa.calls k1 _ _ l0 x3_1 t419 _ ?side1 ?side2 A3.out).mono ?_); (case side1 => repeat (first | exact (Kd.zV HR0.out HB.out) | (with_reducible refine Kd.zga ?_ _) | (with_reducible refine Kd.zia ?_ _) | (with_reducible refine Kd.zAa ?_))); (case side2 => exact HC0.out); rintro e w8 ⟨v420, rfl, ho0, hb⟩; refine ⟨_, rfl, ?_⟩; have n0_ := zb.mk (Kd.zua ho0 (zt (by repeat (first | (with_reducible first | exact HB.out | apply zg | apply ze | apply zf) | exact HB.out)))); have n1_ := zb.mk (zw (by repeat (first | (with_reducible first | exact HB.out | apply zg | apply ze | apply zf) | exact HB.out)) hb); clear HB; have HO421 := n0_; have HB := n1_; clear n0_ n1_; (try clear hb); (try clear hb2); (try clear hk); (try clear hi); (try clear ho0); obtain ⟨Ao9, co9, eo9⟩ := Kd.zpa HO421.out; subst eo9))
       go_roundg k1
       case measure => have := HK1.out; omega
       case rel => exact ⟨(x3_1.extract 0 ((ji5) : Int).toNat), (by first | rfl | (simp; done) | (simp only [← hji5] <;> (first | rfl | simp)) | (simp [*]; done)), H', ⟨by have := HK1.out; omega⟩, ⟨by repeat (first | (with_reducible first | exact HB.out | apply zg | apply ze | apply zf) | exact HB.out)⟩⟩
      ·rw [if_neg c7] at H
       exact absurd H (by simp)
     ·rw [if_neg c6] at H
      exact absurd H (by simp)
    ·rw [if_neg c4] at H
     have c4b0 : decide ((t419.length : Int) < (l0.length : Int)) = false := decide_eq_false c4
     have c4b1 : decide (t419.length < l0.length) = false := decide_eq_false (fun h => c4 (Int.ofNat_lt.mpr h))
     clear c4
     obtain rfl := Option.some.inj H
     go_wp2_with (first | ((with_reducible refine zH (f := 123) rfl ?_); refine zra (some 9) rfl rfl Tryz.func123 (by kernel_rfl) rfl #[.slice (some ad418) l0.length c0, .string x3_1] rfl (by (try simp only [List.map_toArray, List.map_cons, List.map_nil]); first | done | rfl | (simp only [List.length_drop, List.length_take]; rfl)) ?_; (with_reducible refine (zfa.calls k1 _ _ l0 x3_1 t419 _ ?side1 ?side2 A3.out).mono ?_); (case side1 => repeat (first | exact (Kd.zV HR0.out HB.out) | (with_reducible refine Kd.zga ?_ _) | (with_reducible refine Kd.zia ?_ _) | (with_reducible refine Kd.zAa ?_))); (case side2 => exact HC0.out); rintro e w10 ⟨v420, rfl, ho0, hb⟩; refine ⟨_, rfl, ?_⟩; have n0_ := zb.mk (Kd.zua ho0 (zt (by repeat (first | (with_reducible first | exact HB.out | apply zg | apply ze | apply zf) | exact HB.out)))); have n1_ := zb.mk (zw (by repeat (first | (with_reducible first | exact HB.out | apply zg | apply ze | apply zf) | exact HB.out)) hb); clear HB; have HO421 := n0_; have HB := n1_; clear n0_ n1_; (try clear hb); (try clear hb2); (try clear hk); (try clear hi); (try clear ho0); obtain ⟨Ao11, co11, eo11⟩ := Kd.zpa HO421.out; subst eo11))
     go_ret
     exact ⟨by first | rfl | (simp [zC, zB] <;> rfl) | (simp [*, zC, zB] <;> rfl), by repeat (first | (with_reducible first | exact HB.out | apply zg | apply ze | apply zf) | exact HB.out)⟩
 ·rw [if_neg c2] at H
  exact absurd H (by simp)
end Go.Proofs.YtfabennfhmlihaaGreatDoor.P
end
