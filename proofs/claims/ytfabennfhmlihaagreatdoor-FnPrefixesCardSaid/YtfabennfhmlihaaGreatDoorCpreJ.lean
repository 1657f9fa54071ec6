/- A part of the proof of FnPrefixes. -/
import Derived.Test.YtfabennfhmlihaaGreatDoorCpreD
import Derived.Test.YtfabennfhmlihaaGreatDoorCpreH
import Derived.ArgAppend
import Derived.Below
import Derived.BigQuiet
import Derived.Deep.AppendLies
import Derived.Deep.CutBlock
import Derived.Deep.DeepCutAuto
import Derived.Deep.Draws
import Derived.Deep.LoopGhost
import Derived.Deep.OwnRows
import Derived.Deep.QuietTactic
import Derived.Deep.RegionHeld3
import Derived.Ground.NamesProg
import Derived.Ground.SlgfProg
import Derived.KernelRfl
import Derived.Laws.BitsLemmas
import Derived.Laws.BytesArg
import Derived.Laws.IdiomCopy
import Derived.Laws.MakeOwn
import Derived.Laws.OwnMore
import Derived.Laws.Rows
import Derived.Laws.Slices
import Derived.Laws.StructEq
import Derived.Lib.AppendStr
import Derived.Lib.ConvBytes
import Derived.Maps.AppendAt
import Derived.OrdersHeld
import Derived.OwnWalk
import Derived.RowKit
import Derived.RowKit3
import Derived.Shelf.SlGeneric
import Derived.Shelf.Slices.CompactS
import Derived.Shelf.Slices.In.SortNone
import Derived.Shelf.SlicesE.DeleteFunc
import Derived.Shelf.SlicesE.IndexFunc
import Derived.Shelf.Sort.Plain
import Derived.Shelf.Strings.SlTrimAscii
import Derived.Tactics
import Derived.WalkKit
import Derived.WideLaws
section
namespace Go.Proofs.YtfabennfhmlihaaGreatDoor.P
open Go Go.RowKit Go.Shelf
set_option linter.unusedVariables false
/-- The letters. -/
def abcW : List UInt8 := [97, 98, 99, 100, 101, 102, 103, 104, 105, 106, 107, 108, 109, 110, 111, 112, 113, 114, 115, 116, 117, 118, 119, 120, 121, 122]
def strings_Trim.f (a0 a1 : ByteArray) : Option ByteArray :=
  if a0.size ≤ 9223372036854775807 ∧ a1 = tx abcW then some (tx (Lib.trimS a0.data.toList abcW)) else none
theorem strings_Trim.calls (a0 a1 : ByteArray) (r : ByteArray) (w : World) (h : strings_Trim.f a0 a1 = some r) :
    Calls Tryz.prog 220 #[.string a0, .string a1] w fun e w' => e = .returned (.string r) ∧ RowKit.Below w.heap.size w w' := by
  unfold strings_Trim.f at h
  split at h
  · rename_i hc
    obtain rfl := Option.some.inj h
    obtain ⟨hs, rfl⟩ := hc
    exact Any.strings_Trim_laid Tryz.trimK (by kernel_rfl) a0 (tx abcW) w hs (by decide) (ascii_of_all (by decide))
  · cases h
theorem dropWhile_nil {α : Type} (p : α → Bool) : ∀ l : List α, l.dropWhile p = [] ↔ ∀ x ∈ l, p x = true
  | [] => by simp
  | a :: l => by
    by_cases h : p a = true
    · simp [h, dropWhile_nil p l]
    · simp [h]
theorem dropWhile_sub {α : Type} (p : α → Bool) : ∀ l : List α, ∀ x ∈ l, p x = false → x ∈ l.dropWhile p
  | [], x, h, _ => by simp at h
  | a :: l, x, h, hp => by
    by_cases ha : p a = true
    · rw [List.dropWhile_cons, if_pos ha]
      rcases List.mem_cons.1 h with rfl | h
      · rw [ha] at hp; cases hp
      · exact dropWhile_sub p l x h hp
    · rw [List.dropWhile_cons, if_neg ha]; exact h
theorem trimS_nil (l cs : List UInt8) : Lib.trimS l cs = [] ↔ ∀ x ∈ l, x ∈ cs := by
  unfold Lib.trimS Lib.trimLeftS Lib.trimRightS
  rw [dropWhile_nil]
  constructor
  · intro h x hx
    by_cases hc : cs.contains x = true
    · simpa using hc
    · have h1 := dropWhile_sub (fun b => cs.contains b) l.reverse x (by simpa using hx) (by simpa using hc)
      simpa using h x (by simpa using h1)
  · intro h x hx
    have : x ∈ l := by
      have := (List.dropWhile_sublist (fun b => cs.contains b) (l := l.reverse)).subset (by simpa using hx)
      simpa using this
    simpa using h x this
/-- Letters alone. -/
def lettersW (l : List UInt8) : Bool := l.all fun b => decide (97 ≤ b ∧ b ≤ 122)
theorem mem_abc (b : UInt8) : b ∈ abcW ↔ (97 ≤ b ∧ b ≤ 122) := by
  simp only [abcW, List.mem_cons, List.not_mem_nil, or_false, ← UInt8.toNat_inj, UInt8.le_iff_toNat_le]
  simp
  omega
theorem trim_letters (l : List UInt8) : ((Lib.trimS l abcW) == []) = lettersW l := by
  rw [Bool.eq_iff_iff]
  simp only [beq_iff_eq, trimS_nil, lettersW, List.all_eq_true, decide_eq_true_eq, mem_abc]
end Go.Proofs.YtfabennfhmlihaaGreatDoor.P
end
section
namespace Go.Proofs.YtfabennfhmlihaaGreatDoor.P
open Go.RowKit Go.Proofs.YtfabennfhmlihaaGreatDoorW.zJ Go.Proofs.YtfabennfhmlihaaGreatDoorW.zU Go.Proofs.YtfabennfhmlihaaGreatDoorW.PrintMore
set_option linter.unusedVariables false
set_option linter.unusedSimpArgs false
def impl_areLetters.f (a0 : ByteArray) : Option (Bool) := (strings_Trim.f a0 (⟨#[97, 98, 99, 100, 101, 102, 103, 104, 105, 106, 107, 108, 109, 110, 111, 112, 113, 114, 115, 116, 117, 118, 119, 120, 121, 122]⟩ : ByteArray)).bind fun t316 => (some (t316.toList == ([] : List UInt8)))
set_option maxHeartbeats 8000000 in
set_option maxRecDepth 100000 in
theorem impl_areLetters.calls (a0 : ByteArray) (r : Bool) (w : World) (h : impl_areLetters.f a0 = some r) :
  Calls Tryz.prog 204 #[.string a0] w fun e w' => e = .returned (.bool r) ∧ Below w.heap.size w w' := by
 have HB := zb.mk (Below.refl w.heap.size w)
 have H : ((strings_Trim.f a0 (⟨#[97, 98, 99, 100, 101, 102, 103, 104, 105, 106, 107, 108, 109, 110, 111, 112, 113, 114, 115, 116, 117, 118, 119, 120, 121, 122]⟩ : ByteArray)).bind fun t316 => (some (t316.toList == ([] : List UInt8)))) = some r := h
 clear h
 replace H := Option.bind_eq_some_iff.mp H
 obtain ⟨t316, A20, H⟩ := H
 replace H : (some (t316.toList == ([] : List UInt8))) = some r := H
 have A2 := zb.mk A20
 clear A20
 obtain rfl := Option.some.inj H
 go_enter Tryz.func204, Tryz.ntmps204
 go_wp2_with (first | ((with_reducible refine zH (f := 220) rfl ?_); refine zra (some 4) rfl rfl Tryz.func220 (by kernel_rfl) rfl #[.string a0, .string (⟨#[97, 98, 99, 100, 101, 102, 103, 104, 105, 106, 107, 108, 109, 110, 111, 112, 113, 114, 115, 116, 117, 118, 119, 120, 121, 122]⟩ : ByteArray)] rfl (by (try simp only [List.map_toArray, List.map_cons, List.map_nil]); first | done | rfl | (simp only [List.length_drop, List.length_take]; rfl)) ?_; (with_reducible refine (strings_Trim.calls a0 (⟨#[97, 98, 99, 100, 101, 102, 103, 104, 105, 106, 107, 108, 109, 110, 111, 112, 113, 114, 115, 116, 117, 118, 119, 120, 121, 122]⟩ : ByteArray) t316 _ A2.out).mono ?_); rintro e w3 ⟨rfl, hb⟩; refine ⟨_, rfl, ?_⟩; have n0_ := zb.mk (zw (by repeat (first | (with_reducible first | exact HB.out | apply zg | apply ze | apply zf) | exact HB.out)) hb); clear HB; have HB := n0_; clear n0_; (try clear hb); (try clear hb2); (try clear hk); (try clear hi)))
 go_ret
 exact ⟨by first | rfl | (simp [zC, zB] <;> rfl) | (simp [*, zC, zB] <;> rfl), by repeat (first | (with_reducible first | exact HB.out | apply zg | apply ze | apply zf) | exact HB.out)⟩
end Go.Proofs.YtfabennfhmlihaaGreatDoor.P
end
section
namespace Go.Proofs.YtfabennfhmlihaaGreatDoor.P
open Go.RowKit Go.Proofs.YtfabennfhmlihaaGreatDoorW.zJ Go.Proofs.YtfabennfhmlihaaGreatDoorW.zU Go.Proofs.YtfabennfhmlihaaGreatDoorW.PrintMore
set_option linter.unusedVariables false
set_option linter.unusedSimpArgs false
def impl_isWord.f (a0 : ByteArray) : Option (Bool) := if (a0.size : Int) ≤ 12 then ((impl_areLetters.f a0).bind fun t317 => (some t317)) else (some false)
set_option maxHeartbeats 8000000 in
set_option maxRecDepth 100000 in
theorem impl_isWord.calls (a0 : ByteArray) (r : Bool) (w : World) (h : impl_isWord.f a0 = some r) :
  Calls Tryz.prog 177 #[.string a0] w fun e w' => e = .returned (.bool r) ∧ Below w.heap.size w w' := by
 have HB := zb.mk (Below.refl w.heap.size w)
 have H : (if (a0.size : Int) ≤ 12 then ((impl_areLetters.f a0).bind fun t317 => (some t317)) else (some false)) = some r := h
 clear h
 by_cases c2 : (a0.size : Int) ≤ 12
 ·rw [if_pos c2] at H
  have c2b0 : decide ((a0.size : Int) ≤ 12) = true := decide_eq_true c2
  have c2b1 : decide (a0.size ≤ 12) = true := decide_eq_true (by omega)
  clear c2
  replace H := Option.bind_eq_some_iff.mp H
  obtain ⟨t317, A30, H⟩ := H
  replace H : (some t317) = some r := H
  have A3 := zb.mk A30
  clear A30
  obtain rfl := Option.some.inj H
  go_enter Tryz.func177, Tryz.ntmps177
  go_wp2_with (first | (go_at_call 204; (with_reducible refine (impl_areLetters.calls a0 t317 _ A3.out).mono ?_); rintro e w4 ⟨rfl, hb⟩; have n0_ := zb.mk (zw (by repeat (first | (with_reducible first | exact HB.out | apply zg | apply ze | apply zf) | exact HB.out)) hb); clear HB; have HB := n0_; clear n0_; (try clear hb); (try clear hb2); (try clear hk); (try clear hi)))
  go_ret
  exact ⟨by first | rfl | (simp [zC, zB] <;> rfl) | (simp [*, zC, zB] <;> rfl), by repeat (first | (with_reducible first | exact HB.out | apply zg | apply ze | apply zf) | exact HB.out)⟩
 ·rw [if_neg c2] at H
  have c2b0 : decide ((a0.size : Int) ≤ 12) = false := decide_eq_false c2
  have c2b1 : decide (a0.size ≤ 12) = false := decide_eq_false (by omega)
  clear c2
  obtain rfl := Option.some.inj H
  go_enter Tryz.func177, Tryz.ntmps177
  go_wp2
  go_ret
  exact ⟨by first | rfl | (simp [zC, zB] <;> rfl) | (simp [*, zC, zB] <;> rfl), by repeat (first | (with_reducible first | exact HB.out | apply zg | apply ze | apply zf) | exact HB.out)⟩
end Go.Proofs.YtfabennfhmlihaaGreatDoor.P
end
