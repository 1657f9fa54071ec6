/- A part of the proof of FnPrefixes. -/
import Derived.Test.YtfabennfhmlihaaGreatDoorCpreA
import Derived.Test.YtfabennfhmlihaaGreatDoorCpreB
import Derived.Test.YtfabennfhmlihaaGreatDoorCpreC
import Derived.Test.YtfabennfhmlihaaGreatDoorProg
import Derived.ArgAppend
import Derived.Below
import Derived.BigQuiet
import Derived.Deep.AppendLies
import Derived.Deep.CutBlock
import Derived.Deep.DeepCutAuto
import Derived.Deep.Draws
import Derived.Deep.LoopGhost
import Derived.Deep.OwnRows
import Derived.Deep.QuietTactic
import Derived.Deep.RegionHeld3
import Derived.KernelRfl
import Derived.Laws.BitsLemmas
import Derived.Laws.BytesArg
import Derived.Laws.IdiomCopy
import Derived.Laws.MakeOwn
import Derived.Laws.OwnMore
import Derived.Laws.Rows
import Derived.Laws.Slices
import Derived.Laws.StructEq
import Derived.Lib.AppendStr
import Derived.Lib.ConvBytes
import Derived.Maps.AppendAt
import Derived.OrdersHeld
import Derived.Outline
import Derived.OwnWalk
import Derived.RowKit
import Derived.RowKit3
import Derived.Tactics
import Derived.WalkKit
import Derived.WideLaws
section
namespace Go.Proofs.YtfabennfhmlihaaGreatDoor.P
open Go.RowKit Go.Proofs.YtfabennfhmlihaaGreatDoorW.zJ Go.Proofs.YtfabennfhmlihaaGreatDoorW.zU Go.Proofs.YtfabennfhmlihaaGreatDoorW.PrintMore
set_option linter.unusedVariables false
set_option linter.unusedSimpArgs false
def errW : Option Int → Value
 | none => .nilIface
 | some c => .iface 0 (.int .i64 c)
theorem zC : errW none = .nilIface := rfl
theorem zB (c : Int) : errW (some c) = .iface 0 (.int .i64 c) := rfl
theorem info5 : (Tryz.prog.info? 5).map (fun i => (i.zero, i.size, i.bytes)) = some (some (.int .u8 0), 1, 1) := by kernel_rfl
theorem info9 : (Tryz.prog.info? 9).map (fun i => (i.zero, i.size, i.bytes)) = some (some (.string ⟨#[]⟩), 1, 16) := by kernel_rfl
theorem info73 : (Tryz.prog.info? 73).map (fun i => (i.zero, i.size, i.bytes)) = some (some (.agg #[(.int .i64 0), (.int .i64 0), (.bool false)]), 3, 24) := by kernel_rfl
-- the values' own types
structure zL where
 f0 : Int
 f1 : Int
 f2 : Bool
def z_Node : zL := ⟨(0 : Int), (0 : Int), false⟩
def zXa : Kd zL := Kd.iso (Kd.pair (Kd.int .i64) (Kd.pair (Kd.int .i64) Kd.bool)) (fun x : zL => (x.f0, x.f1, x.f2))
theorem k_Node_open {w : World} {x : zL} {cs : List Value} (h : zXa.K w x cs) : cs = [.int .i64 x.f0, .int .i64 x.f1, .bool x.f2] := by
 obtain ⟨_, _, rfl, rfl, ⟨_, _, rfl, rfl, rfl⟩⟩ := h
 exact rfl
theorem k_Node_openM {w : World} {base : Nat} {ok : Nat → Prop} {x : zL} {cs : List Value} (h : zXa.M w base ok x cs) : cs = [.int .i64 x.f0, .int .i64 x.f1, .bool x.f2] := by
 obtain ⟨_, _, rfl, rfl, ⟨_, _, rfl, rfl, rfl⟩⟩ := h
 exact rfl
theorem k_Node_mkM (w : World) (base : Nat) (ok : Nat → Prop) (x : zL)  : zXa.M w base ok x [.int .i64 x.f0, .int .i64 x.f1, .bool x.f2] := ⟨[.int .i64 x.f0], [.int .i64 x.f1, .bool x.f2], rfl, rfl, ⟨[.int .i64 x.f1], [.bool x.f2], rfl, rfl, rfl⟩⟩
def zl (xs : List zL) (i : Int) : zL := xs.getD i.toNat z_Node
theorem at_T_Node {w : World} {A : Option Addr} {n : Nat} {xs : List zL} (h : Kd.C zXa w A n xs) (i : Int) (h0 : 0 ≤ i) (h1 : i < n) : ∃ ad , A = some ad ∧ w.cell? (ad.add (i.toNat * 3)) = some (.int .i64 (zl xs i).f0) ∧ w.cell? ⟨(ad.add (i.toNat * 3)).block, (ad.add (i.toNat * 3)).off + 1, none⟩ = some (.int .i64 (zl xs i).f1) ∧ w.cell? ⟨(ad.add (i.toNat * 3)).block, (ad.add (i.toNat * 3)).off + 2, none⟩ = some (.bool (zl xs i).f2) := by
 obtain ⟨ad, c, e, _, hK, hc0⟩ := Kd.C_get h z_Node i h0 h1
 have hc : ∀ j u, c[j]? = some u → w.cell? (ad.add (i.toNat * 3 + j)) = some u := hc0
 obtain rfl := k_Node_open hK
 exact ⟨ad, e, hc 0 _ rfl, by rw [← add_field _ _ 1 (by omega)]; exact hc 1 _ rfl, by rw [← add_field _ _ 2 (by omega)]; exact hc 2 _ rfl⟩
end Go.Proofs.YtfabennfhmlihaaGreatDoor.P
end
section
namespace Go.Proofs.YtfabennfhmlihaaGreatDoor.P
open Go Go.RowKit Go.Proofs.YtfabennfhmlihaaGreatDoorW.zJ Go.Proofs.YtfabennfhmlihaaGreatDoorW.zU Go.Proofs.YtfabennfhmlihaaGreatDoorW.PrintMore
set_option linter.unusedVariables false
/-- A text out of its bytes. -/
abbrev tx (l : List UInt8) : ByteArray := ⟨l.toArray⟩
theorem zMa (l : List UInt8) : (tx l).size = l.length := by unfold tx; rw [ByteArray.size]; simp
theorem zbb (l : List UInt8) : (tx l).toList = l := Go.ByteArray.toList_mk l
theorem tx_surj (b : ByteArray) : b = tx b.toList := by
  rw [Go.ByteArray.toList_eq]
theorem tx_bt (l : List UInt8) (i : Int) : bt (tx l) i = ((l.getD i.toNat 0).toNat : Int) := by
  unfold bt
  split
  · rename_i h
    rw [zMa] at h
    rw [List.getD_eq_getElem?_getD, List.getElem?_eq_getElem h]
    rfl
  · rename_i h
    rw [zMa] at h
    rw [List.getD_eq_getElem?_getD, List.getElem?_eq_none (by omega)]; rfl
theorem tx_extract (l : List UInt8) (a b : Nat) : (tx l).extract a b = tx ((l.take b).drop a) := by
  apply ByteArray.ext
  simp [tx, List.drop_take]
theorem tx_append (l m : List UInt8) : tx l ++ tx m = tx (l ++ m) := by
  apply ByteArray.ext
  simp [tx]
theorem tx_str (xs : List Int) : strOfNums xs = tx (xs.map fun x => (UInt8.ofNat x.toNat)) := by
  unfold strOfNums; rfl
theorem rdOf_tx (xs : List (List UInt8)) (i : Int) : rdOf ByteArray.empty (xs.map tx) i = tx (xs.getD i.toNat []) := by
  unfold rdOf
  rw [List.getD_eq_getElem?_getD, List.getD_eq_getElem?_getD, List.getElem?_map]
  cases xs[i.toNat]? <;> rfl
theorem map_tx_surj (xs : List ByteArray) : xs = (xs.map ByteArray.toList).map tx := by
  induction xs with
  | nil => rfl
  | cons x xs ih => show x :: xs = tx x.toList :: (xs.map ByteArray.toList).map tx; rw [← tx_surj x, ← ih]
theorem zSa {i : Int} (h0 : -9223372036854775808 ≤ i) (h1 : i ≤ 9223372036854775807) : wrap64 i = i := by
  unfold wrap64; omega
/-- With enough rounds it is r. -/
def Ev {α : Type} (g : Nat → Option α) (r : α) : Prop := ∃ K, ∀ k, K ≤ k → g k = some r
namespace Ev
variable {α β : Type}
theorem const {g : Option α} {r : α} (h : g = some r) : Ev (fun _ => g) r := ⟨0, fun _ _ => h⟩
theorem bind {g : Nat → Option α} {f : Nat → α → Option β} {a : α} {b : β} (hg : Ev g a) (hf : Ev (fun k => f k a) b) : Ev (fun k => (g k).bind (f k)) b := by
  obtain ⟨K, hK⟩ := hg
  obtain ⟨L, hL⟩ := hf
  exact ⟨max K L, fun k hk => by
    show (g k).bind (f k) = some b
    rw [hK k (by omega)]; exact hL k (by omega)⟩
theorem step {g h : Nat → Option α} {r : α} (he : ∀ k, g (k + 1) = h k) (hh : Ev h r) : Ev g r := by
  obtain ⟨K, hK⟩ := hh
  exact ⟨K + 1, fun k hk => by
    obtain ⟨m, rfl⟩ : ∃ m, k = m + 1 := ⟨k - 1, by omega⟩
    rw [he m]; exact hK m (by omega)⟩
theorem succ {g : Nat → Option α} {r : α} (h : Ev (fun k => g (k + 1)) r) : Ev g r := step (fun _ => rfl) h
theorem pos {c : Prop} [Decidable c] {g h : Nat → Option α} {r : α} (hc : c) (hg : Ev g r) : Ev (fun k => if c then g k else h k) r := by
  simpa only [if_pos hc] using hg
theorem neg {c : Prop} [Decidable c] {g h : Nat → Option α} {r : α} (hc : ¬ c) (hh : Ev h r) : Ev (fun k => if c then g k else h k) r := by
  simpa only [if_neg hc] using hh
theorem get {g : Nat → Option α} {r : α} (h : Ev g r) : ∃ k, g k = some r := by
  obtain ⟨K, hK⟩ := h
  exact ⟨K, hK K (Nat.le_refl _)⟩
end Ev
end Go.Proofs.YtfabennfhmlihaaGreatDoor.P
end
section
namespace Go.Proofs.YtfabennfhmlihaaGreatDoor.P
open Go.RowKit Go.Proofs.YtfabennfhmlihaaGreatDoorW.zJ Go.Proofs.YtfabennfhmlihaaGreatDoorW.zU Go.Proofs.YtfabennfhmlihaaGreatDoorW.PrintMore
set_option linter.unusedVariables false
set_option linter.unusedSimpArgs false
mutual
def zya.l0 : Nat → ByteArray → ByteArray → Int → Option (Bool)
 | 0, _, _, _ => none
 | k + 1, x0, x1, x5 => if x5 < (x0.size : Int) then (zya.j1 k x0 x1 x5 (decide (x5 < (x1.size : Int)))) else (zya.j1 k x0 x1 x5 false)
def zya.j1 : Nat → ByteArray → ByteArray → Int → Bool → Option (Bool)
 | 0, _, _, _, _ => none
 | k + 1, x0, x1, x5, x15 => if x15 = true then (if 0 ≤ x5 then (if x5 < (x0.size : Int) then (if x5 < (x1.size : Int) then (if (bt x0 x5) = (bt x1 x5) then (zya.l0 k x0 x1 (wrap64 (x5 + 1))) else (some (decide ((bt x0 x5) < (bt x1 x5))))) else (none)) else (none)) else (none)) else (some (decide ((x0.size : Int) < (x1.size : Int))))
end
def zya.f (k : Nat) (a0 : ByteArray) (a1 : ByteArray) : Option (Bool) := zya.l0 k a0 a1 0
set_option maxHeartbeats 8000000 in
set_option maxRecDepth 100000 in
theorem zya.calls (k : Nat) (a0 : ByteArray) (a1 : ByteArray) (r : Bool) (w : World) (h : zya.f k a0 a1 = some r) :
  Calls Tryz.prog 176 #[.string a0, .string a1] w fun e w' => e = .returned (.bool r) ∧ zX w w' := by
 have H : (zya.l0 k a0 a1 0) = some r := h
 clear h
 have H' := zb.mk H
 clear H
 go_enter Tryz.func176, Tryz.ntmps176
 go_wp2
 repeat (go_quiet (fail); try go_wp2)
 go_loopg [5] k (fun kq v5 w' => ∃ (x5_1 : Int), v5 = .int .i64 x5_1 ∧ zb (zya.l0 kq a0 a1 x5_1 = some r) ∧ zb (kq ≤ k) ∧ zX w w')
 case atStart => exact ⟨(0), (by first | rfl | (simp; done) | (simp [*]; done)), H', ⟨Nat.le_refl _⟩, by repeat (first | exact zX.refl _ | apply zX.step)⟩
 case round =>
  clear H'
  try clear c1
  try clear p2
  obtain ⟨x5_1, rfl, HA, HK1, ⟨m1, rfl⟩⟩ := hrel
  cases gk with
  | zero => exact absurd HA.out (by simp [zya.l0])
  | succ k1 =>
   have H := HA.out
   clear HA
   simp only [zya.l0] at H
   have HC3 := zb.mk H
   clear H
   go_upto_region 2 with (fail)
   repeat (go_quiet (fail); go_upto_region 2 with (fail))
   go_cut [15] (fun v15 wc => ∃ (kq : Nat) (x15_2 : Bool), v15 = .bool x15_2 ∧ zb (zya.j1 kq a0 a1 x5_1 x15_2 = some r) ∧ zb (kq ≤ k1) ∧ zX w wc)
   case first =>
    have H := HC3.out
    clear HC3
    by_cases c4 : x5_1 < (a0.size : Int)
    ·rw [if_pos c4] at H
     have c4b0 : decide (x5_1 < (a0.size : Int)) = true := decide_eq_true c4
     clear c4
     (first | rw [c4b0] | (simp only [zva]; rw [c4b0]) | skip)
     have H' := zb.mk H
     clear H
     go_wp2
     repeat (go_quiet (fail); try go_wp2)
     go_meet
     case rel => exact ⟨_, (decide (x5_1 < (a1.size : Int))), (by first | rfl | (simp; done) | (simp [*]; done)), H', ⟨by have := HK1.out; first | omega | exact Nat.le_refl _⟩, by repeat (first | exact zX.refl _ | apply zX.step)⟩
    ·rw [if_neg c4] at H
     have c4b0 : decide (x5_1 < (a0.size : Int)) = false := decide_eq_false c4
     clear c4
     (first | rw [c4b0] | (simp only [zva]; rw [c4b0]) | skip)
     have H' := zb.mk H
     clear H
     go_wp2
     repeat (go_quiet (fail); try go_wp2)
     go_meet
     case rel => exact ⟨_, (false), (by first | rfl | (simp; done) | (simp [*]; done)), H', ⟨by have := HK1.out; first | omega | exact Nat.le_refl _⟩, by repeat (first | exact zX.refl _ | apply zX.step)⟩
   case rest =>
    clear HC3
    try clear c1
    try clear p2
    try clear c4
    try clear c4b0
    try clear p2
    obtain ⟨kq, x15_2, rfl, HA, HJ2, ⟨mc2, rfl⟩⟩ := hcut
    cases kq with
    | zero => exact absurd HA.out (by simp [zya.j1])
    | succ kj2 =>
     have H := HA.out
     clear HA
     simp only [zya.j1] at H
     by_cases c5 : x15_2 = true
     ·subst c5
      have H1 : (if 0 ≤ x5_1 then (if x5_1 < (a0.size : Int) then (if x5_1 < (a1.size : Int) then (if (bt a0 x5_1) = (bt a1 x5_1) then (zya.l0 kj2 a0 a1 (wrap64 (x5_1 + 1))) else (some (decide ((bt a0 x5_1) < (bt a1 x5_1))))) else (none)) else (none)) else (none)) = some r := by rw [if_pos rfl] at H; exact H
      clear H
      have H := H1
      clear H1
      by_cases c6 : 0 ≤ x5_1
      ·rw [if_pos c6] at H
       have c6b0 : decide (0 ≤ x5_1) = true := decide_eq_true c6
       clear c6
       by_cases c7 : x5_1 < (a0.size : Int)
       ·rw [if_pos c7] at H
        have c7b0 : decide (x5_1 < (a0.size : Int)) = true := decide_eq_true c7
        clear c7
        by_cases c9 : x5_1 < (a1.size : Int)
        ·rw [if_pos c9] at H
         have c9b0 : decide (x5_1 < (a1.size : Int)) = true := decide_eq_true c9
         clear c9
         by_cases c11 : (bt a0 x5_1) = (bt a1 x5_1)
         ·rw [if_pos c11] at H
          have c11b0 : ((bt a0 x5_1) == (bt a1 x5_1)) = true := beq_iff_eq.mpr c11
          have c11b1 : ((bt a0 x5_1) != (bt a1 x5_1)) = false := bne_eq_false_iff_eq.mpr c11
          clear c11
          have H' := zb.mk H
          clear H
          have p8 : 0 ≤ (x5_1 : Int) := of_decide_eq_true (by first | (with_reducible assumption) | assumption)
          have q8 : x5_1 < (a0.size : Int) := of_decide_eq_true (by first | (with_reducible assumption) | assumption)
          have hx8 := bt_at a0 x5_1
          replace p8 := eq_true p8
          replace q8 := eq_true q8
          have p10 : 0 ≤ (x5_1 : Int) := of_decide_eq_true (by first | (with_reducible assumption) | assumption)
          have q10 : x5_1 < (a1.size : Int) := of_decide_eq_true (by first | (with_reducible assumption) | assumption)
          have hx10 := bt_at a1 x5_1
          replace p10 := eq_true p10
          replace q10 := eq_true q10
          go_wp2
          repeat (go_quiet (fail); try go_wp2)
          go_roundg kj2
          case measure => have := HK1.out; have := HJ2.out; omega
          case rel => exact ⟨(wrap64 (x5_1 + 1)), (by first | rfl | (simp; done) | (simp [*]; done)), H', ⟨by have := HK1.out; have := HJ2.out; omega⟩, by repeat (first | exact zX.refl _ | apply zX.step)⟩
         ·rw [if_neg c11] at H
          have c11b0 : ((bt a0 x5_1) == (bt a1 x5_1)) = false := beq_eq_false_iff_ne.mpr c11
          have c11b1 : ((bt a0 x5_1) != (bt a1 x5_1)) = true := bne_iff_ne.mpr c11
          obtain rfl := Option.some.inj H
          have p8 : 0 ≤ (x5_1 : Int) := of_decide_eq_true (by first | (with_reducible assumption) | assumption)
          have q8 : x5_1 < (a0.size : Int) := of_decide_eq_true (by first | (with_reducible assumption) | assumption)
          have hx8 := bt_at a0 x5_1
          replace p8 := eq_true p8
          replace q8 := eq_true q8
          have p10 : 0 ≤ (x5_1 : Int) := of_decide_eq_true (by first | (with_reducible assumption) | assumption)
          have q10 : x5_1 < (a1.size : Int) := of_decide_eq_true (by first | (with_reducible assumption) | assumption)
          have hx10 := bt_at a1 x5_1
          replace p10 := eq_true p10
          replace q10 := eq_true q10
          have p12 : 0 ≤ (x5_1 : Int) := of_decide_eq_true (by first | (with_reducible assumption) | assumption)
          have q12 : x5_1 < (a0.size : Int) := of_decide_eq_true (by first | (with_reducible assumption) | assumption)
          have hx12 := bt_at a0 x5_1
          replace p12 := eq_true p12
          replace q12 := eq_true q12
          have p13 : 0 ≤ (x5_1 : Int) := of_decide_eq_true (by first | (with_reducible assumption) | assumption)
          have q13 : x5_1 < (a1.size : Int) := of_decide_eq_true (by first | (with_reducible assumption) | assumption)
          have hx13 := bt_at a1 x5_1
          replace p13 := eq_true p13
          replace q13 := eq_true q13
          go_wp2
          repeat (go_quiet (fail); try go_wp2)
          go_ret
          exact ⟨by first | rfl | (simp; done) | (simp [*]; done), by repeat (first | exact zX.refl _ | apply zX.step)⟩
        ·rw [if_neg c9] at H
         exact absurd H (by simp)
       ·rw [if_neg c7] at H
        exact absurd H (by simp)
      ·rw [if_neg c6] at H
       exact absurd H (by simp)
     ·replace c5 := Bool.eq_false_iff.mpr c5
      subst c5
      have H1 : (some (decide ((a0.size : Int) < (a1.size : Int)))) = some r := by rw [if_neg (show ¬ (false = true) by decide)] at H; exact H
      clear H
      have H := H1
      clear H1
      obtain rfl := Option.some.inj H
      go_wp2
      repeat (go_quiet (fail); try go_wp2)
      go_ret
      exact ⟨by first | rfl | (simp; done) | (simp [*]; done), by repeat (first | exact zX.refl _ | apply zX.step)⟩
end Go.Proofs.YtfabennfhmlihaaGreatDoor.P
end
section
namespace Go.Proofs.YtfabennfhmlihaaGreatDoor.P
open Go Go.RowKit Go.Proofs.YtfabennfhmlihaaGreatDoorW.zJ Go.Proofs.YtfabennfhmlihaaGreatDoorW.zU Go.Proofs.YtfabennfhmlihaaGreatDoorW.PrintMore
set_option linter.unusedVariables false
theorem getD_drop {α : Type} (l : List α) (i : Nat) (d : α) (h : i < l.length) : l.drop i = l.getD i d :: l.drop (i + 1) := by
  rw [List.getD_eq_getElem?_getD, List.getElem?_eq_getElem h]
  exact List.drop_eq_getElem_cons h
theorem l2Before_at (a b : List UInt8) (ha : a.length ≤ 9223372036854775807) (n : Nat) : ∀ i : Nat, a.length - i = n → i ≤ a.length → i ≤ b.length →
    Ev (fun k => zya.l0 k (tx a) (tx b) i) (Op.bytesLess (a.drop i) (b.drop i)) := by
  induction n with
  | zero =>
    intro i hn hi hj
    have e : i = a.length := by omega
    subst e
    refine Ev.succ ?_
    simp only [zya.l0, zMa]
    refine Ev.neg (by omega) (Ev.succ ?_)
    simp only [zya.j1, zMa]
    refine Ev.neg (by simp) (Ev.const ?_)
    congr 1
    rw [List.drop_of_length_le (Nat.le_refl _)]
    cases h : b.drop a.length with
    | nil =>
      have := congrArg List.length h
      simp at this
      simp [Op.bytesLess]; omega
    | cons c r =>
      have := congrArg List.length h
      simp at this
      simp [Op.bytesLess]; omega
  | succ n ih =>
    intro i hn hi hj
    have hlt : i < a.length := by omega
    refine Ev.succ ?_
    simp only [zya.l0, zMa]
    refine Ev.pos (by omega) (Ev.succ ?_)
    simp only [zya.j1, zMa, tx_bt]
    by_cases hb : i < b.length
    · refine Ev.pos (by simpa using hb) (Ev.pos (by omega) (Ev.pos (by omega) (Ev.pos (by omega) ?_)))
      rw [getD_drop a i 0 hlt, getD_drop b i 0 hb]
      simp only [Int.toNat_natCast]
      by_cases e : a.getD i 0 = b.getD i 0
      · refine Ev.pos (by rw [e]) ?_
        rw [zSa (by omega) (by omega)]
        have := ih (i + 1) (by omega) (by omega) (by omega)
        rw [e]
        simp only [Op.bytesLess, UInt8.lt_irrefl, decide_false, beq_self_eq_true, Bool.true_and, Bool.false_or]
        simpa using this
      · refine Ev.neg (fun h => e (UInt8.toNat_inj.1 (by omega))) (Ev.const ?_)
        congr 1
        have e2 : (a.getD i 0 == b.getD i 0) = false := by simpa using e
        simp only [Op.bytesLess, e2, Bool.false_and, Bool.or_false, UInt8.lt_iff_toNat_lt]
        simp
    · refine Ev.neg (by simpa using hb) (Ev.const ?_)
      congr 1
      have e : b.drop i = [] := List.drop_of_length_le (by omega)
      rw [e]
      cases h : a.drop i <;> simp [Op.bytesLess] <;> omega
theorem l2Before_ev (a b : List UInt8) (ha : a.length ≤ 9223372036854775807) : Ev (fun k => zya.f k (tx a) (tx b)) (Op.bytesLess a b) := by
  have := l2Before_at a b ha a.length 0 (by omega) (by omega) (by omega)
  unfold zya.f
  simpa using this
end Go.Proofs.YtfabennfhmlihaaGreatDoor.P
end
section
namespace Go.Proofs.YtfabennfhmlihaaGreatDoor.P
open Go.RowKit Go.Proofs.YtfabennfhmlihaaGreatDoorW.zJ Go.Proofs.YtfabennfhmlihaaGreatDoorW.zU Go.Proofs.YtfabennfhmlihaaGreatDoorW.PrintMore
set_option linter.unusedVariables false
set_option linter.unusedSimpArgs false
def spec_l2Own.f (l0 : List ByteArray) : Option (List ByteArray) := (some (([] : List ByteArray) : List ByteArray)).bind fun y1603 => (if y1603.length + l0.length < 8796093022208 then (some (y1603 ++ l0)) else (none))
set_option maxHeartbeats 8000000 in
set_option maxRecDepth 100000 in
theorem spec_l2Own.calls (A0 : Option Addr) (c0 : Nat) (l0 : List ByteArray) (r : List ByteArray) (w : World) (hr0 : Kd.C Kd.string w A0 l0.length l0) (hc0 : l0.length ≤ c0) (h : spec_l2Own.f l0 = some r) :
  Calls Tryz.prog 190 #[.slice A0 l0.length c0] w fun e w' => ∃ v0_ : Value, e = .returned (v0_) ∧ Kd.R Kd.string 9 w' w.heap.size (fun _ => True) v0_ r ∧ Below w.heap.size w w' := by
 have HR0 := zb.mk hr0
 have HC0 := zb.mk hc0
 clear hr0 hc0
 have HB := zb.mk (Below.refl w.heap.size w)
 have H : ((some (([] : List ByteArray) : List ByteArray)).bind fun y1603 => (if y1603.length + l0.length < 8796093022208 then (some (y1603 ++ l0)) else (none))) = some r := h
 clear h
 obtain ⟨y1603, hy1603⟩ : ∃ y_ : List ByteArray, y_ = (([] : List ByteArray)) := ⟨_, rfl⟩
 replace H : (if y1603.length + l0.length < 8796093022208 then (some (y1603 ++ l0)) else (none)) = some r := by first | (rw [hy1603]; with_reducible exact H) | (have H2_ := (Option.bind_some _ _).symm.trans H; rw [hy1603]; with_reducible exact H2_) | (have H2_ := (Option.bind_some _ _).symm.trans H; with_reducible exact H2_) | with_reducible exact H | (rw [hy1603]; exact H) | exact H
 have Ny1603 := zb.mk hy1603
 clear hy1603
 by_cases c2 : y1603.length + l0.length < 8796093022208
 ·rw [if_pos c2] at H
  have LMc2 := zb.mk c2
  clear c2
  obtain ⟨y1606, hy1606⟩ : ∃ y_ : List ByteArray, y_ = (y1603 ++ l0) := ⟨_, rfl⟩
  replace H : (some y1606) = some r := by first | (rw [hy1606]; with_reducible exact H) | (have H2_ := (Option.bind_some _ _).symm.trans H; rw [hy1606]; with_reducible exact H2_) | (have H2_ := (Option.bind_some _ _).symm.trans H; with_reducible exact H2_) | with_reducible exact H | (rw [hy1606]; exact H) | exact H
  have Ny1606 := zb.mk hy1606
  clear hy1606
  obtain rfl := Option.some.inj H
  go_enter Tryz.func190, Tryz.ntmps190
  go_wp2_with (first | ((with_reducible refine zoa (N := 3) rfl ?_); refine Kd.R_lit Kd.string _ 9 ?hg (N := 3) ?hd (xs := ([] : List ByteArray)) (inner := []) (ok := fun _ => True) (okp := fun _ => True) ?hr ?hp (fun _ hk => hk) trivial (Below.refl _ _) (Nat.le_refl _) (by simp) ?_; (case hd => rfl); (case hg => rfl); (case hr => first | (go_simp; done) | (go_simp; rfl)); (case hp => exact (Reps.none _ _)); intro v1604 w3 ho4 hb hg_ hnew_; clear hg_ hnew_; (first | rw [← Ny1603.out] at ho4 | (simp only [Int.reduceToNat] at ho4; rw [← Ny1603.out] at ho4)); have n0_ := zb.mk (Kd.zua ho4 (zt (by repeat (first | (with_reducible first | exact HB.out | apply zg | apply ze | apply zf) | exact HB.out)))); have n1_ := zb.mk (zw (by repeat (first | (with_reducible first | exact HB.out | apply zg | apply ze | apply zf) | exact HB.out)) hb); clear HB; have HO1605 := n0_; have HB := n1_; clear n0_ n1_; clear hb ho4) | ((with_reducible refine zZa (b := .append) (xs := #[.tmp 3, .tmp 4]) rfl ?_); at_builtin; refine Kd.R_append_rows Kd.string (w0 := w) w.heap.size rfl (.tmp 3) (.tmp 4) 31 9 (.string ⟨#[]⟩) 16 rfl Tryz.underlying31 info9 rfl (by decide) (by omega) v1604 y1603 l0 _ _ _ (fun _ => True) (fun _ => False) rfl rfl ?aO ?aR (fun _ _ h => h) (fun _ h => h.elim) ?aF ?aB ?aS ?aL ?_; (case aR => repeat (first | exact (Kd.zV HR0.out HB.out) | (with_reducible refine Kd.zga ?_ _) | (with_reducible refine Kd.zia ?_ _) | (with_reducible refine Kd.zAa ?_))); (case aB => exact (by repeat (first | (with_reducible first | exact HB.out | apply zg | apply ze | apply zf) | exact HB.out))); (case aF => exact (fun _ _ => trivial)); (case aO => exact (by (with_reducible repeat (first | apply Kd.zo | apply Kd.zq | apply Kd.zA)); exact HO1605.out)); (case aS => exact (zt (by repeat (first | (with_reducible first | exact HB.out | apply zg | apply ze | apply zf) | exact HB.out)))); (case aL => have := LMc2.out; omega); intro v1607 w5 ho hb hg hat; rw [← Ny1606.out] at ho; have n0_ := zb.mk (hb); have n1_ := zb.mk (ho); clear HB; clear HO1605; have HB := n0_; have HO1608 := n1_; clear n0_ n1_; clear ho hb hg hat))
  go_ret
  exact ⟨_, by first | rfl | (simp [zC, zB] <;> rfl) | (simp [*, zC, zB] <;> rfl), by (with_reducible repeat (first | apply Kd.zo | apply Kd.zq | apply Kd.zA)); exact HO1608.out, by repeat (first | (with_reducible first | exact HB.out | apply zg | apply ze | apply zf) | exact HB.out)⟩
 ·rw [if_neg c2] at H
  exact absurd H (by simp)
end Go.Proofs.YtfabennfhmlihaaGreatDoor.P
end
section
namespace Go.Proofs.YtfabennfhmlihaaGreatDoor.P
open Go.RowKit Go.Proofs.YtfabennfhmlihaaGreatDoorW.zJ Go.Proofs.YtfabennfhmlihaaGreatDoorW.zU Go.Proofs.YtfabennfhmlihaaGreatDoorW.PrintMore
set_option linter.unusedVariables false
set_option linter.unusedSimpArgs false
/-- What comes back is what came in, or something else of which R holds. -/
def zLa.Back (u v : Value) (l r : List ByteArray) (R : Prop) : Prop := (v = u ∧ r = l) ∨ R
def zLa.l0 : Nat → List ByteArray → ByteArray → Int → Option (List ByteArray)
 | 0, _, _, _ => none
 | k + 1, x0, x1, x5 => if x5 < (x0.length : Int) then (if 0 ≤ x5 then ((zya.f k (rdOf ByteArray.empty x0 x5) x1).bind fun t196 => (if t196 = true then (zLa.l0 k x0 x1 (wrap64 (x5 + 1))) else (if (rdOf ByteArray.empty x0 x5).toList = x1.toList then (some x0) else (if x5 ≤ (x0.length : Int) then ((spec_l2Own.f (x0.take (x5 : Int).toNat)).bind fun t203 => ((some (([x1] : List ByteArray) : List ByteArray)).bind fun y206 => (if t203.length + y206.length < 8796093022208 then ((some (t203 ++ y206 : List ByteArray)).bind fun y209 => ((some (x0.drop (x5 : Int).toNat : List ByteArray)).bind fun y212 => (if y209.length + y212.length < 8796093022208 then (some (y209 ++ y212)) else (none)))) else (none)))) else (none))))) else (none)) else (if 0 ≤ x5 then (if x5 ≤ (x0.length : Int) then ((spec_l2Own.f (x0.take (x5 : Int).toNat)).bind fun t225 => ((some (([x1] : List ByteArray) : List ByteArray)).bind fun y228 => (if t225.length + y228.length < 8796093022208 then ((some (t225 ++ y228 : List ByteArray)).bind fun y231 => ((some (x0.drop (x5 : Int).toNat : List ByteArray)).bind fun y234 => (if y231.length + y234.length < 8796093022208 then (some (y231 ++ y234)) else (none)))) else (none)))) else (none)) else (none))
def zLa.f (k : Nat) (l0 : List ByteArray) (a1 : ByteArray) : Option (List ByteArray) := zLa.l0 k l0 a1 0
def zLa.T6 : Bool × List (List Nat × List Nat) := (true, [([], []), ([], []), ([0, 1], [0, 1]), ([2], [2]), ([], []), ([4], [4]), ([3, 5, 3], [3, 5]), ([], []), ([], []), ([7, 8], [7, 8]), ([6, 9, 6], [6, 9]), ([10, 10, 0, 1, 2, 3, 4, 5, 6, 7, 8, 9, 10], [10])])
def zLa.B6 : List Nat := [0, 0, 3, 7, 0, 16, 63, 0, 0, 384, 1023, 2047]
theorem zLa.tab6 : rtab .any (opsOf Tryz.f185 6) = zLa.T6 := by kernel_rfl
theorem zLa.bits6 : waitsOk zLa.T6.2 zLa.B6 = true := by kernel_rfl
set_option maxHeartbeats 8000000 in
set_option maxRecDepth 100000 in
theorem zLa.put (k : Nat) (P0_ : Nat → Prop) (A0 : Option Addr) (c0 : Nat) (l0 : List ByteArray) (a1 : ByteArray) (r : List ByteArray) (w : World) (hs0 : Kd.V Kd.string 9 w w.heap.size (fun k_ => P0_ k_) (.slice A0 l0.length c0) l0) (h : zLa.f k l0 a1 = some r) :
  Calls Tryz.prog 185 #[.slice A0 l0.length c0, .string a1] w fun e w' => ∃ v0_ : Value, e = .returned (v0_) ∧ zLa.Back (.slice A0 l0.length c0) v0_ l0 r (Kd.R Kd.string 9 w' w.heap.size (fun _ => True) v0_ r) ∧ Below w.heap.size w w' := by
 have HO0 := zb.mk (show Kd.V Kd.string 9 w w.heap.size (fun k_ => (P0_ k_ ∨ w.heap.size ≤ k_)) (.slice A0 l0.length c0) l0 from Kd.V_mono hs0 (fun k_ hk => .inl hk))
 have HB := zb.mk (Below.refl w.heap.size w)
 have H : (zLa.l0 k l0 a1 0) = some r := h
 clear h
 have H' := zb.mk H
 clear H
 go_enter Tryz.func185, Tryz.ntmps185
 go_wp2
 go_loopg [5] k (fun kq v5 w' => ∃ (x5_1 : Int), v5 = .int .i64 x5_1 ∧ zb (zLa.l0 kq l0 a1 x5_1 = some r) ∧ zb (kq ≤ k) ∧ zb (Kd.V Kd.string 9 w' w.heap.size (fun k_ => (P0_ k_ ∨ w.heap.size ≤ k_)) (.slice A0 l0.length c0) l0) ∧ zb (Below w.heap.size w w'))
 case atStart => exact ⟨(0), (by first | rfl | (simp; done) | (simp [*]; done)), H', ⟨Nat.le_refl _⟩, ⟨by (with_reducible repeat (first | apply Kd.zQa | apply Kd.zPa | apply Kd.zab)); exact HO0.out⟩, ⟨by repeat (first | (with_reducible first | exact HB.out | apply zg | apply ze | apply zf) | exact HB.out)⟩⟩
 case round =>
  clear H'
  try clear c1
  try clear p2
  obtain ⟨x5_1, rfl, HA, HK1, HO_0, HB⟩ := hrel
  cases gk with
  | zero => exact absurd HA.out (by simp [zLa.l0])
  | succ k1 =>
   have H := HA.out
   clear HA
   simp only [zLa.l0] at H
   by_cases c3 : x5_1 < (l0.length : Int)
   ·rw [if_pos c3] at H
    have c3b0 : decide (x5_1 < (l0.length : Int)) = true := decide_eq_true c3
    clear c3
    by_cases c4 : 0 ≤ x5_1
    ·rw [if_pos c4] at H
     have c4b0 : decide (0 ≤ x5_1) = true := decide_eq_true c4
     clear c4
     replace H := Option.bind_eq_some_iff.mp H
     obtain ⟨t196, A50, H⟩ := H
     replace H : (if t196 = true then (zLa.l0 k1 l0 a1 (wrap64 (x5_1 + 1))) else (if (rdOf ByteArray.empty l0 x5_1).toList = a1.toList then (some l0) else (if x5_1 ≤ (l0.length : Int) then ((spec_l2Own.f (l0.take (x5_1 : Int).toNat)).bind fun t203 => ((some (([a1] : List ByteArray) : List ByteArray)).bind fun y206 => (if t203.length + y206.length < 8796093022208 then ((some (t203 ++ y206 : List ByteArray)).bind fun y209 => ((some (l0.drop (x5_1 : Int).toNat : List ByteArray)).bind fun y212 => (if y209.length + y212.length < 8796093022208 then (some (y209 ++ y212)) else (none)))) else (none)))) else (none)))) = some r := H
     have A5 := zb.mk A50
     clear A50
     by_cases c6 : t196 = true
     ·subst c6
      have H1 : (zLa.l0 k1 l0 a1 (wrap64 (x5_1 + 1))) = some r := by rw [if_pos rfl] at H; exact H
      clear H
      have H := H1
      clear H1
      have H' := zb.mk H
      clear H
      have p195 : 0 ≤ (x5_1 : Int) := of_decide_eq_true (by first | (with_reducible assumption) | assumption)
      have q195 : x5_1 < (l0.length : Int) := of_decide_eq_true (by first | (with_reducible assumption) | assumption)
      obtain ⟨ad195, e195, hx195_0⟩ := Kd.zza (Kd.V_reads' HO_0.out).2.2 x5_1 p195 q195
      cases e195
      replace p195 := eq_true p195
      replace q195 := eq_true q195
      go_wp2_with (first | (go_at_call 176; (with_reducible refine (zya.calls k1 (rdOf ByteArray.empty l0 x5_1) a1 true _ A5.out).mono ?_); rintro e w' ⟨rfl, ⟨nd, rfl⟩⟩))
      go_roundg k1
      case measure => have := HK1.out; omega
      case rel => exact ⟨(wrap64 (x5_1 + 1)), (by first | rfl | (simp; done) | (simp [*]; done)), H', ⟨by have := HK1.out; omega⟩, ⟨by (with_reducible repeat (first | apply Kd.zQa | apply Kd.zPa | apply Kd.zab)); exact HO_0.out⟩, ⟨by repeat (first | (with_reducible first | exact HB.out | apply zg | apply ze | apply zf) | exact HB.out)⟩⟩
     ·replace c6 := Bool.eq_false_iff.mpr c6
      subst c6
      have H1 : (if (rdOf ByteArray.empty l0 x5_1).toList = a1.toList then (some l0) else (if x5_1 ≤ (l0.length : Int) then ((spec_l2Own.f (l0.take (x5_1 : Int).toNat)).bind fun t203 => ((some (([a1] : List ByteArray) : List ByteArray)).bind fun y206 => (if t203.length + y206.length < 8796093022208 then ((some (t203 ++ y206 : List ByteArray)).bind fun y209 => ((some (l0.drop (x5_1 : Int).toNat : List ByteArray)).bind fun y212 => (if y209.length + y212.length < 8796093022208 then (some (y209 ++ y212)) else (none)))) else (none)))) else (none))) = some r := by rw [if_neg (show ¬ (false = true) by decide)] at H; exact H
      clear H
      have H := H1
      clear H1
      by_cases c7 : (rdOf ByteArray.empty l0 x5_1).toList = a1.toList
      ·rw [if_pos c7] at H
       have c7b0 : ((rdOf ByteArray.empty l0 x5_1).toList == a1.toList) = true := beq_iff_eq.mpr c7
       have c7b1 : ((rdOf ByteArray.empty l0 x5_1).toList != a1.toList) = false := bne_eq_false_iff_eq.mpr c7
       clear c7
       obtain rfl := Option.some.inj H
       have p195 : 0 ≤ (x5_1 : Int) := of_decide_eq_true (by first | (with_reducible assumption) | assumption)
       have q195 : x5_1 < (l0.length : Int) := of_decide_eq_true (by first | (with_reducible assumption) | assumption)
       obtain ⟨ad195, e195, hx195_0⟩ := Kd.zza (Kd.V_reads' HO_0.out).2.2 x5_1 p195 q195
       cases e195
       replace p195 := eq_true p195
       replace q195 := eq_true q195
       go_wp2_with (first | (go_at_call 176; (with_reducible refine (zya.calls k1 (rdOf ByteArray.empty l0 x5_1) a1 false _ A5.out).mono ?_); rintro e w' ⟨rfl, ⟨nd, rfl⟩⟩; have p197 : 0 ≤ (x5_1 : Int) := of_decide_eq_true (by first | (with_reducible assumption) | assumption); have q197 : x5_1 < (l0.length : Int) := of_decide_eq_true (by first | (with_reducible assumption) | assumption); obtain ⟨ad197, e197, hx197_0⟩ := Kd.zza (Kd.V_reads' HO_0.out).2.2 x5_1 p197 q197; obtain rfl : ad195 = ad197 := (by injection e197); replace p197 := eq_true p197; replace q197 := eq_true q197))
       go_ret
       exact ⟨_, by first | rfl | (simp [zC, zB] <;> rfl) | (simp [*, zC, zB] <;> rfl), Or.inl ⟨rfl, rfl⟩, by repeat (first | (with_reducible first | exact HB.out | apply zg | apply ze | apply zf) | exact HB.out)⟩
      ·rw [if_neg c7] at H
       have c7b0 : ((rdOf ByteArray.empty l0 x5_1).toList == a1.toList) = false := beq_eq_false_iff_ne.mpr c7
       have c7b1 : ((rdOf ByteArray.empty l0 x5_1).toList != a1.toList) = true := bne_iff_ne.mpr c7
       have c8b0 := eq_true (of_decide_eq_true (by first | (with_reducible assumption) | assumption) : 0 ≤ x5_1)
       by_cases c9 : x5_1 ≤ (l0.length : Int)
       ·rw [if_pos c9] at H
        have c9b0 := eq_true c9
        have c9b1 : decide (x5_1 ≤ (l0.length : Int)) = true := decide_eq_true c9
        clear c9
        obtain ⟨y198, hy198⟩ : ∃ y_ : List ByteArray, y_ = (l0.take (x5_1 : Int).toNat) := ⟨_, rfl⟩
        replace H : ((spec_l2Own.f y198).bind fun t203 => ((some (([a1] : List ByteArray) : List ByteArray)).bind fun y206 => (if t203.length + y206.length < 8796093022208 then ((some (t203 ++ y206 : List ByteArray)).bind fun y209 => ((some (l0.drop (x5_1 : Int).toNat : List ByteArray)).bind fun y212 => (if y209.length + y212.length < 8796093022208 then (some (y209 ++ y212)) else (none)))) else (none)))) = some r := by first | (rw [hy198]; with_reducible exact H) | (have H2_ := (Option.bind_some _ _).symm.trans H; rw [hy198]; with_reducible exact H2_) | (have H2_ := (Option.bind_some _ _).symm.trans H; with_reducible exact H2_) | with_reducible exact H | (rw [hy198]; exact H) | exact H
        have Ny198 := zb.mk hy198
        clear hy198
        replace H := Option.bind_eq_some_iff.mp H
        obtain ⟨t203, A100, H⟩ := H
        replace H : ((some (([a1] : List ByteArray) : List ByteArray)).bind fun y206 => (if t203.length + y206.length < 8796093022208 then ((some (t203 ++ y206 : List ByteArray)).bind fun y209 => ((some (l0.drop (x5_1 : Int).toNat : List ByteArray)).bind fun y212 => (if y209.length + y212.length < 8796093022208 then (some (y209 ++ y212)) else (none)))) else (none))) = some r := H
        have A10 := zb.mk A100
        clear A100
        obtain ⟨y206, hy206⟩ : ∃ y_ : List ByteArray, y_ = (([a1] : List ByteArray)) := ⟨_, rfl⟩
        replace H : (if t203.length + y206.length < 8796093022208 then ((some (t203 ++ y206 : List ByteArray)).bind fun y209 => ((some (l0.drop (x5_1 : Int).toNat : List ByteArray)).bind fun y212 => (if y209.length + y212.length < 8796093022208 then (some (y209 ++ y212)) else (none)))) else (none)) = some r := by first | (rw [hy206]; with_reducible exact H) | (have H2_ := (Option.bind_some _ _).symm.trans H; rw [hy206]; with_reducible exact H2_) | (have H2_ := (Option.bind_some _ _).symm.trans H; with_reducible exact H2_) | with_reducible exact H | (rw [hy206]; exact H) | exact H
        have Ny206 := zb.mk hy206
        clear hy206
        by_cases c11 : t203.length + y206.length < 8796093022208
        ·rw [if_pos c11] at H
         have LMc11 := zb.mk c11
         clear c11
         obtain ⟨y209, hy209⟩ : ∃ y_ : List ByteArray, y_ = (t203 ++ y206) := ⟨_, rfl⟩
         replace H : ((some (l0.drop (x5_1 : Int).toNat : List ByteArray)).bind fun y212 => (if y209.length + y212.length < 8796093022208 then (some (y209 ++ y212)) else (none))) = some r := by first | (rw [hy209]; with_reducible exact H) | (have H2_ := (Option.bind_some _ _).symm.trans H; rw [hy209]; with_reducible exact H2_) | (have H2_ := (Option.bind_some _ _).symm.trans H; with_reducible exact H2_) | with_reducible exact H | (rw [hy209]; exact H) | exact H
         have Ny209 := zb.mk hy209
         clear hy209
         have c12b0 := eq_true (of_decide_eq_true (by first | (with_reducible assumption) | assumption) : 0 ≤ x5_1)
         have c13b0 := eq_true (of_decide_eq_true (by first | (with_reducible assumption) | assumption) : x5_1 ≤ (l0.length : Int))
         obtain ⟨y212, hy212⟩ : ∃ y_ : List ByteArray, y_ = (l0.drop (x5_1 : Int).toNat) := ⟨_, rfl⟩
         replace H : (if y209.length + y212.length < 8796093022208 then (some (y209 ++ y212)) else (none)) = some r := by first | (rw [hy212]; with_reducible exact H) | (have H2_ := (Option.bind_some _ _).symm.trans H; rw [hy212]; with_reducible exact H2_) | (have H2_ := (Option.bind_some _ _).symm.trans H; with_reducible exact H2_) | with_reducible exact H | (rw [hy212]; exact H) | exact H
         have Ny212 := zb.mk hy212
         clear hy212
         by_cases c14 : y209.length + y212.length < 8796093022208
         ·rw [if_pos c14] at H
          have LMc14 := zb.mk c14
          clear c14
          obtain ⟨y217, hy217⟩ : ∃ y_ : List ByteArray, y_ = (y209 ++ y212) := ⟨_, rfl⟩
          replace H : (some y217) = some r := by first | (rw [hy217]; with_reducible exact H) | (have H2_ := (Option.bind_some _ _).symm.trans H; rw [hy217]; with_reducible exact H2_) | (have H2_ := (Option.bind_some _ _).symm.trans H; with_reducible exact H2_) | with_reducible exact H | (rw [hy217]; exact H) | exact H
          have Ny217 := zb.mk hy217
          clear hy217
          obtain rfl := Option.some.inj H
          have p195 : 0 ≤ (x5_1 : Int) := of_decide_eq_true (by first | (with_reducible assumption) | assumption)
          have q195 : x5_1 < (l0.length : Int) := of_decide_eq_true (by first | (with_reducible assumption) | assumption)
          obtain ⟨ad195, e195, hx195_0⟩ := Kd.zza (Kd.V_reads' HO_0.out).2.2 x5_1 p195 q195
          cases e195
          replace p195 := eq_true p195
          replace q195 := eq_true q195
          try go_wp2_with (first | (go_at_call 176; (with_reducible refine (zya.calls k1 (rdOf ByteArray.empty l0 x5_1) a1 false _ A5.out).mono ?_); rintro e w' ⟨rfl, ⟨nd, rfl⟩⟩; have p197 : 0 ≤ (x5_1 : Int) := of_decide_eq_true (by first | (with_reducible assumption) | assumption); have q197 : x5_1 < (l0.length : Int) := of_decide_eq_true (by first | (with_reducible assumption) | assumption); obtain ⟨ad197, e197, hx197_0⟩ := Kd.zza (Kd.V_reads' HO_0.out).2.2 x5_1 p197 q197; obtain rfl : ad195 = ad197 := (by injection e197); replace p197 := eq_true p197; replace q197 := eq_true q197))
          (try (rw [drewN_self wr]; generalize hq_ : World.drewN wr _ = wr; have n0_ : zb (Kd.V Kd.string 9 wr w.heap.size (fun k_ => (P0_ k_ ∨ w.heap.size ≤ k_)) (.slice (some ad195) l0.length c0) l0) := ⟨by rw [← hq_]; exact (by (with_reducible repeat (first | apply Kd.zQa | apply Kd.zPa | apply Kd.zab)); exact HO_0.out)⟩; have n1_ : zb (Below w.heap.size w wr) := ⟨by rw [← hq_]; exact (by repeat (first | (with_reducible first | exact HB.out | apply zg | apply ze | apply zf) | exact HB.out))⟩; clear HO_0 HB hq_; have HO_0 := n0_; have HB := n1_; clear n0_ n1_))
          have n0_ := zb.mk (Kd.zab HO_0.out)
          have n1_ := zb.mk (zf HB.out)
          clear HO_0
          clear HB
          have HO_0 := n0_
          have HB := n1_
          clear n0_ n1_
          have q16 : (x5_1 : Int) ≤ ((l0.length : Int) : Int) := of_decide_eq_true (by first | (with_reducible assumption) | assumption)
          obtain ⟨i016, hi016, _, hsz16, _⟩ := info_parts info9
          have hroom16 : l0.length ≤ c0 := (Kd.V_reads' HO_0.out).2.1
          have hC16 : Kd.F Kd.string _ _ (some ad195) l0.length l0 := (Kd.V_at (base := w.heap.size) HO_0.out).2.2
          have hcut16 := cut_to (P := Tryz.prog) 31 9 .i64 Tryz.underlying31 hi016 (some ad195) l0.length c0 x5_1 (of_decide_eq_true (by first | (with_reducible assumption) | assumption)) q16 hroom16
          have hr16 := Kd.F_take (m := (x5_1 : Int).toNat) hC16 (by omega)
          have hy16 : y198.length = (x5_1 : Int).toNat := (by rw [Ny198.out, List.length_take]; omega)
          rw [← Ny198.out] at hr16
          rw [← hy16] at hcut16
          have HO202 := zb.mk (show Kd.V Kd.string 9 _ w.heap.size _ (.slice (some ad195) y198.length c0) y198 from Kd.V_mk (by omega) hr16)
          have HC202 := zb.mk (show y198.length ≤ c0 from by omega)
          clear hr16 hC16 hroom16 hi016 hsz16
          have KY16 := zb.mk hy16
          clear hy16
          replace q16 := eq_true q16
          have q17 : (x5_1 : Int) ≤ ((l0.length : Int) : Int) := of_decide_eq_true (by first | (with_reducible assumption) | assumption)
          obtain ⟨i017, hi017, _, hsz17, _⟩ := info_parts info9
          have hroom17 : l0.length ≤ c0 := (Kd.V_reads' HO_0.out).2.1
          have hC17 : Kd.F Kd.string _ _ (some ad195) l0.length l0 := (Kd.V_at (base := w.heap.size) HO_0.out).2.2
          have q017 : (0 : Int) ≤ (x5_1 : Int) := of_decide_eq_true (by first | (with_reducible assumption) | assumption)
          have hcut17 := cut_from (P := Tryz.prog) 31 9 .i64 Tryz.underlying31 hi017 1 hsz17 (some ad195) l0.length c0 x5_1 q017 q17
          have hr17 := Kd.F_cut (m := (x5_1 : Int).toNat) (c := c0) hC17 (by omega) hroom17
          obtain ⟨A17, hA17⟩ : ∃ A1, A1 = (if c0 = (x5_1 : Int).toNat then (some ad195) else ((some ad195) : Option Addr).map (·.add ((x5_1 : Int).toNat * 1))) := ⟨_, rfl⟩
          obtain ⟨c17, hc17⟩ : ∃ c1, c1 = c0 - (x5_1 : Int).toNat := ⟨_, rfl⟩
          have hy17 : y212.length = l0.length - (x5_1 : Int).toNat := (by rw [Ny212.out, List.length_drop] <;> omega)
          rw [show (l0).drop (x5_1 : Int).toNat = y212 from Ny212.out.symm] at hr17
          replace hr17 : Kd.F Kd.string _ _ A17 y212.length y212 := (by rw [hA17]; exact hr17)
          rw [← hy17, ← hA17, ← hc17] at hcut17
          have HO216 := zb.mk (show Kd.V Kd.string 9 _ w.heap.size _ (.slice A17 y212.length c17) y212 from Kd.V_mk (by rw [hy17, hc17]; exact Nat.sub_le_sub_right hroom17 _) hr17)
          have HC216 := zb.mk (show y212.length ≤ c17 from by rw [hy17, hc17]; exact Nat.sub_le_sub_right hroom17 _)
          clear hr17 hC17 hroom17 hi017 hsz17 hc17
          have KY17 := zb.mk hy17
          have KA17 := zb.mk hA17
          clear hy17 hA17
          replace q17 := eq_true q17
          refine start_ (n := 12) (S := fun w' => True) (ds := []) #[false, false, false, false, false, false, false, false, false, false, false, false] (by kernel_rfl) rfl rfl trivial (fun hHeld => ?_); refine with_tabW zLa.tab6 zLa.bits6 (fun HT_ HW_ => ?_)
          generalize wr.drew = w15 at HO_0 HB HO202 HO216 hHeld ⊢
          refine zib (i := 0) (N := some 33) (v := ?_) (a' := ?_) #[true, false, false, false, false, false, false, false, false, false, false, false] rfl rfl (zVa HT_.out (by kernel_rfl)) (fun _ _ _ h => h) (Or.inl ⟨by rfl, ?_⟩) ?_ ?_
          rotate_left
          ·intro w'
           go_simp
           with_reducible rfl
          rotate_left
          ·simp only [Act.put, List.setIfInBounds_toArray, List.set_cons_zero, List.set_cons_succ, zva]
           rfl
          refine zib (i := 1) (N := some 34) (v := ?_) (a' := ?_) #[true, true, false, false, false, false, false, false, false, false, false, false] rfl rfl (zVa HT_.out (by kernel_rfl)) (fun _ _ _ h => h) (Or.inl ⟨by rfl, ?_⟩) ?_ ?_
          rotate_left
          ·intro w'
           go_simp
           with_reducible rfl
          rotate_left
          ·simp only [Act.put, List.setIfInBounds_toArray, List.set_cons_zero, List.set_cons_succ, zva]
           rfl
          refine zib (i := 2) (N := some 35) (v := ?_) (a' := ?_) #[true, true, true, false, false, false, false, false, false, false, false, false] rfl rfl (zVa HT_.out (by kernel_rfl)) (fun _ _ _ h => h) (Or.inl ⟨by rfl, ?_⟩) ?_ ?_
          rotate_left
          ·intro w'
           go_simp
           with_reducible rfl
          rotate_left
          ·simp only [Act.put, List.setIfInBounds_toArray, List.set_cons_zero, List.set_cons_succ, zva]
           rfl
          refine zib (i := 4) (N := some 37) (v := ?_) (a' := ?_) #[true, true, true, false, true, false, false, false, false, false, false, false] rfl rfl (zVa HT_.out (by kernel_rfl)) (fun _ _ _ h => h) (Or.inl ⟨by rfl, ?_⟩) ?_ ?_
          rotate_left
          ·intro w'
           go_simp
           with_reducible rfl
          rotate_left
          ·simp only [Act.put, List.setIfInBounds_toArray, List.set_cons_zero, List.set_cons_succ, zva]
           rfl
          refine zib (i := 7) (N := some 40) (v := ?_) (a' := ?_) #[true, true, true, false, true, false, false, true, false, false, false, false] rfl rfl (zVa HT_.out (by kernel_rfl)) (fun _ _ _ h => h) (Or.inl ⟨by rfl, ?_⟩) ?_ ?_
          rotate_left
          ·intro w'
           go_simp
           with_reducible rfl
          rotate_left
          ·simp only [Act.put, List.setIfInBounds_toArray, List.set_cons_zero, List.set_cons_succ, zva]
           rfl
          refine zib (i := 8) (N := some 41) (v := ?_) (a' := ?_) #[true, true, true, false, true, false, false, true, true, false, false, false] rfl rfl (zVa HT_.out (by kernel_rfl)) (fun _ _ _ h => h) (Or.inl ⟨by rfl, ?_⟩) ?_ ?_
          rotate_left
          ·intro w'
           go_simp
           with_reducible rfl
          rotate_left
          ·simp only [Act.put, List.setIfInBounds_toArray, List.set_cons_zero, List.set_cons_succ, zva]
           rfl
          refine zib (i := 9) (N := some 42) (v := ?_) (a' := ?_) #[true, true, true, false, true, false, false, true, true, true, false, false] rfl rfl (zVa HT_.out (by kernel_rfl)) (fun _ _ _ h => h) (Or.inl ⟨by rfl, ?_⟩) ?_ ?_
          rotate_left
          ·intro w'
           go_simp
           with_reducible rfl
          rotate_left
          ·simp only [Act.put, List.setIfInBounds_toArray, List.set_cons_zero, List.set_cons_succ, zva]
           rfl
          refine join_ (σ := Value × Value) 3 #[true, true, true, true, true, true, false, true, true, true, false, false] (fun s_ => [(36, s_.1), (38, s_.2)]) (fun s_ w' => (Kd.V Kd.string 9 w' w.heap.size (fun k_ => (P0_ k_ ∨ w.heap.size ≤ k_) ∧ some k_ ≠ (s_.1 : Value).ownBlock ∧ some k_ ≠ (s_.2 : Value).ownBlock) (.slice (some ad195) y198.length c0) y198) ∧ (Kd.R Kd.string 9 w' w.heap.size (fun k_ => (w.heap.size ≤ k_) ∧ some k_ ≠ (s_.2 : Value).ownBlock) s_.1 t203) ∧ (Kd.R Kd.string 9 w' w.heap.size (fun k_ => (w.heap.size ≤ k_) ∧ some k_ ≠ (s_.1 : Value).ownBlock) s_.2 y206) ∧ (Kd.V Kd.string 9 w' w.heap.size (fun k_ => (P0_ k_ ∨ w.heap.size ≤ k_) ∧ some k_ ≠ (s_.1 : Value).ownBlock ∧ some k_ ≠ (s_.2 : Value).ownBlock) (.slice A17 y212.length c17) y212) ∧ (Kd.V Kd.string 9 w' w.heap.size (fun k_ => (P0_ k_ ∨ w.heap.size ≤ k_) ∧ some k_ ≠ (s_.1 : Value).ownBlock ∧ some k_ ≠ (s_.2 : Value).ownBlock) (.slice (some ad195) l0.length c0) l0) ∧ (Below w.heap.size w w')) ?_ ?_
          rotate_left
          ·intro hCont
           refine two_ (i := 3) (j := 5) (Ni := some 36) (Nj := some 38) #[true, true, true, true, true, false, false, true, true, true, false, false] #[true, true, true, false, true, true, false, true, true, true, false, false] rfl rfl rfl rfl (two_of HT_.out (by kernel_rfl)) (by decide) (by decide) (fun K hK => ?_) (fun K hK => ?_)
           ·skip
            refine goes_ Tryz.func190 (by kernel_rfl) rfl #[.slice (some ad195) y198.length c0] (by rfl) rfl rfl (by (try simp only [List.map_toArray, List.map_cons, List.map_nil]); first | done | rfl | (simp only [List.length_drop, List.length_take]; rfl)) ?_
            with_reducible refine (spec_l2Own.calls _ _ y198 t203 _ ?side1 ?side2 A10.out).mono ?_
            (case side1 => repeat (first | exact (Kd.V_reads' HO202.out).2.2 | (with_reducible refine Kd.zga ?_ _) | (with_reducible refine Kd.zia ?_ _) | (with_reducible refine Kd.zAa ?_)))
            (case side2 => exact (Kd.V_reads' HO202.out).2.1)
            rintro e w18 ⟨v204, rfl, ho0, hb⟩
            refine ⟨_, rfl, ?_⟩
            have n0_ := zb.mk (Kd.V_elder' (by (with_reducible repeat (first | apply Kd.zQa | apply Kd.zPa | apply Kd.zab)); exact HO_0.out) (Kd.R_base ho0) hb)
            have n1_ := zb.mk (Kd.V_elder' (by (with_reducible repeat (first | apply Kd.zQa | apply Kd.zPa | apply Kd.zab)); exact HO202.out) (Kd.R_base ho0) hb)
            have n2_ := zb.mk (Kd.V_elder' (by (with_reducible repeat (first | apply Kd.zQa | apply Kd.zPa | apply Kd.zab)); exact HO216.out) (Kd.R_base ho0) hb)
            have n3_ := zb.mk (Kd.zua (Kd.R_newM (M := fun k_ => (w.heap.size ≤ k_)) ho0 (zt (by repeat (first | (with_reducible first | exact HB.out | apply zg | apply ze | apply zf) | exact HB.out))) (fun k_ h_ => h_)) (zt (by repeat (first | (with_reducible first | exact HB.out | apply zg | apply ze | apply zf) | exact HB.out))))
            have n4_ := zb.mk (zw (by repeat (first | (with_reducible first | exact HB.out | apply zg | apply ze | apply zf) | exact HB.out)) hb)
            clear HO_0
            clear HO202
            clear HO216
            clear HB
            have HO_0 := n0_
            have HO202 := n1_
            have HO216 := n2_
            have HO205 := n3_
            have HB := n4_
            clear n0_ n1_ n2_ n3_ n4_
            (try clear hb)
            (try clear hb2)
            (try clear hk)
            (try clear hi)
            (try clear ho0)
            refine hK.out _ _ trivial (fun hHeld => ?_)
            clear hK K
            refine norm_ (a' := ?_) ?_ ?_
            rotate_left
            ·show Act.put _ (some 36) _ = _
             simp only [Act.put, List.setIfInBounds_toArray, List.set_cons_zero, List.set_cons_succ, zva]
             rfl
            refine one_ (i := 5) (N := some 38) #[true, true, true, true, true, true, false, true, true, true, false, false] rfl rfl (one_of HT_.out (by kernel_rfl)) (by decide) (fun K hK => ?_)
            refine Kd.R_lit_step Kd.string _ 9 ?hg (N := 38) ?hd (xs := ([a1] : List ByteArray)) (inner := [.string a1]) (ok := fun _ => True) (okp := fun _ => True) ?hr ?hp (fun _ hk => hk) trivial (Below.refl _ _) (Nat.le_refl _) (by simp) ?_; (case hd => rfl); (case hg => rfl); (case hr => first | (go_simp; done) | (go_simp; rfl)); (case hp => exact (Reps.one (show Kd.M Kd.string _ _ _ a1 [.string a1] from rfl) (Reps.none _ _)))
            intro v207 w19 ho20 hb hg_ hnew_
            clear hg_ hnew_
            (first | rw [← Ny206.out] at ho20 | (simp only [Int.reduceToNat] at ho20; rw [← Ny206.out] at ho20))
            have n0_ := zb.mk (Kd.V_elder' (by (with_reducible repeat (first | apply Kd.zQa | apply Kd.zPa | apply Kd.zab)); exact HO_0.out) (Kd.R_base ho20) hb)
            have n1_ := zb.mk (Kd.V_elder' (by (with_reducible repeat (first | apply Kd.zQa | apply Kd.zPa | apply Kd.zab)); exact HO202.out) (Kd.R_base ho20) hb)
            have n2_ := zb.mk (Kd.V_elder' (by (with_reducible repeat (first | apply Kd.zQa | apply Kd.zPa | apply Kd.zab)); exact HO216.out) (Kd.R_base ho20) hb)
            have n3_ := zb.mk (Kd.R_elder' (by (with_reducible repeat (first | apply Kd.zo | apply Kd.zq | apply Kd.zA)); exact HO205.out) (Kd.R_base ho20) hb)
            have n4_ := zb.mk (Kd.zua (Kd.R_new' (Kd.R_newM (M := fun k_ => (w.heap.size ≤ k_)) ho20 (zt (by repeat (first | (with_reducible first | exact HB.out | apply zg | apply ze | apply zf) | exact HB.out))) (fun k_ h_ => h_)) (Kd.R_lt (by (with_reducible repeat (first | apply Kd.zo | apply Kd.zq | apply Kd.zA)); exact HO205.out))) (zt (by repeat (first | (with_reducible first | exact HB.out | apply zg | apply ze | apply zf) | exact HB.out))))
            have n5_ := zb.mk (zw (by repeat (first | (with_reducible first | exact HB.out | apply zg | apply ze | apply zf) | exact HB.out)) hb)
            clear HO_0
            clear HO202
            clear HO216
            clear HO205
            clear HB
            have HO_0 := n0_
            have HO202 := n1_
            have HO216 := n2_
            have HO205 := n3_
            have HO208 := n4_
            have HB := n5_
            clear n0_ n1_ n2_ n3_ n4_ n5_
            clear hb ho20
            refine hK.out _ _ trivial (fun hHeld => ?_)
            clear hK K
            refine norm_ (a' := ?_) ?_ ?_
            rotate_left
            ·show Act.put _ (some 38) _ = _
             simp only [Act.put, List.setIfInBounds_toArray, List.set_cons_zero, List.set_cons_succ, zva]
             rfl
            exact norm_ (by simp only [putAll, Act.put, List.setIfInBounds_toArray, List.set_cons_zero, List.set_cons_succ]) (hCont (v204, v207) _ ⟨(by (with_reducible repeat (first | apply Kd.zQa | apply Kd.zPa | apply Kd.zab)); exact Kd.V_mono HO202.out (fun _ hk => ⟨hk.1.1, ⟨hk.1.2, hk.2⟩⟩)), (by (with_reducible repeat (first | apply Kd.zo | apply Kd.zq | apply Kd.zA)); exact Kd.zZ HO205.out (fun _ hk => ⟨hk.1.1, hk.2⟩)), (by (with_reducible repeat (first | apply Kd.zo | apply Kd.zq | apply Kd.zA)); exact Kd.zZ HO208.out (fun _ hk => ⟨hk.1.1, hk.2⟩)), (by (with_reducible repeat (first | apply Kd.zQa | apply Kd.zPa | apply Kd.zab)); exact Kd.V_mono HO216.out (fun _ hk => ⟨hk.1.1, ⟨hk.1.2, hk.2⟩⟩)), (by (with_reducible repeat (first | apply Kd.zQa | apply Kd.zPa | apply Kd.zab)); exact Kd.V_mono HO_0.out (fun _ hk => ⟨hk.1.1, ⟨hk.1.2, hk.2⟩⟩)), (by repeat (first | (with_reducible first | exact HB.out | apply zg | apply ze | apply zf) | exact HB.out))⟩)
           ·skip
            refine Kd.R_lit_step Kd.string _ 9 ?hg (N := 38) ?hd (xs := ([a1] : List ByteArray)) (inner := [.string a1]) (ok := fun _ => True) (okp := fun _ => True) ?hr ?hp (fun _ hk => hk) trivial (Below.refl _ _) (Nat.le_refl _) (by simp) ?_; (case hd => rfl); (case hg => rfl); (case hr => first | (go_simp; done) | (go_simp; rfl)); (case hp => exact (Reps.one (show Kd.M Kd.string _ _ _ a1 [.string a1] from rfl) (Reps.none _ _)))
            intro v207 w18 ho19 hb hg_ hnew_
            clear hg_ hnew_
            (first | rw [← Ny206.out] at ho19 | (simp only [Int.reduceToNat] at ho19; rw [← Ny206.out] at ho19))
            have n0_ := zb.mk (Kd.V_elder' (by (with_reducible repeat (first | apply Kd.zQa | apply Kd.zPa | apply Kd.zab)); exact HO_0.out) (Kd.R_base ho19) hb)
            have n1_ := zb.mk (Kd.V_elder' (by (with_reducible repeat (first | apply Kd.zQa | apply Kd.zPa | apply Kd.zab)); exact HO202.out) (Kd.R_base ho19) hb)
            have n2_ := zb.mk (Kd.V_elder' (by (with_reducible repeat (first | apply Kd.zQa | apply Kd.zPa | apply Kd.zab)); exact HO216.out) (Kd.R_base ho19) hb)
            have n3_ := zb.mk (Kd.zua (Kd.R_newM (M := fun k_ => (w.heap.size ≤ k_)) ho19 (zt (by repeat (first | (with_reducible first | exact HB.out | apply zg | apply ze | apply zf) | exact HB.out))) (fun k_ h_ => h_)) (zt (by repeat (first | (with_reducible first | exact HB.out | apply zg | apply ze | apply zf) | exact HB.out))))
            have n4_ := zb.mk (zw (by repeat (first | (with_reducible first | exact HB.out | apply zg | apply ze | apply zf) | exact HB.out)) hb)
            clear HO_0
            clear HO202
            clear HO216
            clear HB
            have HO_0 := n0_
            have HO202 := n1_
            have HO216 := n2_
            have HO208 := n3_
            have HB := n4_
            clear n0_ n1_ n2_ n3_ n4_
            clear hb ho19
            refine hK.out _ _ trivial (fun hHeld => ?_)
            clear hK K
            refine norm_ (a' := ?_) ?_ ?_
            rotate_left
            ·show Act.put _ (some 38) _ = _
             simp only [Act.put, List.setIfInBounds_toArray, List.set_cons_zero, List.set_cons_succ, zva]
             rfl
            refine one_ (i := 3) (N := some 36) #[true, true, true, true, true, true, false, true, true, true, false, false] rfl rfl (one_of HT_.out (by kernel_rfl)) (by decide) (fun K hK => ?_)
            refine goes_ Tryz.func190 (by kernel_rfl) rfl #[.slice (some ad195) y198.length c0] (by rfl) rfl rfl (by (try simp only [List.map_toArray, List.map_cons, List.map_nil]); first | done | rfl | (simp only [List.length_drop, List.length_take]; rfl)) ?_
            with_reducible refine (spec_l2Own.calls _ _ y198 t203 _ ?side1 ?side2 A10.out).mono ?_
            (case side1 => repeat (first | exact (Kd.V_reads' HO202.out).2.2 | (with_reducible refine Kd.zga ?_ _) | (with_reducible refine Kd.zia ?_ _) | (with_reducible refine Kd.zAa ?_)))
            (case side2 => exact (Kd.V_reads' HO202.out).2.1)
            rintro e w20 ⟨v204, rfl, ho0, hb⟩
            refine ⟨_, rfl, ?_⟩
            have n0_ := zb.mk (Kd.V_elder' (by (with_reducible repeat (first | apply Kd.zQa | apply Kd.zPa | apply Kd.zab)); exact HO_0.out) (Kd.R_base ho0) hb)
            have n1_ := zb.mk (Kd.V_elder' (by (with_reducible repeat (first | apply Kd.zQa | apply Kd.zPa | apply Kd.zab)); exact HO202.out) (Kd.R_base ho0) hb)
            have n2_ := zb.mk (Kd.V_elder' (by (with_reducible repeat (first | apply Kd.zQa | apply Kd.zPa | apply Kd.zab)); exact HO216.out) (Kd.R_base ho0) hb)
            have n3_ := zb.mk (Kd.R_elder' (by (with_reducible repeat (first | apply Kd.zo | apply Kd.zq | apply Kd.zA)); exact HO208.out) (Kd.R_base ho0) hb)
            have n4_ := zb.mk (Kd.zua (Kd.R_new' (Kd.R_newM (M := fun k_ => (w.heap.size ≤ k_)) ho0 (zt (by repeat (first | (with_reducible first | exact HB.out | apply zg | apply ze | apply zf) | exact HB.out))) (fun k_ h_ => h_)) (Kd.R_lt (by (with_reducible repeat (first | apply Kd.zo | apply Kd.zq | apply Kd.zA)); exact HO208.out))) (zt (by repeat (first | (with_reducible first | exact HB.out | apply zg | apply ze | apply zf) | exact HB.out))))
            have n5_ := zb.mk (zw (by repeat (first | (with_reducible first | exact HB.out | apply zg | apply ze | apply zf) | exact HB.out)) hb)
            clear HO_0
            clear HO202
            clear HO216
            clear HO208
            clear HB
            have HO_0 := n0_
            have HO202 := n1_
            have HO216 := n2_
            have HO208 := n3_
            have HO205 := n4_
            have HB := n5_
            clear n0_ n1_ n2_ n3_ n4_ n5_
            (try clear hb)
            (try clear hb2)
            (try clear hk)
            (try clear hi)
            (try clear ho0)
            refine hK.out _ _ trivial (fun hHeld => ?_)
            clear hK K
            refine norm_ (a' := ?_) ?_ ?_
            rotate_left
            ·show Act.put _ (some 36) _ = _
             simp only [Act.put, List.setIfInBounds_toArray, List.set_cons_zero, List.set_cons_succ, zva]
             rfl
            exact norm_ (by simp only [putAll, Act.put, List.setIfInBounds_toArray, List.set_cons_zero, List.set_cons_succ]) (hCont (v204, v207) _ ⟨(by (with_reducible repeat (first | apply Kd.zQa | apply Kd.zPa | apply Kd.zab)); exact Kd.V_mono HO202.out (fun _ hk => ⟨hk.1.1, ⟨hk.2, hk.1.2⟩⟩)), (by (with_reducible repeat (first | apply Kd.zo | apply Kd.zq | apply Kd.zA)); exact Kd.zZ HO205.out (fun _ hk => ⟨hk.1.1, hk.2⟩)), (by (with_reducible repeat (first | apply Kd.zo | apply Kd.zq | apply Kd.zA)); exact Kd.zZ HO208.out (fun _ hk => ⟨hk.1.1, hk.2⟩)), (by (with_reducible repeat (first | apply Kd.zQa | apply Kd.zPa | apply Kd.zab)); exact Kd.V_mono HO216.out (fun _ hk => ⟨hk.1.1, ⟨hk.2, hk.1.2⟩⟩)), (by (with_reducible repeat (first | apply Kd.zQa | apply Kd.zPa | apply Kd.zab)); exact Kd.V_mono HO_0.out (fun _ hk => ⟨hk.1.1, ⟨hk.2, hk.1.2⟩⟩)), (by repeat (first | (with_reducible first | exact HB.out | apply zg | apply ze | apply zf) | exact HB.out))⟩)
          rintro ⟨v204, v207⟩ w21 ⟨h0_, h1_, h2_, h3_, h4_, h5_⟩
          have n0_ : zb (Kd.V Kd.string 9 w21 w.heap.size (fun k_ => (P0_ k_ ∨ w.heap.size ≤ k_) ∧ some k_ ≠ (v204 : Value).ownBlock ∧ some k_ ≠ (v207 : Value).ownBlock) (.slice (some ad195) y198.length c0) y198) := ⟨h0_⟩
          have n1_ : zb (Kd.R Kd.string 9 w21 w.heap.size (fun k_ => (w.heap.size ≤ k_) ∧ some k_ ≠ (v207 : Value).ownBlock) v204 t203) := ⟨h1_⟩
          have n2_ : zb (Kd.R Kd.string 9 w21 w.heap.size (fun k_ => (w.heap.size ≤ k_) ∧ some k_ ≠ (v204 : Value).ownBlock) v207 y206) := ⟨h2_⟩
          have n3_ : zb (Kd.V Kd.string 9 w21 w.heap.size (fun k_ => (P0_ k_ ∨ w.heap.size ≤ k_) ∧ some k_ ≠ (v204 : Value).ownBlock ∧ some k_ ≠ (v207 : Value).ownBlock) (.slice A17 y212.length c17) y212) := ⟨h3_⟩
          have n4_ : zb (Kd.V Kd.string 9 w21 w.heap.size (fun k_ => (P0_ k_ ∨ w.heap.size ≤ k_) ∧ some k_ ≠ (v204 : Value).ownBlock ∧ some k_ ≠ (v207 : Value).ownBlock) (.slice (some ad195) l0.length c0) l0) := ⟨h4_⟩
          have n5_ : zb (Below w.heap.size w w21) := ⟨h5_⟩
          clear HO_0
          clear HB
          clear h0_ h1_ h2_ h3_ h4_ h5_
          have HO202 := n0_
          have HO205 := n1_
          have HO208 := n2_
          have HO216 := n3_
          have HO_0 := n4_
          have HB := n5_
          clear n0_ n1_ n2_ n3_ n4_ n5_
          have hHeld := trivial
          obtain ⟨Ao23, co23, eo23⟩ := Kd.zpa HO208.out
          (first | subst eo23 | (injection eo23 with f1_ f2_ f3_; have f4_ := f1_.symm; have f5_ := f3_.symm; clear f1_ f2_ f3_; subst f4_; subst f5_))
          refine norm_ (a' := ?_) ?_ ?_
          rotate_left
          ·simp only [putAll, Act.put, List.setIfInBounds_toArray, List.set_cons_zero, List.set_cons_succ]
           rfl
          refine one_ (i := 6) (N := some 39) #[true, true, true, true, true, true, true, true, true, true, false, false] rfl rfl (one_of HT_.out (by kernel_rfl)) (by decide) (fun K hK => ?_)
          refine Kd.R_append_rows_step Kd.string (w0 := w) w.heap.size (by rfl) (.tmp 36) (.tmp 38) 31 9 (.string ⟨#[]⟩) 16 rfl Tryz.underlying31 info9 rfl (by decide) (by omega) v204 t203 y206 _ _ _ (fun k_ => (w.heap.size ≤ k_) ∧ some k_ ≠ (.slice Ao23 y206.length co23 : Value).ownBlock) (fun _ => False) rfl rfl ?aO ?aR (fun _ _ h => h) (fun _ h => h.elim) ?aF ?aB ?aS ?aL ?_
          (case aR => repeat (first | exact (Kd.zQ HO208.out).2.2 | (with_reducible refine Kd.zga ?_ _) | (with_reducible refine Kd.zia ?_ _) | (with_reducible refine Kd.zAa ?_)))
          (case aB => exact (by repeat (first | (with_reducible first | exact HB.out | apply zg | apply ze | apply zf) | exact HB.out)))
          (case aF => exact (fun k_ hk => ⟨(Nat.le_trans (zt (by repeat (first | (with_reducible first | exact HB.out | apply zg | apply ze | apply zf) | exact HB.out))) hk), Kd.fresh' (Kd.R_lt (by (with_reducible repeat (first | apply Kd.zo | apply Kd.zq | apply Kd.zA)); exact HO208.out)) k_ hk⟩))
          (case aO => exact (by (with_reducible repeat (first | apply Kd.zo | apply Kd.zq | apply Kd.zA)); exact HO205.out))
          (case aS => exact (zt (by repeat (first | (with_reducible first | exact HB.out | apply zg | apply ze | apply zf) | exact HB.out))))
          (case aL => have := LMc11.out; omega)
          intro v210 w22 ho hb hg hat
          rw [← Ny209.out] at ho
          have n0_ := zb.mk (Kd.V_afterv (ok := (fun k_ => (P0_ k_ ∨ w.heap.size ≤ k_) ∧ some k_ ≠ (.slice Ao23 y206.length co23 : Value).ownBlock)) (by (with_reducible repeat (first | apply Kd.zQa | apply Kd.zPa | apply Kd.zab)); exact Kd.V_mono HO_0.out (fun _ hk => ⟨⟨hk.1, hk.2.2⟩, hk.2.1⟩)) hg hat)
          have n1_ := zb.mk (Kd.V_afterv (ok := (fun k_ => (P0_ k_ ∨ w.heap.size ≤ k_) ∧ some k_ ≠ (.slice Ao23 y206.length co23 : Value).ownBlock)) (by (with_reducible repeat (first | apply Kd.zQa | apply Kd.zPa | apply Kd.zab)); exact Kd.V_mono HO202.out (fun _ hk => ⟨⟨hk.1, hk.2.2⟩, hk.2.1⟩)) hg hat)
          have n2_ := zb.mk (Kd.V_afterv (ok := (fun k_ => (P0_ k_ ∨ w.heap.size ≤ k_) ∧ some k_ ≠ (.slice Ao23 y206.length co23 : Value).ownBlock)) (by (with_reducible repeat (first | apply Kd.zQa | apply Kd.zPa | apply Kd.zab)); exact Kd.V_mono HO216.out (fun _ hk => ⟨⟨hk.1, hk.2.2⟩, hk.2.1⟩)) hg hat)
          have n3_ := zb.mk (Kd.R_after (ok := (fun k_ => (w.heap.size ≤ k_))) (by (with_reducible repeat (first | apply Kd.zo | apply Kd.zq | apply Kd.zA)); exact HO208.out) hg hat)
          have n4_ := zb.mk (hb)
          have n5_ := zb.mk (ho)
          clear HO_0
          clear HO202
          clear HO216
          clear HO208
          clear HB
          clear HO205
          have HO_0 := n0_
          have HO202 := n1_
          have HO216 := n2_
          have HO208 := n3_
          have HB := n4_
          have HO211 := n5_
          clear n0_ n1_ n2_ n3_ n4_ n5_
          clear ho hb hg hat
          refine hK.out _ _ trivial (fun hHeld => ?_)
          clear hK K
          refine norm_ (a' := ?_) ?_ ?_
          rotate_left
          ·show Act.put _ (some 39) _ = _
           simp only [Act.put, List.setIfInBounds_toArray, List.set_cons_zero, List.set_cons_succ, zva]
           rfl
          refine one_ (i := 10) (N := some 43) #[true, true, true, true, true, true, true, true, true, true, true, false] rfl rfl (one_of HT_.out (by kernel_rfl)) (by decide) (fun K hK => ?_)
          refine Kd.R_append_rows_step Kd.string (w0 := w) w.heap.size (by rfl) (.tmp 39) (.tmp 42) 31 9 (.string ⟨#[]⟩) 16 rfl Tryz.underlying31 info9 rfl (by decide) (by omega) v210 y209 y212 _ _ _ (fun k_ => (w.heap.size ≤ k_) ∧ some k_ ≠ (.slice Ao23 y206.length co23 : Value).ownBlock) (fun _ => False) rfl rfl ?aO ?aR (fun _ _ h => h) (fun _ h => h.elim) ?aF ?aB ?aS ?aL ?_
          (case aR => repeat (first | exact (Kd.V_reads' HO216.out).2.2 | (with_reducible refine Kd.zga ?_ _) | (with_reducible refine Kd.zia ?_ _) | (with_reducible refine Kd.zAa ?_)))
          (case aB => exact (by repeat (first | (with_reducible first | exact HB.out | apply zg | apply ze | apply zf) | exact HB.out)))
          (case aF => exact (fun k_ hk => ⟨(Nat.le_trans (zt (by repeat (first | (with_reducible first | exact HB.out | apply zg | apply ze | apply zf) | exact HB.out))) hk), Kd.fresh' (Kd.R_lt (by (with_reducible repeat (first | apply Kd.zo | apply Kd.zq | apply Kd.zA)); exact HO208.out)) k_ hk⟩))
          (case aO => exact (by (with_reducible repeat (first | apply Kd.zo | apply Kd.zq | apply Kd.zA)); exact HO211.out))
          (case aS => exact (zt (by repeat (first | (with_reducible first | exact HB.out | apply zg | apply ze | apply zf) | exact HB.out))))
          (case aL => have := LMc14.out; omega)
          intro v218 w24 ho hb hg hat
          rw [← Ny217.out] at ho
          have n0_ := zb.mk (Kd.V_afterv (ok := (fun k_ => (P0_ k_ ∨ w.heap.size ≤ k_) ∧ some k_ ≠ (.slice Ao23 y206.length co23 : Value).ownBlock)) (by (with_reducible repeat (first | apply Kd.zQa | apply Kd.zPa | apply Kd.zab)); exact HO_0.out) hg hat)
          have n1_ := zb.mk (Kd.V_afterv (ok := (fun k_ => (P0_ k_ ∨ w.heap.size ≤ k_) ∧ some k_ ≠ (.slice Ao23 y206.length co23 : Value).ownBlock)) (by (with_reducible repeat (first | apply Kd.zQa | apply Kd.zPa | apply Kd.zab)); exact HO202.out) hg hat)
          have n2_ := zb.mk (Kd.V_afterv (ok := (fun k_ => (P0_ k_ ∨ w.heap.size ≤ k_) ∧ some k_ ≠ (.slice Ao23 y206.length co23 : Value).ownBlock)) (by (with_reducible repeat (first | apply Kd.zQa | apply Kd.zPa | apply Kd.zab)); exact HO216.out) hg hat)
          have n3_ := zb.mk (Kd.R_after (ok := (fun k_ => (w.heap.size ≤ k_))) (by (with_reducible repeat (first | apply Kd.zo | apply Kd.zq | apply Kd.zA)); exact HO208.out) hg hat)
          have n4_ := zb.mk (hb)
          have n5_ := zb.mk (ho)
          clear HO_0
          clear HO202
          clear HO216
          clear HO208
          clear HB
          clear HO211
          have HO_0 := n0_
          have HO202 := n1_
          have HO216 := n2_
          have HO208 := n3_
          have HB := n4_
          have HO219 := n5_
          clear n0_ n1_ n2_ n3_ n4_ n5_
          clear ho hb hg hat
          refine hK.out _ _ trivial (fun hHeld => ?_)
          clear hK K
          refine norm_ (a' := ?_) ?_ ?_
          rotate_left
          ·show Act.put _ (some 43) _ = _
           simp only [Act.put, List.setIfInBounds_toArray, List.set_cons_zero, List.set_cons_succ, zva]
           rfl
          refine zib (i := 11) (N := some 4) (v := ?_) (a' := ?_) #[true, true, true, true, true, true, true, true, true, true, true, true] rfl rfl (zVa HT_.out (by kernel_rfl)) (fun _ _ _ h => h) (Or.inl ⟨by rfl, ?_⟩) ?_ ?_
          rotate_left
          ·intro w'
           go_simp
           with_reducible rfl
          rotate_left
          ·simp only [Act.put, List.setIfInBounds_toArray, List.set_cons_zero, List.set_cons_succ, zva]
           rfl
          refine done_ (done_of HT_.out (by kernel_rfl)) ?_
          try go_wp2
          go_ret
          exact ⟨_, by first | rfl | (simp [zC, zB] <;> rfl) | (simp [*, zC, zB] <;> rfl), Or.inr (by (with_reducible repeat (first | apply Kd.zo | apply Kd.zq | apply Kd.zA)); exact Kd.zZ HO219.out (fun _ _ => trivial)), by repeat (first | (with_reducible first | exact HB.out | apply zg | apply ze | apply zf) | exact HB.out)⟩
         ·rw [if_neg c14] at H
          exact absurd H (by simp)
        ·rw [if_neg c11] at H
         exact absurd H (by simp)
       ·rw [if_neg c9] at H
        exact absurd H (by simp)
    ·rw [if_neg c4] at H
     exact absurd H (by simp)
   ·rw [if_neg c3] at H
    have c3b0 : decide (x5_1 < (l0.length : Int)) = false := decide_eq_false c3
    clear c3
    by_cases c25 : 0 ≤ x5_1
    ·rw [if_pos c25] at H
     have c25b0 := eq_true c25
     have c25b1 : decide (0 ≤ x5_1) = true := decide_eq_true c25
     clear c25
     by_cases c26 : x5_1 ≤ (l0.length : Int)
     ·rw [if_pos c26] at H
      have c26b0 := eq_true c26
      have c26b1 : decide (x5_1 ≤ (l0.length : Int)) = true := decide_eq_true c26
      clear c26
      obtain ⟨y220, hy220⟩ : ∃ y_ : List ByteArray, y_ = (l0.take (x5_1 : Int).toNat) := ⟨_, rfl⟩
      replace H : ((spec_l2Own.f y220).bind fun t225 => ((some (([a1] : List ByteArray) : List ByteArray)).bind fun y228 => (if t225.length + y228.length < 8796093022208 then ((some (t225 ++ y228 : List ByteArray)).bind fun y231 => ((some (l0.drop (x5_1 : Int).toNat : List ByteArray)).bind fun y234 => (if y231.length + y234.length < 8796093022208 then (some (y231 ++ y234)) else (none)))) else (none)))) = some r := by first | (rw [hy220]; with_reducible exact H) | (have H2_ := (Option.bind_some _ _).symm.trans H; rw [hy220]; with_reducible exact H2_) | (have H2_ := (Option.bind_some _ _).symm.trans H; with_reducible exact H2_) | with_reducible exact H | (rw [hy220]; exact H) | exact H
      have Ny220 := zb.mk hy220
      clear hy220
      replace H := Option.bind_eq_some_iff.mp H
      obtain ⟨t225, A270, H⟩ := H
      replace H : ((some (([a1] : List ByteArray) : List ByteArray)).bind fun y228 => (if t225.length + y228.length < 8796093022208 then ((some (t225 ++ y228 : List ByteArray)).bind fun y231 => ((some (l0.drop (x5_1 : Int).toNat : List ByteArray)).bind fun y234 => (if y231.length + y234.length < 8796093022208 then (some (y231 ++ y234)) else (none)))) else (none))) = some r := H
      have A27 := zb.mk A270
      clear A270
      obtain ⟨y228, hy228⟩ : ∃ y_ : List ByteArray, y_ = (([a1] : List ByteArray)) := ⟨_, rfl⟩
      replace H : (if t225.length + y228.length < 8796093022208 then ((some (t225 ++ y228 : List ByteArray)).bind fun y231 => ((some (l0.drop (x5_1 : Int).toNat : List ByteArray)).bind fun y234 => (if y231.length + y234.length < 8796093022208 then (some (y231 ++ y234)) else (none)))) else (none)) = some r := by first | (rw [hy228]; with_reducible exact H) | (have H2_ := (Option.bind_some _ _).symm.trans H; rw [hy228]; with_reducible exact H2_) | (have H2_ := (Option.bind_some _ _).symm.trans H; with_reducible exact H2_) | with_reducible exact H | (rw [hy228]; exact H) | exact H
      have Ny228 := zb.mk hy228
      clear hy228
      by_cases c28 : t225.length + y228.length < 8796093022208
      ·rw [if_pos c28] at H
       have LMc28 := zb.mk c28
       clear c28
       obtain ⟨y231, hy231⟩ : ∃ y_ : List ByteArray, y_ = (t225 ++ y228) := ⟨_, rfl⟩
       replace H : ((some (l0.drop (x5_1 : Int).toNat : List ByteArray)).bind fun y234 => (if y231.length + y234.length < 8796093022208 then (some (y231 ++ y234)) else (none))) = some r := by first | (rw [hy231]; with_reducible exact H) | (have H2_ := (Option.bind_some _ _).symm.trans H; rw [hy231]; with_reducible exact H2_) | (have H2_ := (Option.bind_some _ _).symm.trans H; with_reducible exact H2_) | with_reducible exact H | (rw [hy231]; exact H) | exact H
       have Ny231 := zb.mk hy231
       clear hy231
       have c29b0 := eq_true (of_decide_eq_true (by first | (with_reducible assumption) | assumption) : 0 ≤ x5_1)
       have c30b0 := eq_true (of_decide_eq_true (by first | (with_reducible assumption) | assumption) : x5_1 ≤ (l0.length : Int))
       obtain ⟨y234, hy234⟩ : ∃ y_ : List ByteArray, y_ = (l0.drop (x5_1 : Int).toNat) := ⟨_, rfl⟩
       replace H : (if y231.length + y234.length < 8796093022208 then (some (y231 ++ y234)) else (none)) = some r := by first | (rw [hy234]; with_reducible exact H) | (have H2_ := (Option.bind_some _ _).symm.trans H; rw [hy234]; with_reducible exact H2_) | (have H2_ := (Option.bind_some _ _).symm.trans H; with_reducible exact H2_) | with_reducible exact H | (rw [hy234]; exact H) | exact H
       have Ny234 := zb.mk hy234
       clear hy234
       by_cases c31 : y231.length + y234.length < 8796093022208
       ·rw [if_pos c31] at H
        have LMc31 := zb.mk c31
        clear c31
        obtain ⟨y239, hy239⟩ : ∃ y_ : List ByteArray, y_ = (y231 ++ y234) := ⟨_, rfl⟩
        replace H : (some y239) = some r := by first | (rw [hy239]; with_reducible exact H) | (have H2_ := (Option.bind_some _ _).symm.trans H; rw [hy239]; with_reducible exact H2_) | (have H2_ := (Option.bind_some _ _).symm.trans H; with_reducible exact H2_) | with_reducible exact H | (rw [hy239]; exact H) | exact H
        have Ny239 := zb.mk hy239
        clear hy239
        obtain rfl := Option.some.inj H
        try go_wp2
        have n0_ := zb.mk (Kd.zab HO_0.out)
        have n1_ := zb.mk (zf HB.out)
        clear HO_0
        clear HB
        have HO_0 := n0_
        have HB := n1_
        clear n0_ n1_
        have q33 : (x5_1 : Int) ≤ ((l0.length : Int) : Int) := of_decide_eq_true (by first | (with_reducible assumption) | assumption)
        obtain ⟨i033, hi033, _, hsz33, _⟩ := info_parts info9
        have hroom33 : l0.length ≤ c0 := (Kd.V_reads' HO_0.out).2.1
        have hC33 : Kd.F Kd.string _ _ A0 l0.length l0 := (Kd.V_at (base := w.heap.size) HO_0.out).2.2
        have hcut33 := cut_to (P := Tryz.prog) 31 9 .i64 Tryz.underlying31 hi033 A0 l0.length c0 x5_1 (of_decide_eq_true (by first | (with_reducible assumption) | assumption)) q33 hroom33
        have hr33 := Kd.F_take (m := (x5_1 : Int).toNat) hC33 (by omega)
        have hy33 : y220.length = (x5_1 : Int).toNat := (by rw [Ny220.out, List.length_take]; omega)
        rw [← Ny220.out] at hr33
        rw [← hy33] at hcut33
        have HO224 := zb.mk (show Kd.V Kd.string 9 _ w.heap.size _ (.slice A0 y220.length c0) y220 from Kd.V_mk (by omega) hr33)
        have HC224 := zb.mk (show y220.length ≤ c0 from by omega)
        clear hr33 hC33 hroom33 hi033 hsz33
        have KY33 := zb.mk hy33
        clear hy33
        replace q33 := eq_true q33
        have q34 : (x5_1 : Int) ≤ ((l0.length : Int) : Int) := of_decide_eq_true (by first | (with_reducible assumption) | assumption)
        obtain ⟨i034, hi034, _, hsz34, _⟩ := info_parts info9
        have hroom34 : l0.length ≤ c0 := (Kd.V_reads' HO_0.out).2.1
        have hC34 : Kd.F Kd.string _ _ A0 l0.length l0 := (Kd.V_at (base := w.heap.size) HO_0.out).2.2
        have q034 : (0 : Int) ≤ (x5_1 : Int) := of_decide_eq_true (by first | (with_reducible assumption) | assumption)
        have hcut34 := cut_from (P := Tryz.prog) 31 9 .i64 Tryz.underlying31 hi034 1 hsz34 A0 l0.length c0 x5_1 q034 q34
        have hr34 := Kd.F_cut (m := (x5_1 : Int).toNat) (c := c0) hC34 (by omega) hroom34
        obtain ⟨A34, hA34⟩ : ∃ A1, A1 = (if c0 = (x5_1 : Int).toNat then A0 else (A0 : Option Addr).map (·.add ((x5_1 : Int).toNat * 1))) := ⟨_, rfl⟩
        obtain ⟨c34, hc34⟩ : ∃ c1, c1 = c0 - (x5_1 : Int).toNat := ⟨_, rfl⟩
        have hy34 : y234.length = l0.length - (x5_1 : Int).toNat := (by rw [Ny234.out, List.length_drop] <;> omega)
        rw [show (l0).drop (x5_1 : Int).toNat = y234 from Ny234.out.symm] at hr34
        replace hr34 : Kd.F Kd.string _ _ A34 y234.length y234 := (by rw [hA34]; exact hr34)
        rw [← hy34, ← hA34, ← hc34] at hcut34
        have HO238 := zb.mk (show Kd.V Kd.string 9 _ w.heap.size _ (.slice A34 y234.length c34) y234 from Kd.V_mk (by rw [hy34, hc34]; exact Nat.sub_le_sub_right hroom34 _) hr34)
        have HC238 := zb.mk (show y234.length ≤ c34 from by rw [hy34, hc34]; exact Nat.sub_le_sub_right hroom34 _)
        clear hr34 hC34 hroom34 hi034 hsz34 hc34
        have KY34 := zb.mk hy34
        have KA34 := zb.mk hA34
        clear hy34 hA34
        replace q34 := eq_true q34
        refine start_ (n := 12) (S := fun w' => True) (ds := []) #[false, false, false, false, false, false, false, false, false, false, false, false] (by kernel_rfl) rfl rfl trivial (fun hHeld => ?_); refine with_tabW zLa.tab6 zLa.bits6 (fun HT_ HW_ => ?_)
        generalize wr.drew = w32 at HO_0 HB HO224 HO238 hHeld ⊢
        refine zib (i := 0) (N := some 33) (v := ?_) (a' := ?_) #[true, false, false, false, false, false, false, false, false, false, false, false] rfl rfl (zVa HT_.out (by kernel_rfl)) (fun _ _ _ h => h) (Or.inl ⟨by rfl, ?_⟩) ?_ ?_
        rotate_left
        ·intro w'
         go_simp
         with_reducible rfl
        rotate_left
        ·simp only [Act.put, List.setIfInBounds_toArray, List.set_cons_zero, List.set_cons_succ, zva]
         rfl
        refine zib (i := 1) (N := some 34) (v := ?_) (a' := ?_) #[true, true, false, false, false, false, false, false, false, false, false, false] rfl rfl (zVa HT_.out (by kernel_rfl)) (fun _ _ _ h => h) (Or.inl ⟨by rfl, ?_⟩) ?_ ?_
        rotate_left
        ·intro w'
         go_simp
         with_reducible rfl
        rotate_left
        ·simp only [Act.put, List.setIfInBounds_toArray, List.set_cons_zero, List.set_cons_succ, zva]
         rfl
        refine zib (i := 2) (N := some 35) (v := ?_) (a' := ?_) #[true, true, true, false, false, false, false, false, false, false, false, false] rfl rfl (zVa HT_.out (by kernel_rfl)) (fun _ _ _ h => h) (Or.inl ⟨by rfl, ?_⟩) ?_ ?_
        rotate_left
        ·intro w'
         go_simp
         with_reducible rfl
        rotate_left
        ·simp only [Act.put, List.setIfInBounds_toArray, List.set_cons_zero, List.set_cons_succ, zva]
         rfl
        refine zib (i := 4) (N := some 37) (v := ?_) (a' := ?_) #[true, true, true, false, true, false, false, false, false, false, false, false] rfl rfl (zVa HT_.out (by kernel_rfl)) (fun _ _ _ h => h) (Or.inl ⟨by rfl, ?_⟩) ?_ ?_
        rotate_left
        ·intro w'
         go_simp
         with_reducible rfl
        rotate_left
        ·simp only [Act.put, List.setIfInBounds_toArray, List.set_cons_zero, List.set_cons_succ, zva]
         rfl
        refine zib (i := 7) (N := some 40) (v := ?_) (a' := ?_) #[true, true, true, false, true, false, false, true, false, false, false, false] rfl rfl (zVa HT_.out (by kernel_rfl)) (fun _ _ _ h => h) (Or.inl ⟨by rfl, ?_⟩) ?_ ?_
        rotate_left
        ·intro w'
         go_simp
         with_reducible rfl
        rotate_left
        ·simp only [Act.put, List.setIfInBounds_toArray, List.set_cons_zero, List.set_cons_succ, zva]
         rfl
        refine zib (i := 8) (N := some 41) (v := ?_) (a' := ?_) #[true, true, true, false, true, false, false, true, true, false, false, false] rfl rfl (zVa HT_.out (by kernel_rfl)) (fun _ _ _ h => h) (Or.inl ⟨by rfl, ?_⟩) ?_ ?_
        rotate_left
        ·intro w'
         go_simp
         with_reducible rfl
        rotate_left
        ·simp only [Act.put, List.setIfInBounds_toArray, List.set_cons_zero, List.set_cons_succ, zva]
         rfl
        refine zib (i := 9) (N := some 42) (v := ?_) (a' := ?_) #[true, true, true, false, true, false, false, true, true, true, false, false] rfl rfl (zVa HT_.out (by kernel_rfl)) (fun _ _ _ h => h) (Or.inl ⟨by rfl, ?_⟩) ?_ ?_
        rotate_left
        ·intro w'
         go_simp
         with_reducible rfl
        rotate_left
        ·simp only [Act.put, List.setIfInBounds_toArray, List.set_cons_zero, List.set_cons_succ, zva]
         rfl
        refine join_ (σ := Value × Value) 3 #[true, true, true, true, true, true, false, true, true, true, false, false] (fun s_ => [(36, s_.1), (38, s_.2)]) (fun s_ w' => (Kd.V Kd.string 9 w' w.heap.size (fun k_ => (P0_ k_ ∨ w.heap.size ≤ k_) ∧ some k_ ≠ (s_.1 : Value).ownBlock ∧ some k_ ≠ (s_.2 : Value).ownBlock) (.slice A0 y220.length c0) y220) ∧ (Kd.R Kd.string 9 w' w.heap.size (fun k_ => (w.heap.size ≤ k_) ∧ some k_ ≠ (s_.2 : Value).ownBlock) s_.1 t225) ∧ (Kd.R Kd.string 9 w' w.heap.size (fun k_ => (w.heap.size ≤ k_) ∧ some k_ ≠ (s_.1 : Value).ownBlock) s_.2 y228) ∧ (Kd.V Kd.string 9 w' w.heap.size (fun k_ => (P0_ k_ ∨ w.heap.size ≤ k_) ∧ some k_ ≠ (s_.1 : Value).ownBlock ∧ some k_ ≠ (s_.2 : Value).ownBlock) (.slice A34 y234.length c34) y234) ∧ (Kd.V Kd.string 9 w' w.heap.size (fun k_ => (P0_ k_ ∨ w.heap.size ≤ k_) ∧ some k_ ≠ (s_.1 : Value).ownBlock ∧ some k_ ≠ (s_.2 : Value).ownBlock) (.slice A0 l0.length c0) l0) ∧ (Below w.heap.size w w')) ?_ ?_
        rotate_left
        ·intro hCont
         refine two_ (i := 3) (j := 5) (Ni := some 36) (Nj := some 38) #[true, true, true, true, true, false, false, true, true, true, false, false] #[true, true, true, false, true, true, false, true, true, true, false, false] rfl rfl rfl rfl (two_of HT_.out (by kernel_rfl)) (by decide) (by decide) (fun K hK => ?_) (fun K hK => ?_)
         ·skip
          refine goes_ Tryz.func190 (by kernel_rfl) rfl #[.slice A0 y220.length c0] (by rfl) rfl rfl (by (try simp only [List.map_toArray, List.map_cons, List.map_nil]); first | done | rfl | (simp only [List.length_drop, List.length_take]; rfl)) ?_
          with_reducible refine (spec_l2Own.calls _ _ y220 t225 _ ?side1 ?side2 A27.out).mono ?_
          (case side1 => repeat (first | exact (Kd.V_reads' HO224.out).2.2 | (with_reducible refine Kd.zga ?_ _) | (with_reducible refine Kd.zia ?_ _) | (with_reducible refine Kd.zAa ?_)))
          (case side2 => exact (Kd.V_reads' HO224.out).2.1)
          rintro e w35 ⟨v226, rfl, ho0, hb⟩
          refine ⟨_, rfl, ?_⟩
          have n0_ := zb.mk (Kd.V_elder' (by (with_reducible repeat (first | apply Kd.zQa | apply Kd.zPa | apply Kd.zab)); exact HO_0.out) (Kd.R_base ho0) hb)
          have n1_ := zb.mk (Kd.V_elder' (by (with_reducible repeat (first | apply Kd.zQa | apply Kd.zPa | apply Kd.zab)); exact HO224.out) (Kd.R_base ho0) hb)
          have n2_ := zb.mk (Kd.V_elder' (by (with_reducible repeat (first | apply Kd.zQa | apply Kd.zPa | apply Kd.zab)); exact HO238.out) (Kd.R_base ho0) hb)
          have n3_ := zb.mk (Kd.zua (Kd.R_newM (M := fun k_ => (w.heap.size ≤ k_)) ho0 (zt (by repeat (first | (with_reducible first | exact HB.out | apply zg | apply ze | apply zf) | exact HB.out))) (fun k_ h_ => h_)) (zt (by repeat (first | (with_reducible first | exact HB.out | apply zg | apply ze | apply zf) | exact HB.out))))
          have n4_ := zb.mk (zw (by repeat (first | (with_reducible first | exact HB.out | apply zg | apply ze | apply zf) | exact HB.out)) hb)
          clear HO_0
          clear HO224
          clear HO238
          clear HB
          have HO_0 := n0_
          have HO224 := n1_
          have HO238 := n2_
          have HO227 := n3_
          have HB := n4_
          clear n0_ n1_ n2_ n3_ n4_
          (try clear hb)
          (try clear hb2)
          (try clear hk)
          (try clear hi)
          (try clear ho0)
          refine hK.out _ _ trivial (fun hHeld => ?_)
          clear hK K
          refine norm_ (a' := ?_) ?_ ?_
          rotate_left
          ·show Act.put _ (some 36) _ = _
           simp only [Act.put, List.setIfInBounds_toArray, List.set_cons_zero, List.set_cons_succ, zva]
           rfl
          refine one_ (i := 5) (N := some 38) #[true, true, true, true, true, true, false, true, true, true, false, false] rfl rfl (one_of HT_.out (by kernel_rfl)) (by decide) (fun K hK => ?_)
          refine Kd.R_lit_step Kd.string _ 9 ?hg (N := 38) ?hd (xs := ([a1] : List ByteArray)) (inner := [.string a1]) (ok := fun _ => True) (okp := fun _ => True) ?hr ?hp (fun _ hk => hk) trivial (Below.refl _ _) (Nat.le_refl _) (by simp) ?_; (case hd => rfl); (case hg => rfl); (case hr => first | (go_simp; done) | (go_simp; rfl)); (case hp => exact (Reps.one (show Kd.M Kd.string _ _ _ a1 [.string a1] from rfl) (Reps.none _ _)))
          intro v229 w36 ho37 hb hg_ hnew_
          clear hg_ hnew_
          (first | rw [← Ny228.out] at ho37 | (simp only [Int.reduceToNat] at ho37; rw [← Ny228.out] at ho37))
          have n0_ := zb.mk (Kd.V_elder' (by (with_reducible repeat (first | apply Kd.zQa | apply Kd.zPa | apply Kd.zab)); exact HO_0.out) (Kd.R_base ho37) hb)
          have n1_ := zb.mk (Kd.V_elder' (by (with_reducible repeat (first | apply Kd.zQa | apply Kd.zPa | apply Kd.zab)); exact HO224.out) (Kd.R_base ho37) hb)
          have n2_ := zb.mk (Kd.V_elder' (by (with_reducible repeat (first | apply Kd.zQa | apply Kd.zPa | apply Kd.zab)); exact HO238.out) (Kd.R_base ho37) hb)
          have n3_ := zb.mk (Kd.R_elder' (by (with_reducible repeat (first | apply Kd.zo | apply Kd.zq | apply Kd.zA)); exact HO227.out) (Kd.R_base ho37) hb)
          have n4_ := zb.mk (Kd.zua (Kd.R_new' (Kd.R_newM (M := fun k_ => (w.heap.size ≤ k_)) ho37 (zt (by repeat (first | (with_reducible first | exact HB.out | apply zg | apply ze | apply zf) | exact HB.out))) (fun k_ h_ => h_)) (Kd.R_lt (by (with_reducible repeat (first | apply Kd.zo | apply Kd.zq | apply Kd.zA)); exact HO227.out))) (zt (by repeat (first | (with_reducible first | exact HB.out | apply zg | apply ze | apply zf) | exact HB.out))))
          have n5_ := zb.mk (zw (by repeat (first | (with_reducible first | exact HB.out | apply zg | apply ze | apply zf) | exact HB.out)) hb)
          clear HO_0
          clear HO224
          clear HO238
          clear HO227
          clear HB
          have HO_0 := n0_
          have HO224 := n1_
          have HO238 := n2_
          have HO227 := n3_
          have HO230 := n4_
          have HB := n5_
          clear n0_ n1_ n2_ n3_ n4_ n5_
          clear hb ho37
          refine hK.out _ _ trivial (fun hHeld => ?_)
          clear hK K
          refine norm_ (a' := ?_) ?_ ?_
          rotate_left
          ·show Act.put _ (some 38) _ = _
           simp only [Act.put, List.setIfInBounds_toArray, List.set_cons_zero, List.set_cons_succ, zva]
           rfl
          exact norm_ (by simp only [putAll, Act.put, List.setIfInBounds_toArray, List.set_cons_zero, List.set_cons_succ]) (hCont (v226, v229) _ ⟨(by (with_reducible repeat (first | apply Kd.zQa | apply Kd.zPa | apply Kd.zab)); exact Kd.V_mono HO224.out (fun _ hk => ⟨hk.1.1, ⟨hk.1.2, hk.2⟩⟩)), (by (with_reducible repeat (first | apply Kd.zo | apply Kd.zq | apply Kd.zA)); exact Kd.zZ HO227.out (fun _ hk => ⟨hk.1.1, hk.2⟩)), (by (with_reducible repeat (first | apply Kd.zo | apply Kd.zq | apply Kd.zA)); exact Kd.zZ HO230.out (fun _ hk => ⟨hk.1.1, hk.2⟩)), (by (with_reducible repeat (first | apply Kd.zQa | apply Kd.zPa | apply Kd.zab)); exact Kd.V_mono HO238.out (fun _ hk => ⟨hk.1.1, ⟨hk.1.2, hk.2⟩⟩)), (by (with_reducible repeat (first | apply Kd.zQa | apply Kd.zPa | apply Kd.zab)); exact Kd.V_mono HO_0.out (fun _ hk => ⟨hk.1.1, ⟨hk.1.2, hk.2⟩⟩)), (by repeat (first | (with_reducible first | exact HB.out | apply zg | apply ze | apply zf) | exact HB.out))⟩)
         ·skip
          refine Kd.R_lit_step Kd.string _ 9 ?hg (N := 38) ?hd (xs := ([a1] : List ByteArray)) (inner := [.string a1]) (ok := fun _ => True) (okp := fun _ => True) ?hr ?hp (fun _ hk => hk) trivial (Below.refl _ _) (Nat.le_refl _) (by simp) ?_; (case hd => rfl); (case hg => rfl); (case hr => first | (go_simp; done) | (go_simp; rfl)); (case hp => exact (Reps.one (show Kd.M Kd.string _ _ _ a1 [.string a1] from rfl) (Reps.none _ _)))
          intro v229 w35 ho36 hb hg_ hnew_
          clear hg_ hnew_
          (first | rw [← Ny228.out] at ho36 | (simp only [Int.reduceToNat] at ho36; rw [← Ny228.out] at ho36))
          have n0_ := zb.mk (Kd.V_elder' (by (with_reducible repeat (first | apply Kd.zQa | apply Kd.zPa | apply Kd.zab)); exact HO_0.out) (Kd.R_base ho36) hb)
          have n1_ := zb.mk (Kd.V_elder' (by (with_reducible repeat (first | apply Kd.zQa | apply Kd.zPa | apply Kd.zab)); exact HO224.out) (Kd.R_base ho36) hb)
          have n2_ := zb.mk (Kd.V_elder' (by (with_reducible repeat (first | apply Kd.zQa | apply Kd.zPa | apply Kd.zab)); exact HO238.out) (Kd.R_base ho36) hb)
          have n3_ := zb.mk (Kd.zua (Kd.R_newM (M := fun k_ => (w.heap.size ≤ k_)) ho36 (zt (by repeat (first | (with_reducible first | exact HB.out | apply zg | apply ze | apply zf) | exact HB.out))) (fun k_ h_ => h_)) (zt (by repeat (first | (with_reducible first | exact HB.out | apply zg | apply ze | apply zf) | exact HB.out))))
          have n4_ := zb.mk (zw (by repeat (first | (with_reducible first | exact HB.out | apply zg | apply ze | apply zf) | exact HB.out)) hb)
          clear HO_0
          clear HO224
          clear HO238
          clear HB
          have HO_0 := n0_
          have HO224 := n1_
          have HO238 := n2_
          have HO230 := n3_
          have HB := n4_
          clear n0_ n1_ n2_ n3_ n4_
          clear hb ho36
          refine hK.out _ _ trivial (fun hHeld => ?_)
          clear hK K
          refine norm_ (a' := ?_) ?_ ?_
          rotate_left
          ·show Act.put _ (some 38) _ = _
           simp only [Act.put, List.setIfInBounds_toArray, List.set_cons_zero, List.set_cons_succ, zva]
           rfl
          refine one_ (i := 3) (N := some 36) #[true, true, true, true, true, true, false, true, true, true, false, false] rfl rfl (one_of HT_.out (by kernel_rfl)) (by decide) (fun K hK => ?_)
          refine goes_ Tryz.func190 (by kernel_rfl) rfl #[.slice A0 y220.length c0] (by rfl) rfl rfl (by (try simp only [List.map_toArray, List.map_cons, List.map_nil]); first | done | rfl | (simp only [List.length_drop, List.length_take]; rfl)) ?_
          with_reducible refine (spec_l2Own.calls _ _ y220 t225 _ ?side1 ?side2 A27.out).mono ?_
          (case side1 => repeat (first | exact (Kd.V_reads' HO224.out).2.2 | (with_reducible refine Kd.zga ?_ _) | (with_reducible refine Kd.zia ?_ _) | (with_reducible refine Kd.zAa ?_)))
          (case side2 => exact (Kd.V_reads' HO224.out).2.1)
          rintro e w37 ⟨v226, rfl, ho0, hb⟩
          refine ⟨_, rfl, ?_⟩
          have n0_ := zb.mk (Kd.V_elder' (by (with_reducible repeat (first | apply Kd.zQa | apply Kd.zPa | apply Kd.zab)); exact HO_0.out) (Kd.R_base ho0) hb)
          have n1_ := zb.mk (Kd.V_elder' (by (with_reducible repeat (first | apply Kd.zQa | apply Kd.zPa | apply Kd.zab)); exact HO224.out) (Kd.R_base ho0) hb)
          have n2_ := zb.mk (Kd.V_elder' (by (with_reducible repeat (first | apply Kd.zQa | apply Kd.zPa | apply Kd.zab)); exact HO238.out) (Kd.R_base ho0) hb)
          have n3_ := zb.mk (Kd.R_elder' (by (with_reducible repeat (first | apply Kd.zo | apply Kd.zq | apply Kd.zA)); exact HO230.out) (Kd.R_base ho0) hb)
          have n4_ := zb.mk (Kd.zua (Kd.R_new' (Kd.R_newM (M := fun k_ => (w.heap.size ≤ k_)) ho0 (zt (by repeat (first | (with_reducible first | exact HB.out | apply zg | apply ze | apply zf) | exact HB.out))) (fun k_ h_ => h_)) (Kd.R_lt (by (with_reducible repeat (first | apply Kd.zo | apply Kd.zq | apply Kd.zA)); exact HO230.out))) (zt (by repeat (first | (with_reducible first | exact HB.out | apply zg | apply ze | apply zf) | exact HB.out))))
          have n5_ := zb.mk (zw (by repeat (first | (with_reducible first | exact HB.out | apply zg | apply ze | apply zf) | exact HB.out)) hb)
          clear HO_0
          clear HO224
          clear HO238
          clear HO230
          clear HB
          have HO_0 := n0_
          have HO224 := n1_
          have HO238 := n2_
          have HO230 := n3_
          have HO227 := n4_
          have HB := n5_
          clear n0_ n1_ n2_ n3_ n4_ n5_
          (try clear hb)
          (try clear hb2)
          (try clear hk)
          (try clear hi)
          (try clear ho0)
          refine hK.out _ _ trivial (fun hHeld => ?_)
          clear hK K
          refine norm_ (a' := ?_) ?_ ?_
          rotate_left
          ·show Act.put _ (some 36) _ = _
           simp only [Act.put, List.setIfInBounds_toArray, List.set_cons_zero, List.set_cons_succ, zva]
           rfl
          exact norm_ (by simp only [putAll, Act.put, List.setIfInBounds_toArray, List.set_cons_zero, List.set_cons_succ]) (hCont (v226, v229) _ ⟨(by (with_reducible repeat (first | apply Kd.zQa | apply Kd.zPa | apply Kd.zab)); exact Kd.V_mono HO224.out (fun _ hk => ⟨hk.1.1, ⟨hk.2, hk.1.2⟩⟩)), (by (with_reducible repeat (first | apply Kd.zo | apply Kd.zq | apply Kd.zA)); exact Kd.zZ HO227.out (fun _ hk => ⟨hk.1.1, hk.2⟩)), (by (with_reducible repeat (first | apply Kd.zo | apply Kd.zq | apply Kd.zA)); exact Kd.zZ HO230.out (fun _ hk => ⟨hk.1.1, hk.2⟩)), (by (with_reducible repeat (first | apply Kd.zQa | apply Kd.zPa | apply Kd.zab)); exact Kd.V_mono HO238.out (fun _ hk => ⟨hk.1.1, ⟨hk.2, hk.1.2⟩⟩)), (by (with_reducible repeat (first | apply Kd.zQa | apply Kd.zPa | apply Kd.zab)); exact Kd.V_mono HO_0.out (fun _ hk => ⟨hk.1.1, ⟨hk.2, hk.1.2⟩⟩)), (by repeat (first | (with_reducible first | exact HB.out | apply zg | apply ze | apply zf) | exact HB.out))⟩)
        rintro ⟨v226, v229⟩ w38 ⟨h0_, h1_, h2_, h3_, h4_, h5_⟩
        have n0_ : zb (Kd.V Kd.string 9 w38 w.heap.size (fun k_ => (P0_ k_ ∨ w.heap.size ≤ k_) ∧ some k_ ≠ (v226 : Value).ownBlock ∧ some k_ ≠ (v229 : Value).ownBlock) (.slice A0 y220.length c0) y220) := ⟨h0_⟩
        have n1_ : zb (Kd.R Kd.string 9 w38 w.heap.size (fun k_ => (w.heap.size ≤ k_) ∧ some k_ ≠ (v229 : Value).ownBlock) v226 t225) := ⟨h1_⟩
        have n2_ : zb (Kd.R Kd.string 9 w38 w.heap.size (fun k_ => (w.heap.size ≤ k_) ∧ some k_ ≠ (v226 : Value).ownBlock) v229 y228) := ⟨h2_⟩
        have n3_ : zb (Kd.V Kd.string 9 w38 w.heap.size (fun k_ => (P0_ k_ ∨ w.heap.size ≤ k_) ∧ some k_ ≠ (v226 : Value).ownBlock ∧ some k_ ≠ (v229 : Value).ownBlock) (.slice A34 y234.length c34) y234) := ⟨h3_⟩
        have n4_ : zb (Kd.V Kd.string 9 w38 w.heap.size (fun k_ => (P0_ k_ ∨ w.heap.size ≤ k_) ∧ some k_ ≠ (v226 : Value).ownBlock ∧ some k_ ≠ (v229 : Value).ownBlock) (.slice A0 l0.length c0) l0) := ⟨h4_⟩
        have n5_ : zb (Below w.heap.size w w38) := ⟨h5_⟩
        clear HO_0
        clear HB
        clear h0_ h1_ h2_ h3_ h4_ h5_
        have HO224 := n0_
        have HO227 := n1_
        have HO230 := n2_
        have HO238 := n3_
        have HO_0 := n4_
        have HB := n5_
        clear n0_ n1_ n2_ n3_ n4_ n5_
        have hHeld := trivial
        obtain ⟨Ao40, co40, eo40⟩ := Kd.zpa HO230.out
        (first | subst eo40 | (injection eo40 with f1_ f2_ f3_; have f4_ := f1_.symm; have f5_ := f3_.symm; clear f1_ f2_ f3_; subst f4_; subst f5_))
        refine norm_ (a' := ?_) ?_ ?_
        rotate_left
        ·simp only [putAll, Act.put, List.setIfInBounds_toArray, List.set_cons_zero, List.set_cons_succ]
         rfl
        refine one_ (i := 6) (N := some 39) #[true, true, true, true, true, true, true, true, true, true, false, false] rfl rfl (one_of HT_.out (by kernel_rfl)) (by decide) (fun K hK => ?_)
        refine Kd.R_append_rows_step Kd.string (w0 := w) w.heap.size (by rfl) (.tmp 36) (.tmp 38) 31 9 (.string ⟨#[]⟩) 16 rfl Tryz.underlying31 info9 rfl (by decide) (by omega) v226 t225 y228 _ _ _ (fun k_ => (w.heap.size ≤ k_) ∧ some k_ ≠ (.slice Ao40 y228.length co40 : Value).ownBlock) (fun _ => False) rfl rfl ?aO ?aR (fun _ _ h => h) (fun _ h => h.elim) ?aF ?aB ?aS ?aL ?_
        (case aR => repeat (first | exact (Kd.zQ HO230.out).2.2 | (with_reducible refine Kd.zga ?_ _) | (with_reducible refine Kd.zia ?_ _) | (with_reducible refine Kd.zAa ?_)))
        (case aB => exact (by repeat (first | (with_reducible first | exact HB.out | apply zg | apply ze | apply zf) | exact HB.out)))
        (case aF => exact (fun k_ hk => ⟨(Nat.le_trans (zt (by repeat (first | (with_reducible first | exact HB.out | apply zg | apply ze | apply zf) | exact HB.out))) hk), Kd.fresh' (Kd.R_lt (by (with_reducible repeat (first | apply Kd.zo | apply Kd.zq | apply Kd.zA)); exact HO230.out)) k_ hk⟩))
        (case aO => exact (by (with_reducible repeat (first | apply Kd.zo | apply Kd.zq | apply Kd.zA)); exact HO227.out))
        (case aS => exact (zt (by repeat (first | (with_reducible first | exact HB.out | apply zg | apply ze | apply zf) | exact HB.out))))
        (case aL => have := LMc28.out; omega)
        intro v232 w39 ho hb hg hat
        rw [← Ny231.out] at ho
        have n0_ := zb.mk (Kd.V_afterv (ok := (fun k_ => (P0_ k_ ∨ w.heap.size ≤ k_) ∧ some k_ ≠ (.slice Ao40 y228.length co40 : Value).ownBlock)) (by (with_reducible repeat (first | apply Kd.zQa | apply Kd.zPa | apply Kd.zab)); exact Kd.V_mono HO_0.out (fun _ hk => ⟨⟨hk.1, hk.2.2⟩, hk.2.1⟩)) hg hat)
        have n1_ := zb.mk (Kd.V_afterv (ok := (fun k_ => (P0_ k_ ∨ w.heap.size ≤ k_) ∧ some k_ ≠ (.slice Ao40 y228.length co40 : Value).ownBlock)) (by (with_reducible repeat (first | apply Kd.zQa | apply Kd.zPa | apply Kd.zab)); exact Kd.V_mono HO224.out (fun _ hk => ⟨⟨hk.1, hk.2.2⟩, hk.2.1⟩)) hg hat)
        have n2_ := zb.mk (Kd.V_afterv (ok := (fun k_ => (P0_ k_ ∨ w.heap.size ≤ k_) ∧ some k_ ≠ (.slice Ao40 y228.length co40 : Value).ownBlock)) (by (with_reducible repeat (first | apply Kd.zQa | apply Kd.zPa | apply Kd.zab)); exact Kd.V_mono HO238.out (fun _ hk => ⟨⟨hk.1, hk.2.2⟩, hk.2.1⟩)) hg hat)
        have n3_ := zb.mk (Kd.R_after (ok := (fun k_ => (w.heap.size ≤ k_))) (by (with_reducible repeat (first | apply Kd.zo | apply Kd.zq | apply Kd.zA)); exact HO230.out) hg hat)
        have n4_ := zb.mk (hb)
        have n5_ := zb.mk (ho)
        clear HO_0
        clear HO224
        clear HO238
        clear HO230
        clear HB
        clear HO227
        have HO_0 := n0_
        have HO224 := n1_
        have HO238 := n2_
        have HO230 := n3_
        have HB := n4_
        have HO233 := n5_
        clear n0_ n1_ n2_ n3_ n4_ n5_
        clear ho hb hg hat
        refine hK.out _ _ trivial (fun hHeld => ?_)
        clear hK K
        refine norm_ (a' := ?_) ?_ ?_
        rotate_left
        ·show Act.put _ (some 39) _ = _
         simp only [Act.put, List.setIfInBounds_toArray, List.set_cons_zero, List.set_cons_succ, zva]
         rfl
        refine one_ (i := 10) (N := some 43) #[true, true, true, true, true, true, true, true, true, true, true, false] rfl rfl (one_of HT_.out (by kernel_rfl)) (by decide) (fun K hK => ?_)
        refine Kd.R_append_rows_step Kd.string (w0 := w) w.heap.size (by rfl) (.tmp 39) (.tmp 42) 31 9 (.string ⟨#[]⟩) 16 rfl Tryz.underlying31 info9 rfl (by decide) (by omega) v232 y231 y234 _ _ _ (fun k_ => (w.heap.size ≤ k_) ∧ some k_ ≠ (.slice Ao40 y228.length co40 : Value).ownBlock) (fun _ => False) rfl rfl ?aO ?aR (fun _ _ h => h) (fun _ h => h.elim) ?aF ?aB ?aS ?aL ?_
        (case aR => repeat (first | exact (Kd.V_reads' HO238.out).2.2 | (with_reducible refine Kd.zga ?_ _) | (with_reducible refine Kd.zia ?_ _) | (with_reducible refine Kd.zAa ?_)))
        (case aB => exact (by repeat (first | (with_reducible first | exact HB.out | apply zg | apply ze | apply zf) | exact HB.out)))
        (case aF => exact (fun k_ hk => ⟨(Nat.le_trans (zt (by repeat (first | (with_reducible first | exact HB.out | apply zg | apply ze | apply zf) | exact HB.out))) hk), Kd.fresh' (Kd.R_lt (by (with_reducible repeat (first | apply Kd.zo | apply Kd.zq | apply Kd.zA)); exact HO230.out)) k_ hk⟩))
        (case aO => exact (by (with_reducible repeat (first | apply Kd.zo | apply Kd.zq | apply Kd.zA)); exact HO233.out))
        (case aS => exact (zt (by repeat (first | (with_reducible first | exact HB.out | apply zg | apply ze | apply zf) | exact HB.out))))
        (case aL => have := LMc31.out; omega)
        intro v240 w41 ho hb hg hat
        rw [← Ny239.out] at ho
        have n0_ := zb.mk (Kd.V_afterv (ok := (fun k_ => (P0_ k_ ∨ w.heap.size ≤ k_) ∧ some k_ ≠ (.slice Ao40 y228.length co40 : Value).ownBlock)) (by (with_reducible repeat (first | apply Kd.zQa | apply Kd.zPa | apply Kd.zab)); exact HO_0.out) hg hat)
        have n1_ := zb.mk (Kd.V_afterv (ok := (fun k_ => (P0_ k_ ∨ w.heap.size ≤ k_) ∧ some k_ ≠ (.slice Ao40 y228.length co40 : Value).ownBlock)) (by (with_reducible repeat (first | apply Kd.zQa | apply Kd.zPa | apply Kd.zab)); exact HO224.out) hg hat)
        have n2_ := zb.mk (Kd.V_afterv (ok := (fun k_ => (P0_ k_ ∨ w.heap.size ≤ k_) ∧ some k_ ≠ (.slice Ao40 y228.length co40 : Value).ownBlock)) (by (with_reducible repeat (first | apply Kd.zQa | apply Kd.zPa | apply Kd.zab)); exact HO238.out) hg hat)
        have n3_ := zb.mk (Kd.R_after (ok := (fun k_ => (w.heap.size ≤ k_))) (by (with_reducible repeat (first | apply Kd.zo | apply Kd.zq | apply Kd.zA)); exact HO230.out) hg hat)
        have n4_ := zb.mk (hb)
        have n5_ := zb.mk (ho)
        clear HO_0
        clear HO224
        clear HO238
        clear HO230
        clear HB
        clear HO233
        have HO_0 := n0_
        have HO224 := n1_
        have HO238 := n2_
        have HO230 := n3_
        have HB := n4_
        have HO241 := n5_
        clear n0_ n1_ n2_ n3_ n4_ n5_
        clear ho hb hg hat
        refine hK.out _ _ trivial (fun hHeld => ?_)
        clear hK K
        refine norm_ (a' := ?_) ?_ ?_
        rotate_left
        ·show Act.put _ (some 43) _ = _
         simp only [Act.put, List.setIfInBounds_toArray, List.set_cons_zero, List.set_cons_succ, zva]
         rfl
        refine zib (i := 11) (N := some 4) (v := ?_) (a' := ?_) #[true, true, true, true, true, true, true, true, true, true, true, true] rfl rfl (zVa HT_.out (by kernel_rfl)) (fun _ _ _ h => h) (Or.inl ⟨by rfl, ?_⟩) ?_ ?_
        rotate_left
        ·intro w'
         go_simp
         with_reducible rfl
        rotate_left
        ·simp only [Act.put, List.setIfInBounds_toArray, List.set_cons_zero, List.set_cons_succ, zva]
         rfl
        refine done_ (done_of HT_.out (by kernel_rfl)) ?_
        try go_wp2
        go_ret
        exact ⟨_, by first | rfl | (simp [zC, zB] <;> rfl) | (simp [*, zC, zB] <;> rfl), Or.inr (by (with_reducible repeat (first | apply Kd.zo | apply Kd.zq | apply Kd.zA)); exact Kd.zZ HO241.out (fun _ _ => trivial)), by repeat (first | (with_reducible first | exact HB.out | apply zg | apply ze | apply zf) | exact HB.out)⟩
       ·rw [if_neg c31] at H
        exact absurd H (by simp)
      ·rw [if_neg c28] at H
       exact absurd H (by simp)
     ·rw [if_neg c26] at H
      exact absurd H (by simp)
    ·rw [if_neg c25] at H
     exact absurd H (by simp)
end Go.Proofs.YtfabennfhmlihaaGreatDoor.P
end
section
namespace Go.Proofs.YtfabennfhmlihaaGreatDoor.P
open Go Go.RowKit Go.Proofs.YtfabennfhmlihaaGreatDoorW.zJ Go.Proofs.YtfabennfhmlihaaGreatDoorW.zU Go.Proofs.YtfabennfhmlihaaGreatDoorW.PrintMore
set_option linter.unusedVariables false
/-- w at its place in xs, if it is not there. -/
def putW : List (List UInt8) → List UInt8 → List (List UInt8)
  | [], w => [w]
  | x :: xs, w => if Op.bytesLess x w = true then x :: putW xs w else if x = w then x :: xs else w :: x :: xs
theorem l2Put_at (xs : List (List UInt8)) (w : List UInt8) (hl : xs.length < 1099511627776) (hs : ∀ x ∈ xs, x.length ≤ 4611686018427387904) (n : Nat) : ∀ i : Nat, xs.length - i = n → i ≤ xs.length →
    Ev (fun k => zLa.l0 k (xs.map tx) (tx w) i) ((xs.take i ++ putW (xs.drop i) w).map tx) := by
  have fin : ∀ i : Nat, i ≤ xs.length → Ev (fun _ => (spec_l2Own.f ((xs.map tx).take i)).bind fun t148 => ((some (([tx w] : List ByteArray) : List ByteArray)).bind fun y151 => (if t148.length + y151.length < 8796093022208 then ((some (t148 ++ y151 : List ByteArray)).bind fun y154 => ((some ((xs.map tx).drop i : List ByteArray)).bind fun y157 => (if y154.length + y157.length < 8796093022208 then (some (y154 ++ y157)) else (none)))) else (none)))) ((xs.take i ++ w :: xs.drop i).map tx) := by
    intro i hi
    refine Ev.const ?_
    unfold spec_l2Own.f
    simp only [Option.bind_some, List.length_nil, List.length_take, List.length_map, List.length_drop, List.length_append, List.length_cons, List.nil_append]
    rw [if_pos (by omega)]
    simp only [Option.bind_some, List.length_take, List.length_map]
    rw [if_pos (by omega), if_pos (by omega)]
    simp [List.map_take, List.map_drop]
  induction n with
  | zero =>
    intro i hn hi
    obtain rfl : i = xs.length := by omega
    refine Ev.succ ?_
    simp only [zLa.l0, List.length_map]
    refine Ev.neg (by omega) (Ev.pos (by omega) (Ev.pos (by omega) ?_))
    have := fin xs.length (Nat.le_refl _)
    simp only [Int.toNat_natCast]
    rw [List.drop_of_length_le (Nat.le_refl _)] at this ⊢
    simpa only [putW] using this
  | succ n ih =>
    intro i hn hi
    have hlt : i < xs.length := by omega
    refine Ev.succ ?_
    simp only [zLa.l0, List.length_map]
    refine Ev.pos (by omega) (Ev.pos (by omega) ?_)
    simp only [rdOf_tx, Int.toNat_natCast]
    have hx : xs.getD i [] ∈ xs := by rw [List.getD_eq_getElem?_getD, List.getElem?_eq_getElem hlt]; exact List.getElem_mem _
    refine Ev.bind (l2Before_ev _ _ (by have := hs _ hx; omega)) ?_
    have hd := getD_drop xs i [] hlt
    rw [hd, putW]
    by_cases hb : Op.bytesLess (xs.getD i []) w = true
    · refine Ev.pos hb ?_
      rw [if_pos hb, zSa (by omega) (by omega)]
      have := ih (i + 1) (by omega) (by omega)
      have e : xs.take (i + 1) = xs.take i ++ [xs.getD i []] := by
        rw [List.take_succ_eq_append_getElem hlt]; simp [List.getD_eq_getElem?_getD, List.getElem?_eq_getElem hlt]
      rw [e] at this
      simpa using this
    · refine Ev.neg hb ?_
      rw [if_neg hb]
      by_cases he : xs.getD i [] = w
      · refine Ev.pos (by rw [he]) ?_
        rw [if_pos he]
        refine Ev.const ?_
        rw [← hd, List.take_append_drop]
      · refine Ev.neg (by rw [zbb, zbb]; exact he) (Ev.pos (by omega) ?_)
        rw [if_neg he, ← hd]
        exact fin i hi
theorem l2Put_ev (xs : List (List UInt8)) (w : List UInt8) (hl : xs.length < 1099511627776) (hs : ∀ x ∈ xs, x.length ≤ 4611686018427387904) :
    Ev (fun k => zLa.f k (xs.map tx) (tx w)) ((putW xs w).map tx) := by
  have := l2Put_at xs w hl hs xs.length 0 (by omega) (by omega)
  unfold zLa.f
  simpa using this
/-- What its callers take it for. -/
def l2put.f (l0 : List ByteArray) (a1 : ByteArray) : Option (List ByteArray) :=
  if l0.length < 1099511627776 ∧ (∀ b ∈ l0, b.toList.length ≤ 4611686018427387904) then some ((putW (l0.map ByteArray.toList) a1.toList).map tx) else none
theorem l2put.tx (xs : List (List UInt8)) (w : List UInt8) (hl : xs.length < 1099511627776) (hs : ∀ x ∈ xs, x.length ≤ 4611686018427387904) :
    l2put.f (xs.map P.tx) (P.tx w) = some ((putW xs w).map P.tx) := by
  unfold l2put.f
  rw [if_pos ⟨by simpa using hl, by
    intro b hb
    obtain ⟨x, hx, rfl⟩ := List.mem_map.1 hb
    rw [zbb]; exact hs x hx⟩, zbb]
  congr 3
  rw [List.map_map]
  conv => rhs; rw [← List.map_id xs]
  exact List.map_congr_left (fun x _ => zbb x)
theorem l2put.calls (P0_ : Nat → Prop) (u9000_ : Value) (l0 : List ByteArray) (a1 : ByteArray) (r : List ByteArray) (w0 w : World) (hB : Below w0.heap.size w0 w)
    (ho0 : Kd.R Kd.string 9 w w0.heap.size P0_ u9000_ l0) (h : l2put.f l0 a1 = some r) :
    Calls Tryz.prog 185 #[u9000_, .string a1] w fun e w' => ∃ v0_ : Value, e = .returned (v0_) ∧ Kd.R Kd.string 9 w' w0.heap.size (fun k_ => (P0_ k_ ∨ w.heap.size ≤ k_)) v0_ r ∧ Below w0.heap.size w0 w' ∧ Kept w w' (fun k_ => P0_ k_) := by
  unfold l2put.f at h
  split at h
  · rename_i hc
    obtain ⟨k, hk⟩ := (l2Put_ev (l0.map ByteArray.toList) a1.toList (by simpa using hc.1) (by
      intro x hx
      obtain ⟨b, hb, rfl⟩ := List.mem_map.1 hx
      exact hc.2 b hb)).get
    rw [← map_tx_surj, ← tx_surj] at hk
    obtain ⟨A, c, rfl, hlc, hC⟩ := Kd.R_reads ho0
    have hV : Kd.V Kd.string 9 w w.heap.size (fun k_ => P0_ k_) (.slice A l0.length c) l0 := Kd.R_V ho0
    refine (zLa.put k P0_ A c l0 a1 _ w hV hk).mono ?_
    rintro e w' ⟨v0, rfl, hr, hb⟩
    obtain rfl := Option.some.inj h
    refine ⟨v0, rfl, ?_, hB.trans (hb.mono hB.size), Kept.of_below hb _⟩
    rcases hr with ⟨rfl, he⟩ | hr
    · rw [he]; exact Kd.zZ (Kd.zta ho0 hb) (fun _ h => .inl h)
    · exact Kd.zua (Kd.zZ (Kd.R_bound hr) (fun k hk => .inr hk.2.1)) hB.size
  · cases h
end Go.Proofs.YtfabennfhmlihaaGreatDoor.P
end
section
namespace Go.Proofs.YtfabennfhmlihaaGreatDoor.P
open Go.RowKit Go.Proofs.YtfabennfhmlihaaGreatDoorW.zJ Go.Proofs.YtfabennfhmlihaaGreatDoorW.zU Go.Proofs.YtfabennfhmlihaaGreatDoorW.PrintMore
set_option linter.unusedVariables false
set_option linter.unusedSimpArgs false
def zcb.l0 : Nat → List ByteArray → ByteArray → Int → Option (Bool)
 | 0, _, _, _ => none
 | k + 1, x0, x1, x5 => if x5 < (x0.length : Int) then (if 0 ≤ x5 then (if (rdOf ByteArray.empty x0 x5).toList = x1.toList then (some true) else (zcb.l0 k x0 x1 (wrap64 (x5 + 1)))) else (none)) else (some false)
def zcb.f (k : Nat) (l0 : List ByteArray) (a1 : ByteArray) : Option (Bool) := zcb.l0 k l0 a1 0
set_option maxHeartbeats 8000000 in
set_option maxRecDepth 100000 in
theorem zcb.calls (k : Nat) (A0 : Option Addr) (c0 : Nat) (l0 : List ByteArray) (a1 : ByteArray) (r : Bool) (w : World) (hr0 : Kd.C Kd.string w A0 l0.length l0) (hc0 : l0.length ≤ c0) (h : zcb.f k l0 a1 = some r) :
  Calls Tryz.prog 119 #[.slice A0 l0.length c0, .string a1] w fun e w' => e = .returned (.bool r) ∧ zX w w' := by
 have HR0 := zb.mk hr0
 have HC0 := zb.mk hc0
 clear hr0 hc0
 have H : (zcb.l0 k l0 a1 0) = some r := h
 clear h
 have H' := zb.mk H
 clear H
 go_enter Tryz.func119, Tryz.ntmps119
 go_wp2
 go_loopg [5] k (fun kq v5 w' => ∃ (x5_1 : Int), v5 = .int .i64 x5_1 ∧ zb (zcb.l0 kq l0 a1 x5_1 = some r) ∧ zb (kq ≤ k) ∧ zX w w')
 case atStart => exact ⟨(0), (by first | rfl | (simp; done) | (simp [*]; done)), H', ⟨Nat.le_refl _⟩, by repeat (first | exact zX.refl _ | apply zX.step)⟩
 case round =>
  clear H'
  try clear c1
  try clear p2
  obtain ⟨x5_1, rfl, HA, HK1, ⟨m1, rfl⟩⟩ := hrel
  cases gk with
  | zero => exact absurd HA.out (by simp [zcb.l0])
  | succ k1 =>
   have H := HA.out
   clear HA
   simp only [zcb.l0] at H
   by_cases c3 : x5_1 < (l0.length : Int)
   ·rw [if_pos c3] at H
    have c3b0 : decide (x5_1 < (l0.length : Int)) = true := decide_eq_true c3
    clear c3
    by_cases c4 : 0 ≤ x5_1
    ·rw [if_pos c4] at H
     have c4b0 : decide (0 ≤ x5_1) = true := decide_eq_true c4
     clear c4
     by_cases c5 : (rdOf ByteArray.empty l0 x5_1).toList = a1.toList
     ·rw [if_pos c5] at H
      have c5b0 : ((rdOf ByteArray.empty l0 x5_1).toList == a1.toList) = true := beq_iff_eq.mpr c5
      have c5b1 : ((rdOf ByteArray.empty l0 x5_1).toList != a1.toList) = false := bne_eq_false_iff_eq.mpr c5
      clear c5
      obtain rfl := Option.some.inj H
      have p369 : 0 ≤ (x5_1 : Int) := of_decide_eq_true (by first | (with_reducible assumption) | assumption)
      have q369 : x5_1 < (l0.length : Int) := of_decide_eq_true (by first | (with_reducible assumption) | assumption)
      obtain ⟨ad369, e369, hx369_0⟩ := Kd.zza HR0.out x5_1 p369 q369
      cases e369
      replace p369 := eq_true p369
      replace q369 := eq_true q369
      go_wp2
      go_ret
      exact ⟨by first | rfl | (simp; done) | (simp [*]; done), by repeat (first | exact zX.refl _ | apply zX.step)⟩
     ·rw [if_neg c5] at H
      have c5b0 : ((rdOf ByteArray.empty l0 x5_1).toList == a1.toList) = false := beq_eq_false_iff_ne.mpr c5
      have c5b1 : ((rdOf ByteArray.empty l0 x5_1).toList != a1.toList) = true := bne_iff_ne.mpr c5
      have H' := zb.mk H
      clear H
      have p369 : 0 ≤ (x5_1 : Int) := of_decide_eq_true (by first | (with_reducible assumption) | assumption)
      have q369 : x5_1 < (l0.length : Int) := of_decide_eq_true (by first | (with_reducible assumption) | assumption)
      obtain ⟨ad369, e369, hx369_0⟩ := Kd.zza HR0.out x5_1 p369 q369
      cases e369
      replace p369 := eq_true p369
      replace q369 := eq_true q369
      go_wp2
      go_roundg k1
      case measure => have := HK1.out; omega
      case rel => exact ⟨(wrap64 (x5_1 + 1)), (by first | rfl | (simp; done) | (simp [*]; done)), H', ⟨by have := HK1.out; omega⟩, by repeat (first | exact zX.refl _ | apply zX.step)⟩
    ·rw [if_neg c4] at H
     exact absurd H (by simp)
   ·rw [if_neg c3] at H
    have c3b0 : decide (x5_1 < (l0.length : Int)) = false := decide_eq_false c3
    clear c3
    obtain rfl := Option.some.inj H
    go_wp2
    go_ret
    exact ⟨by first | rfl | (simp; done) | (simp [*]; done), by repeat (first | exact zX.refl _ | apply zX.step)⟩
end Go.Proofs.YtfabennfhmlihaaGreatDoor.P
end
section
namespace Go.Proofs.YtfabennfhmlihaaGreatDoor.P
open Go.RowKit Go.Proofs.YtfabennfhmlihaaGreatDoorW.zJ Go.Proofs.YtfabennfhmlihaaGreatDoorW.zU Go.Proofs.YtfabennfhmlihaaGreatDoorW.PrintMore
set_option linter.unusedVariables false
set_option linter.unusedSimpArgs false
def spec_l2Place.l0 : Nat → List ByteArray → ByteArray → Int → Option (Int)
 | 0, _, _, _ => none
 | k + 1, x0, x1, x5 => if x5 < (x0.length : Int) then (if 0 ≤ x5 then (if (rdOf ByteArray.empty x0 x5).toList = x1.toList then (some x5) else (spec_l2Place.l0 k x0 x1 (wrap64 (x5 + 1)))) else (none)) else (some (-1))
def spec_l2Place.f (k : Nat) (l0 : List ByteArray) (a1 : ByteArray) : Option (Int) := spec_l2Place.l0 k l0 a1 0
set_option maxHeartbeats 8000000 in
set_option maxRecDepth 100000 in
theorem spec_l2Place.calls (k : Nat) (A0 : Option Addr) (c0 : Nat) (l0 : List ByteArray) (a1 : ByteArray) (r : Int) (w : World) (hr0 : Kd.C Kd.string w A0 l0.length l0) (hc0 : l0.length ≤ c0) (h : spec_l2Place.f k l0 a1 = some r) :
  Calls Tryz.prog 189 #[.slice A0 l0.length c0, .string a1] w fun e w' => e = .returned (.int .i64 r) ∧ zX w w' := by
 have HR0 := zb.mk hr0
 have HC0 := zb.mk hc0
 clear hr0 hc0
 have H : (spec_l2Place.l0 k l0 a1 0) = some r := h
 clear h
 have H' := zb.mk H
 clear H
 go_enter Tryz.func189, Tryz.ntmps189
 go_wp2
 go_loopg [5] k (fun kq v5 w' => ∃ (x5_1 : Int), v5 = .int .i64 x5_1 ∧ zb (spec_l2Place.l0 kq l0 a1 x5_1 = some r) ∧ zb (kq ≤ k) ∧ zX w w')
 case atStart => exact ⟨(0), (by first | rfl | (simp; done) | (simp [*]; done)), H', ⟨Nat.le_refl _⟩, by repeat (first | exact zX.refl _ | apply zX.step)⟩
 case round =>
  clear H'
  try clear c1
  try clear p2
  obtain ⟨x5_1, rfl, HA, HK1, ⟨m1, rfl⟩⟩ := hrel
  cases gk with
  | zero => exact absurd HA.out (by simp [spec_l2Place.l0])
  | succ k1 =>
   have H := HA.out
   clear HA
   simp only [spec_l2Place.l0] at H
   by_cases c3 : x5_1 < (l0.length : Int)
   ·rw [if_pos c3] at H
    have c3b0 : decide (x5_1 < (l0.length : Int)) = true := decide_eq_true c3
    clear c3
    by_cases c4 : 0 ≤ x5_1
    ·rw [if_pos c4] at H
     have c4b0 : decide (0 ≤ x5_1) = true := decide_eq_true c4
     clear c4
     by_cases c5 : (rdOf ByteArray.empty l0 x5_1).toList = a1.toList
     ·rw [if_pos c5] at H
      have c5b0 : ((rdOf ByteArray.empty l0 x5_1).toList == a1.toList) = true := beq_iff_eq.mpr c5
      have c5b1 : ((rdOf ByteArray.empty l0 x5_1).toList != a1.toList) = false := bne_eq_false_iff_eq.mpr c5
      clear c5
      obtain rfl := Option.some.inj H
      have p1602 : 0 ≤ (x5_1 : Int) := of_decide_eq_true (by first | (with_reducible assumption) | assumption)
      have q1602 : x5_1 < (l0.length : Int) := of_decide_eq_true (by first | (with_reducible assumption) | assumption)
      obtain ⟨ad1602, e1602, hx1602_0⟩ := Kd.zza HR0.out x5_1 p1602 q1602
      cases e1602
      replace p1602 := eq_true p1602
      replace q1602 := eq_true q1602
      go_wp2
      go_ret
      exact ⟨by first | rfl | (simp; done) | (simp [*]; done), by repeat (first | exact zX.refl _ | apply zX.step)⟩
     ·rw [if_neg c5] at H
      have c5b0 : ((rdOf ByteArray.empty l0 x5_1).toList == a1.toList) = false := beq_eq_false_iff_ne.mpr c5
      have c5b1 : ((rdOf ByteArray.empty l0 x5_1).toList != a1.toList) = true := bne_iff_ne.mpr c5
      have H' := zb.mk H
      clear H
      have p1602 : 0 ≤ (x5_1 : Int) := of_decide_eq_true (by first | (with_reducible assumption) | assumption)
      have q1602 : x5_1 < (l0.length : Int) := of_decide_eq_true (by first | (with_reducible assumption) | assumption)
      obtain ⟨ad1602, e1602, hx1602_0⟩ := Kd.zza HR0.out x5_1 p1602 q1602
      cases e1602
      replace p1602 := eq_true p1602
      replace q1602 := eq_true q1602
      go_wp2
      go_roundg k1
      case measure => have := HK1.out; omega
      case rel => exact ⟨(wrap64 (x5_1 + 1)), (by first | rfl | (simp; done) | (simp [*]; done)), H', ⟨by have := HK1.out; omega⟩, by repeat (first | exact zX.refl _ | apply zX.step)⟩
    ·rw [if_neg c4] at H
     exact absurd H (by simp)
   ·rw [if_neg c3] at H
    have c3b0 : decide (x5_1 < (l0.length : Int)) = false := decide_eq_false c3
    clear c3
    obtain rfl := Option.some.inj H
    go_wp2
    go_ret
    exact ⟨by first | rfl | (simp; done) | (simp [*]; done), by repeat (first | exact zX.refl _ | apply zX.step)⟩
end Go.Proofs.YtfabennfhmlihaaGreatDoor.P
end
section
namespace Go.Proofs.YtfabennfhmlihaaGreatDoor.P
open Go Go.RowKit Go.Proofs.YtfabennfhmlihaaGreatDoorW.zJ Go.Proofs.YtfabennfhmlihaaGreatDoorW.zU Go.Proofs.YtfabennfhmlihaaGreatDoorW.PrintMore
set_option linter.unusedVariables false
theorem l2Has_ev (xs : List (List UInt8)) (w : List UInt8) (hl : xs.length ≤ 9223372036854775806) : Ev (fun k => zcb.f k (xs.map tx) (tx w)) (decide (w ∈ xs)) := by
  suffices h : ∀ n i : Nat, xs.length - i = n → i ≤ xs.length → Ev (fun k => zcb.l0 k (xs.map tx) (tx w) i) (decide (w ∈ xs.drop i)) by
    have := h xs.length 0 (by omega) (by omega)
    unfold zcb.f
    simpa using this
  intro n
  induction n with
  | zero =>
    intro i hn hi
    obtain rfl : i = xs.length := by omega
    refine Ev.succ ?_
    simp only [zcb.l0, List.length_map]
    exact Ev.neg (by omega) (Ev.const (by simp))
  | succ n ih =>
    intro i hn hi
    have hlt : i < xs.length := by omega
    refine Ev.succ ?_
    simp only [zcb.l0, List.length_map, rdOf_tx, zbb, Int.toNat_natCast]
    refine Ev.pos (by omega) (Ev.pos (by omega) ?_)
    rw [getD_drop xs i [] hlt]
    by_cases e : xs.getD i [] = w
    · exact Ev.pos e (Ev.const (by rw [e]; simp))
    · refine Ev.neg e ?_
      rw [zSa (by omega) (by omega)]
      have := ih (i + 1) (by omega) (by omega)
      have e2 : decide (w ∈ xs.getD i [] :: xs.drop (i + 1)) = decide (w ∈ xs.drop (i + 1)) := by
        simp only [List.mem_cons]
        congr 1
        simp only [eq_iff_iff]
        exact ⟨fun h => h.elim (fun h => absurd h.symm e) id, .inr⟩
      rw [e2]; simpa using this
/-- The place of w in xs, or -1. -/
def placeW (xs : List (List UInt8)) (w : List UInt8) : Int := if w ∈ xs then (xs.idxOf w : Int) else -1
theorem l2Place_ev (xs : List (List UInt8)) (w : List UInt8) (hl : xs.length ≤ 9223372036854775806) : Ev (fun k => spec_l2Place.f k (xs.map tx) (tx w)) (placeW xs w) := by
  suffices h : ∀ n i : Nat, xs.length - i = n → i ≤ xs.length → (w ∉ xs.take i) → Ev (fun k => spec_l2Place.l0 k (xs.map tx) (tx w) i) (placeW xs w) by
    have := h xs.length 0 (by omega) (by omega) (by simp)
    unfold spec_l2Place.f
    simpa using this
  intro n
  induction n with
  | zero =>
    intro i hn hi hni
    obtain rfl : i = xs.length := by omega
    refine Ev.succ ?_
    simp only [spec_l2Place.l0, List.length_map]
    refine Ev.neg (by omega) (Ev.const ?_)
    rw [List.take_length] at hni
    simp [placeW, hni]
  | succ n ih =>
    intro i hn hi hni
    have hlt : i < xs.length := by omega
    have hg : xs.getD i [] = xs[i] := by rw [List.getD_eq_getElem?_getD, List.getElem?_eq_getElem hlt]; rfl
    refine Ev.succ ?_
    simp only [spec_l2Place.l0, List.length_map, rdOf_tx, zbb, Int.toNat_natCast]
    refine Ev.pos (by omega) (Ev.pos (by omega) ?_)
    by_cases e : xs.getD i [] = w
    · refine Ev.pos e (Ev.const ?_)
      rw [hg] at e
      have hm : w ∈ xs := e ▸ List.getElem_mem hlt
      congr 1
      simp only [placeW, if_pos hm]
      congr 1
      have : xs.idxOf w = i := by
        have hd : xs = xs.take i ++ w :: xs.drop (i + 1) := by
          conv => lhs; rw [← List.take_append_drop i xs]
          rw [List.drop_eq_getElem_cons hlt, e]
        rw [hd, List.idxOf_append, if_neg hni, List.length_take, List.idxOf_cons_self]
        omega
      omega
    · refine Ev.neg e ?_
      rw [zSa (by omega) (by omega)]
      have := ih (i + 1) (by omega) (by omega) (by
        rw [List.take_succ_eq_append_getElem hlt]
        simp only [List.mem_append, List.mem_singleton, not_or]
        exact ⟨hni, fun h => e (by rw [hg]; exact h.symm)⟩)
      simpa using this
/-- The first k beginnings of w put to P. -/
def prefP (P : List (List UInt8)) (w : List UInt8) (k : Nat) : List (List UInt8) := (List.range k).foldl (fun P j => putW P (w.take (j + 1))) P
/-- All beginnings of the first n words, and the empty text. -/
def prefsP (ws : List (List UInt8)) (n : Nat) : List (List UInt8) := (ws.take n).foldl (fun P w => prefP P w w.length) [[]]
theorem prefP_zero (P : List (List UInt8)) (w : List UInt8) : prefP P w 0 = P := rfl
theorem prefP_succ (P : List (List UInt8)) (w : List UInt8) (k : Nat) : prefP P w (k + 1) = putW (prefP P w k) (w.take (k + 1)) := by
  simp [prefP, List.range_succ]
theorem prefsP_zero (ws : List (List UInt8)) : prefsP ws 0 = [[]] := rfl
theorem prefsP_succ (ws : List (List UInt8)) (n : Nat) (h : n < ws.length) : prefsP ws (n + 1) = prefP (prefsP ws n) (ws.getD n []) (ws.getD n []).length := by
  unfold prefsP
  rw [List.take_succ_eq_append_getElem h, List.foldl_append]
  simp [List.getD_eq_getElem?_getD, List.getElem?_eq_getElem h]
theorem putW_length (P : List (List UInt8)) (w : List UInt8) : (putW P w).length ≤ P.length + 1 := by
  induction P with
  | nil => simp [putW]
  | cons x P ih =>
    simp only [putW]
    split
    · simp only [List.length_cons]; omega
    · split <;> simp
theorem putW_mem {P : List (List UInt8)} {w x : List UInt8} (h : x ∈ putW P w) : x = w ∨ x ∈ P := by
  induction P with
  | nil => simpa [putW] using h
  | cons y P ih =>
    simp only [putW] at h
    split at h
    · rcases List.mem_cons.1 h with h | h
      · exact .inr (h ▸ List.mem_cons_self)
      · exact (ih h).imp_right (List.mem_cons_of_mem _)
    · split at h
      · exact .inr h
      · exact (List.mem_cons.1 h)
theorem prefP_length (P : List (List UInt8)) (w : List UInt8) (k : Nat) : (prefP P w k).length ≤ P.length + k := by
  induction k with
  | zero => simp [prefP_zero]
  | succ k ih => rw [prefP_succ]; have := putW_length (prefP P w k) (w.take (k + 1)); omega
theorem prefP_mem {P : List (List UInt8)} {w x : List UInt8} {k : Nat} (h : x ∈ prefP P w k) : x ∈ P ∨ x.length ≤ w.length := by
  induction k with
  | zero => exact .inl h
  | succ k ih =>
    rw [prefP_succ] at h
    rcases putW_mem h with rfl | h
    · exact .inr (by rw [List.length_take]; omega)
    · exact ih h
theorem prefsP_bound (ws : List (List UInt8)) (M : Nat) (hs : ∀ x ∈ ws, x.length ≤ M) (n : Nat) (hn : n ≤ ws.length) : (prefsP ws n).length ≤ 1 + n * M ∧ ∀ x ∈ prefsP ws n, x.length ≤ M := by
  induction n with
  | zero => simp [prefsP_zero]
  | succ n ih =>
    obtain ⟨h1, h2⟩ := ih (by omega)
    have hm : (ws.getD n []).length ≤ M := hs _ (by rw [List.getD_eq_getElem?_getD, List.getElem?_eq_getElem (by omega)]; exact List.getElem_mem _)
    rw [prefsP_succ ws n (by omega)]
    refine ⟨?_, fun x hx => ?_⟩
    · have := prefP_length (prefsP ws n) (ws.getD n []) (ws.getD n []).length
      rw [Nat.succ_mul]; omega
    · rcases prefP_mem hx with h | h
      · exact h2 x h
      · omega
/-- All beginnings of all words, and the empty text. -/
def zha (ws : List (List UInt8)) : List (List UInt8) := prefsP ws ws.length
/-- The node of the i-th of the prefixes P. -/
def nodeP (P ws : List (List UInt8)) (i : Nat) : zL :=
  if i = 0 then ⟨-1, -1, decide (P.getD i [] ∈ ws)⟩
  else ⟨((((P.getD i []).getD ((P.getD i []).length - 1) 0).toNat : Int) - 97) % 256, placeW P ((P.getD i []).take ((P.getD i []).length - 1)), decide (P.getD i [] ∈ ws)⟩
def zTa (P ws : List (List UInt8)) (n : Nat) : List zL := (List.range n).map (nodeP P ws)
theorem nodesP_succ (P ws : List (List UInt8)) (n : Nat) : zTa P ws (n + 1) = zTa P ws n ++ [nodeP P ws n] := by simp [zTa, List.range_succ]
/-- The nodes of the trie of words. -/
def ofW (ws : List (List UInt8)) : List zL := zTa (zha ws) ws (zha ws).length
def l2of.f (l0 : List ByteArray) : Option (List zL) :=
  if (l0.length ≤ 262144 ∧ (∀ b ∈ l0, b.toList.length ≤ 262144)) ∧ (∀ p ∈ (zha (l0.map ByteArray.toList)).tail, p ≠ []) then some (ofW (l0.map ByteArray.toList)) else none
end Go.Proofs.YtfabennfhmlihaaGreatDoor.P
end
section
namespace Go.Proofs.YtfabennfhmlihaaGreatDoor.P
open Go.RowKit Go.Proofs.YtfabennfhmlihaaGreatDoorW.zJ Go.Proofs.YtfabennfhmlihaaGreatDoorW.zU Go.Proofs.YtfabennfhmlihaaGreatDoorW.PrintMore
set_option linter.unusedVariables false
set_option linter.unusedSimpArgs false
def impl_in.f (a0 : Int) (a1 : Int) (a2 : Int) : Option (Bool) := if a0 ≥ a1 then (some (decide (a0 ≤ a2))) else (some false)
set_option maxHeartbeats 8000000 in
set_option maxRecDepth 100000 in
theorem impl_in.calls (a0 : Int) (a1 : Int) (a2 : Int) (r : Bool) (w : World) (h : impl_in.f a0 a1 a2 = some r) :
  Calls Tryz.prog 134 #[.int .i64 a0, .int .i64 a1, .int .i64 a2] w fun e w' => e = .returned (.bool r) ∧ zX w w' := by
 have H : (if a0 ≥ a1 then (some (decide (a0 ≤ a2))) else (some false)) = some r := h
 clear h
 by_cases c4 : a0 ≥ a1
 ·rw [if_pos c4] at H
  have c4b0 : decide (a1 ≤ a0) = true := decide_eq_true c4
  clear c4
  obtain rfl := Option.some.inj H
  go_enter Tryz.func134, Tryz.ntmps134
  go_wp2
  go_ret
  exact ⟨by first | rfl | (simp; done) | (simp [*]; done), by repeat (first | exact zX.refl _ | apply zX.step)⟩
 ·rw [if_neg c4] at H
  have c4b0 : decide (a1 ≤ a0) = false := decide_eq_false c4
  clear c4
  obtain rfl := Option.some.inj H
  go_enter Tryz.func134, Tryz.ntmps134
  go_wp2
  go_ret
  exact ⟨by first | rfl | (simp; done) | (simp [*]; done), by repeat (first | exact zX.refl _ | apply zX.step)⟩
end Go.Proofs.YtfabennfhmlihaaGreatDoor.P
end
section
namespace Go.Proofs.YtfabennfhmlihaaGreatDoor.P
open Go.RowKit Go.Proofs.YtfabennfhmlihaaGreatDoorW.zJ Go.Proofs.YtfabennfhmlihaaGreatDoorW.zU Go.Proofs.YtfabennfhmlihaaGreatDoorW.PrintMore
set_option linter.unusedVariables false
set_option linter.unusedSimpArgs false
def impl_letter.f (a0 : Int) : Option (ByteArray) := some (strOfNums (([(wrap64 (97 + a0)) % 256] : List Int)))
set_option maxHeartbeats 8000000 in
set_option maxRecDepth 100000 in
theorem impl_letter.calls (a0 : Int) (r : ByteArray) (w : World) (h : impl_letter.f a0 = some r) :
  Calls Tryz.prog 157 #[.int .i64 a0] w fun e w' => e = .returned (.string r) ∧ Below w.heap.size w w' := by
 have HB := zb.mk (Below.refl w.heap.size w)
 have H : (some (strOfNums (([(wrap64 (97 + a0)) % 256] : List Int)))) = some r := h
 clear h
 obtain ⟨y321, hy321⟩ : ∃ y_ : List Int, y_ = (([(wrap64 (97 + a0)) % 256] : List Int)) := ⟨_, rfl⟩
 replace H : (some (strOfNums y321)) = some r := by first | (rw [hy321]; with_reducible exact H) | (have H2_ := (Option.bind_some _ _).symm.trans H; rw [hy321]; with_reducible exact H2_) | (have H2_ := (Option.bind_some _ _).symm.trans H; with_reducible exact H2_) | with_reducible exact H | (rw [hy321]; exact H) | exact H
 have Ny321 := zb.mk hy321
 clear hy321
 obtain rfl := Option.some.inj H
 go_enter Tryz.func157, Tryz.ntmps157
 go_wp2_with (first | ((with_reducible refine zoa (N := 6) rfl ?_); refine Kd.R_lit (Kd.int .u8) _ 5 ?hg (N := 6) ?hd (xs := ([(wrap64 (97 + a0)) % 256] : List Int)) (inner := [.int .u8 ((wrap64 (97 + a0)) % 256)]) (ok := fun _ => True) (okp := fun _ => True) ?hr ?hp (fun _ hk => hk) trivial (Below.refl _ _) (Nat.le_refl _) (by simp) ?_; (case hd => rfl); (case hg => rfl); (case hr => first | (go_simp; done) | (go_simp; rfl)); (case hp => exact (Reps.one (show Kd.M (Kd.int .u8) _ _ _ ((wrap64 (97 + a0)) % 256) [.int .u8 ((wrap64 (97 + a0)) % 256)] from rfl) (Reps.none _ _))); intro v322 w2 ho3 hb hg_ hnew_; clear hg_ hnew_; (first | rw [← Ny321.out] at ho3 | (simp only [Int.reduceToNat] at ho3; rw [← Ny321.out] at ho3)); have n0_ := zb.mk (Kd.zua ho3 (zt (by repeat (first | (with_reducible first | exact HB.out | apply zg | apply ze | apply zf) | exact HB.out)))); have n1_ := zb.mk (zw (by repeat (first | (with_reducible first | exact HB.out | apply zg | apply ze | apply zf) | exact HB.out)) hb); clear HB; have HO323 := n0_; have HB := n1_; clear n0_ n1_; clear hb ho3; have hcv4 := own_string (P := Tryz.prog) Tryz.underlying22 Tryz.underlying5 Tryz.underlying9 (Kd.own_of_R HO323.out)))
 go_ret
 exact ⟨by first | rfl | (simp [zC, zB] <;> rfl) | (simp [*, zC, zB] <;> rfl), by repeat (first | (with_reducible first | exact HB.out | apply zg | apply ze | apply zf) | exact HB.out)⟩
end Go.Proofs.YtfabennfhmlihaaGreatDoor.P
end
section
namespace Go.Proofs.YtfabennfhmlihaaGreatDoor.P
open Go.RowKit Go.Proofs.YtfabennfhmlihaaGreatDoorW.zJ Go.Proofs.YtfabennfhmlihaaGreatDoorW.zU Go.Proofs.YtfabennfhmlihaaGreatDoorW.PrintMore
set_option linter.unusedVariables false
set_option linter.unusedSimpArgs false
def zO.l0 : Nat → List ByteArray → List (zL) → Int → Int → Option (List ByteArray × Bool)
 | 0, _, _, _, _ => none
 | k + 1, x4, x15, x16, x17 => if x17 < x16 then (if 0 ≤ x17 then (if x17 < (x15.length : Int) then ((impl_in.f ((zl x15 x17).f1) 0 x17).bind fun t335 => (if t335 = true then ((impl_in.f ((zl x15 x17).f0) 0 25).bind fun t336 => (if t336 = true then (if 0 ≤ ((zl x15 x17).f1) then (if ((zl x15 x17).f1) < (x4.length : Int) then ((impl_letter.f ((zl x15 x17).f0)).bind fun t338 => (if (rdOf ByteArray.empty x4 ((zl x15 x17).f1)).size + t338.size ≤ 9223372036854775807 then (if x4.length < 8796093022208 then (zO.l0 k (x4 ++ [(rdOf ByteArray.empty x4 ((zl x15 x17).f1)) ++ t338]) x15 x16 (wrap64 (x17 + 1))) else (none)) else (none))) else (none)) else (none)) else (some (([] : List ByteArray), false)))) else (some (([] : List ByteArray), false)))) else (none)) else (none)) else (some (x4, true))
def zO.f (k : Nat) (l0_0 : List (zL)) : Option (List ByteArray × Bool) := (impl_in.f (l0_0.length : Int) 1 481).bind fun t328 => (if t328 = true then (if 1 ≤ (l0_0.length : Int) then ((some (l0_0.drop 1 : List (zL))).bind fun y329 => (zO.l0 k (([(⟨#[]⟩ : ByteArray)] : List ByteArray)) y329 (y329.length : Int) 0)) else (none)) else (some (([] : List ByteArray), false)))
def zO.T9 : Bool × List (List Nat × List Nat) := (true, [([], []), ([], []), ([], []), ([2], [2]), ([1, 3], [1, 3]), ([4], [4]), ([], []), ([6], [6]), ([7], [7]), ([5, 8], [5, 8]), ([9], [9]), ([0, 10, 8], [0, 10]), ([11, 11, 0, 1, 2, 3, 4, 5, 6, 7, 8, 9, 10, 11], [0, 1, 11])])
def zO.B9 : List Nat := [0, 0, 0, 4, 14, 30, 0, 64, 192, 510, 1022, 2047, 4095]
theorem zO.tab9 : rtab .any (opsOf Tryz.f169 9) = zO.T9 := by kernel_rfl
theorem zO.bits9 : waitsOk zO.T9.2 zO.B9 = true := by kernel_rfl
set_option maxHeartbeats 8000000 in
set_option maxRecDepth 100000 in
theorem zO.calls (k : Nat) (A0_0 : Option Addr) (c0_0 : Nat) (l0_0 : List (zL)) (r1 : List ByteArray) (r2 : Bool) (w : World) (hr0_0 : Kd.C zXa w A0_0 l0_0.length l0_0) (hc0_0 : l0_0.length ≤ c0_0) (h : zO.f k l0_0 = some (r1, r2)) :
  Calls Tryz.prog 169 #[.agg #[.slice A0_0 l0_0.length c0_0]] w fun e w' => ∃ v0_ : Value, e = .returned (.tuple #[v0_, .bool r2]) ∧ Kd.R Kd.string 9 w' w.heap.size (fun _ => True) v0_ r1 ∧ Below w.heap.size w w' := by
 have hu26 := Tryz.underlying26
 have hu73 := Tryz.underlying73
 have HR0_0 := zb.mk hr0_0
 have HC0_0 := zb.mk hc0_0
 clear hr0_0 hc0_0
 have HB := zb.mk (Below.refl w.heap.size w)
 have H : ((impl_in.f (l0_0.length : Int) 1 481).bind fun t328 => (if t328 = true then (if 1 ≤ (l0_0.length : Int) then ((some (l0_0.drop 1 : List (zL))).bind fun y329 => (zO.l0 k (([(⟨#[]⟩ : ByteArray)] : List ByteArray)) y329 (y329.length : Int) 0)) else (none)) else (some (([] : List ByteArray), false)))) = some (r1, r2) := h
 clear h
 obtain ⟨y325, hy325⟩ : ∃ y_ : List ByteArray, y_ = (([(⟨#[]⟩ : ByteArray)] : List ByteArray)) := ⟨_, rfl⟩
 replace H : ((impl_in.f (l0_0.length : Int) 1 481).bind fun t328 => (if t328 = true then (if 1 ≤ (l0_0.length : Int) then ((some (l0_0.drop 1 : List (zL))).bind fun y329 => (zO.l0 k y325 y329 (y329.length : Int) 0)) else (none)) else (some (([] : List ByteArray), false)))) = some (r1, r2) := by first | (rw [hy325]; with_reducible exact H) | (have H2_ := (Option.bind_some _ _).symm.trans H; rw [hy325]; with_reducible exact H2_) | (have H2_ := (Option.bind_some _ _).symm.trans H; with_reducible exact H2_) | with_reducible exact H | (rw [hy325]; exact H) | exact H
 have Ny325 := zb.mk hy325
 clear hy325
 replace H := Option.bind_eq_some_iff.mp H
 obtain ⟨t328, A20, H⟩ := H
 replace H : (if t328 = true then (if 1 ≤ (l0_0.length : Int) then ((some (l0_0.drop 1 : List (zL))).bind fun y329 => (zO.l0 k y325 y329 (y329.length : Int) 0)) else (none)) else (some (([] : List ByteArray), false))) = some (r1, r2) := H
 have A2 := zb.mk A20
 clear A20
 by_cases c3 : t328 = true
 ·subst c3
  have H1 : (if 1 ≤ (l0_0.length : Int) then ((some (l0_0.drop 1 : List (zL))).bind fun y329 => (zO.l0 k y325 y329 (y329.length : Int) 0)) else (none)) = some (r1, r2) := by rw [if_pos rfl] at H; exact H
  clear H
  have H := H1
  clear H1
  by_cases c4 : 1 ≤ (l0_0.length : Int)
  ·rw [if_pos c4] at H
   have c4b0 := eq_true c4
   have c4b1 : decide (1 ≤ (l0_0.length : Int)) = true := decide_eq_true c4
   clear c4
   obtain ⟨y329, hy329⟩ : ∃ y_ : List (zL), y_ = (l0_0.drop 1) := ⟨_, rfl⟩
   replace H : (zO.l0 k y325 y329 (y329.length : Int) 0) = some (r1, r2) := by first | (rw [hy329]; with_reducible exact H) | (have H2_ := (Option.bind_some _ _).symm.trans H; rw [hy329]; with_reducible exact H2_) | (have H2_ := (Option.bind_some _ _).symm.trans H; with_reducible exact H2_) | with_reducible exact H | (rw [hy329]; exact H) | exact H
   have Ny329 := zb.mk hy329
   clear hy329
   have H' := zb.mk H
   clear H
   go_enter Tryz.func169, Tryz.ntmps169
   go_wp2_with (first | ((with_reducible refine zoa (N := 1) rfl ?_); refine zEa ?hg (N := 1) ?hd (cs := #[.slice A0_0 l0_0.length c0_0]) (t := 26) ?hr ?_; (case hd => rfl); (case hg => rfl); (case hr => first | (go_simp; done) | (go_simp; rfl)); intro gb324 hg w5 hbox hb; have n0_ := zb.mk (zw (by repeat (first | (with_reducible first | exact HB.out | apply zg | apply ze | apply zf) | exact HB.out)) hb); have n1_ := zb.mk (hbox); have n2_ := zb.mk ((by rw [hg]; exact (zt (by repeat (first | (with_reducible first | exact HB.out | apply zg | apply ze | apply zf) | exact HB.out))) : w.heap.size ≤ gb324)); have n3_ := zb.mk ((by rw [hg]; exact (zt (by repeat (first | (with_reducible first | exact HB.out | apply zg | apply ze | apply zf) | exact HB.out))) : w.heap.size ≤ gb324)); clear HB; have HB := n0_; have BK324 := n1_; have GW324 := n2_; have GE324 := n3_; clear n0_ n1_ n2_ n3_; clear hb hbox hg) | ((with_reducible refine zoa (N := 7) rfl ?_); refine Kd.R_lit Kd.string _ 9 ?hg (N := 7) ?hd (xs := ([(⟨#[]⟩ : ByteArray)] : List ByteArray)) (inner := [.string (⟨#[]⟩ : ByteArray)]) (ok := fun _ => True) (okp := fun _ => True) ?hr ?hp (fun _ hk => hk) trivial (Below.refl _ _) (Nat.le_refl _) (by simp) ?_; (case hd => rfl); (case hg => rfl); (case hr => first | (go_simp; done) | (go_simp; rfl)); (case hp => exact (Reps.one (show Kd.M Kd.string _ _ _ (⟨#[]⟩ : ByteArray) [.string (⟨#[]⟩ : ByteArray)] from rfl) (Reps.none _ _))); intro v326 w6 ho7 hb hg_ hnew_; clear hg_ hnew_; (first | rw [← Ny325.out] at ho7 | (simp only [Int.reduceToNat] at ho7; rw [← Ny325.out] at ho7)); have n0_ := zb.mk (Kd.zua ho7 (zt (by repeat (first | (with_reducible first | exact HB.out | apply zg | apply ze | apply zf | refine zh ?_ GE324.out) | exact HB.out)))); have n1_ := zb.mk (zG (g := gb324) (o := .cells #[.slice A0_0 l0_0.length c0_0] 26 (0, 0)) (by (with_reducible repeat (first | refine zk ?_ _ | refine zm ?_ | refine zi ?_ _)); exact BK324.out) hb); have n2_ := zb.mk (zw (by repeat (first | (with_reducible first | exact HB.out | apply zg | apply ze | apply zf | refine zh ?_ GE324.out) | exact HB.out)) hb); clear BK324; clear HB; have HO327 := n0_; have BK324 := n1_; have HB := n2_; clear n0_ n1_ n2_; clear hb ho7; have hcz8_0 : w6.cell? ⟨gb324, 0, none⟩ = some (.slice A0_0 l0_0.length c0_0) := (zD BK324.out 0).trans rfl; have hfz8_0 := zz BK324.out 0) | ((with_reducible refine zH (f := 134) rfl ?_); refine zra (some 11) rfl rfl Tryz.func134 (by kernel_rfl) rfl #[.int .i64 (l0_0.length : Int), .int .i64 1, .int .i64 481] rfl (by (try simp only [List.map_toArray, List.map_cons, List.map_nil]); first | done | rfl | (simp only [List.length_drop, List.length_take]; rfl)) ?_; (with_reducible refine (impl_in.calls (l0_0.length : Int) 1 481 true _ A2.out).mono ?_); rintro e w' ⟨rfl, ⟨nd, rfl⟩⟩; refine ⟨_, rfl, ?_⟩; have q9 : (1 : Int) ≤ ((l0_0.length : Int) : Int) := of_decide_eq_true (by first | (with_reducible assumption) | assumption); obtain ⟨i09, hi09, _, hsz9, _⟩ := info_parts info73; have hroom9 : l0_0.length ≤ c0_0 := HC0_0.out; have hC9 : Kd.C zXa _ A0_0 l0_0.length l0_0 := HR0_0.out; have hcut9 := cut_from (P := Tryz.prog) 24 73 .i64 Tryz.underlying24 hi09 3 hsz9 A0_0 l0_0.length c0_0 1 (by omega) q9; have hr9 := Kd.C_drop (m := (1 : Int).toNat) (c := c0_0) hC9 (by omega) hroom9; obtain ⟨A9, hA9⟩ : ∃ A1, A1 = (if c0_0 = (1 : Int).toNat then A0_0 else (A0_0 : Option Addr).map (·.add ((1 : Int).toNat * 3))) := ⟨_, rfl⟩; obtain ⟨c9, hc9⟩ : ∃ c1, c1 = c0_0 - (1 : Int).toNat := ⟨_, rfl⟩; have hy9 : y329.length = l0_0.length - (1 : Int).toNat := (by rw [Ny329.out, List.length_drop] <;> omega); rw [show (l0_0).drop (1 : Int).toNat = y329 from Ny329.out.symm] at hr9; replace hr9 : Kd.C zXa _ A9 y329.length y329 := (by rw [hA9]; exact hr9); rw [← hy9, ← hA9, ← hc9] at hcut9; have HR332 := zb.mk hr9; have HC332 := zb.mk (show y329.length ≤ c9 from by rw [hy9, hc9]; exact Nat.sub_le_sub_right hroom9 _); clear hr9 hC9 hroom9 hi09 hsz9 hc9; have KY9 := zb.mk hy9; have KA9 := zb.mk hA9; clear hy9 hA9; replace q9 := eq_true q9))
   go_loopg [4, 17] k (fun kq v4 v17 w' => ∃ (x4_1 : List ByteArray) (x17_1 : Int), v17 = .int .i64 x17_1 ∧ zb (zO.l0 kq x4_1 y329 (y329.length : Int) x17_1 = some (r1, r2)) ∧ zb (kq ≤ k) ∧ zb (Kd.R Kd.string 9 w' w.heap.size (fun _ => True) v4 x4_1) ∧ zb (w'.heap[gb324]? = some (.cells #[(.slice A0_0 l0_0.length c0_0)] 26 (0, 0))) ∧ zb (Below w.heap.size w w'))
   case atStart => exact ⟨(y325), (0), (by first | rfl | (simp; done) | (simp [*]; done)), H', ⟨Nat.le_refl _⟩, ⟨by (with_reducible repeat (first | apply Kd.zo | apply Kd.zq | apply Kd.zA)); exact HO327.out⟩, ⟨by (with_reducible repeat (first | refine zk ?_ _ | refine zm ?_ | refine zi ?_ _)); exact BK324.out⟩, ⟨by repeat (first | (with_reducible first | exact HB.out | apply zg | apply ze | apply zf | refine zh ?_ GE324.out) | exact HB.out)⟩⟩
   case round =>
    clear H'
    try clear c1
    try clear p2
    try clear c3
    try clear c4
    try clear c4b0
    try clear c4b1
    try clear c9
    try clear q9
    try clear hcz8_0
    try clear hfz8_0
    try clear q9
    obtain ⟨x4_1, x17_1, rfl, HA, HK1, HO_4, BK324, HB⟩ := hrel
    cases gk with
    | zero => exact absurd HA.out (by simp [zO.l0])
    | succ k1 =>
     have H := HA.out
     clear HA
     simp only [zO.l0] at H
     by_cases c10 : x17_1 < (y329.length : Int)
     ·rw [if_pos c10] at H
      have c10b0 : decide (x17_1 < (y329.length : Int)) = true := decide_eq_true c10
      clear c10
      by_cases c11 : 0 ≤ x17_1
      ·rw [if_pos c11] at H
       have c11b0 : decide (0 ≤ x17_1) = true := decide_eq_true c11
       clear c11
       by_cases c12 : x17_1 < (y329.length : Int)
       ·rw [if_pos c12] at H
        have c12b0 : decide (x17_1 < (y329.length : Int)) = true := decide_eq_true c12
        clear c12
        replace H := Option.bind_eq_some_iff.mp H
        obtain ⟨t335, A130, H⟩ := H
        replace H : (if t335 = true then ((impl_in.f ((zl y329 x17_1).f0) 0 25).bind fun t336 => (if t336 = true then (if 0 ≤ ((zl y329 x17_1).f1) then (if ((zl y329 x17_1).f1) < (x4_1.length : Int) then ((impl_letter.f ((zl y329 x17_1).f0)).bind fun t338 => (if (rdOf ByteArray.empty x4_1 ((zl y329 x17_1).f1)).size + t338.size ≤ 9223372036854775807 then (if x4_1.length < 8796093022208 then (zO.l0 k1 (x4_1 ++ [(rdOf ByteArray.empty x4_1 ((zl y329 x17_1).f1)) ++ t338]) y329 (y329.length : Int) (wrap64 (x17_1 + 1))) else (none)) else (none))) else (none)) else (none)) else (some (([] : List ByteArray), false)))) else (some (([] : List ByteArray), false))) = some (r1, r2) := H
        have A13 := zb.mk A130
        clear A130
        by_cases c14 : t335 = true
        ·subst c14
         have H1 : ((impl_in.f ((zl y329 x17_1).f0) 0 25).bind fun t336 => (if t336 = true then (if 0 ≤ ((zl y329 x17_1).f1) then (if ((zl y329 x17_1).f1) < (x4_1.length : Int) then ((impl_letter.f ((zl y329 x17_1).f0)).bind fun t338 => (if (rdOf ByteArray.empty x4_1 ((zl y329 x17_1).f1)).size + t338.size ≤ 9223372036854775807 then (if x4_1.length < 8796093022208 then (zO.l0 k1 (x4_1 ++ [(rdOf ByteArray.empty x4_1 ((zl y329 x17_1).f1)) ++ t338]) y329 (y329.length : Int) (wrap64 (x17_1 + 1))) else (none)) else (none))) else (none)) else (none)) else (some (([] : List ByteArray), false)))) = some (r1, r2) := by rw [if_pos rfl] at H; exact H
         clear H
         have H := H1
         clear H1
         replace H := Option.bind_eq_some_iff.mp H
         obtain ⟨t336, A150, H⟩ := H
         replace H : (if t336 = true then (if 0 ≤ ((zl y329 x17_1).f1) then (if ((zl y329 x17_1).f1) < (x4_1.length : Int) then ((impl_letter.f ((zl y329 x17_1).f0)).bind fun t338 => (if (rdOf ByteArray.empty x4_1 ((zl y329 x17_1).f1)).size + t338.size ≤ 9223372036854775807 then (if x4_1.length < 8796093022208 then (zO.l0 k1 (x4_1 ++ [(rdOf ByteArray.empty x4_1 ((zl y329 x17_1).f1)) ++ t338]) y329 (y329.length : Int) (wrap64 (x17_1 + 1))) else (none)) else (none))) else (none)) else (none)) else (some (([] : List ByteArray), false))) = some (r1, r2) := H
         have A15 := zb.mk A150
         clear A150
         by_cases c16 : t336 = true
         ·subst c16
          have H1 : (if 0 ≤ ((zl y329 x17_1).f1) then (if ((zl y329 x17_1).f1) < (x4_1.length : Int) then ((impl_letter.f ((zl y329 x17_1).f0)).bind fun t338 => (if (rdOf ByteArray.empty x4_1 ((zl y329 x17_1).f1)).size + t338.size ≤ 9223372036854775807 then (if x4_1.length < 8796093022208 then (zO.l0 k1 (x4_1 ++ [(rdOf ByteArray.empty x4_1 ((zl y329 x17_1).f1)) ++ t338]) y329 (y329.length : Int) (wrap64 (x17_1 + 1))) else (none)) else (none))) else (none)) else (none)) = some (r1, r2) := by rw [if_pos rfl] at H; exact H
          clear H
          have H := H1
          clear H1
          by_cases c17 : 0 ≤ ((zl y329 x17_1).f1)
          ·rw [if_pos c17] at H
           have c17b0 : decide (0 ≤ ((zl y329 x17_1).f1)) = true := decide_eq_true c17
           clear c17
           by_cases c18 : ((zl y329 x17_1).f1) < (x4_1.length : Int)
           ·rw [if_pos c18] at H
            have c18b0 : decide (((zl y329 x17_1).f1) < (x4_1.length : Int)) = true := decide_eq_true c18
            clear c18
            replace H := Option.bind_eq_some_iff.mp H
            obtain ⟨t338, A190, H⟩ := H
            replace H : (if (rdOf ByteArray.empty x4_1 ((zl y329 x17_1).f1)).size + t338.size ≤ 9223372036854775807 then (if x4_1.length < 8796093022208 then (zO.l0 k1 (x4_1 ++ [(rdOf ByteArray.empty x4_1 ((zl y329 x17_1).f1)) ++ t338]) y329 (y329.length : Int) (wrap64 (x17_1 + 1))) else (none)) else (none)) = some (r1, r2) := H
            have A19 := zb.mk A190
            clear A190
            by_cases c20 : (rdOf ByteArray.empty x4_1 ((zl y329 x17_1).f1)).size + t338.size ≤ 9223372036854775807
            ·rw [if_pos c20] at H
             have c20b0 := eq_true c20
             have c20b1 : decide ((rdOf ByteArray.empty x4_1 ((zl y329 x17_1).f1)).size + t338.size ≤ 9223372036854775807) = true := decide_eq_true c20
             try have c20b2 : (9223372036854775807 < (rdOf ByteArray.empty x4_1 ((zl y329 x17_1).f1)).size + t338.size) = False := eq_false (Nat.not_lt.2 c20)
             by_cases c21 : x4_1.length < 8796093022208
             ·rw [if_pos c21] at H
              have LMc21 := zb.mk c21
              clear c21
              obtain ⟨y339, hy339⟩ : ∃ y_ : List ByteArray, y_ = (x4_1 ++ [(rdOf ByteArray.empty x4_1 ((zl y329 x17_1).f1)) ++ t338]) := ⟨_, rfl⟩
              replace H : (zO.l0 k1 y339 y329 (y329.length : Int) (wrap64 (x17_1 + 1))) = some (r1, r2) := by first | (rw [hy339]; with_reducible exact H) | (have H2_ := (Option.bind_some _ _).symm.trans H; rw [hy339]; with_reducible exact H2_) | (have H2_ := (Option.bind_some _ _).symm.trans H; with_reducible exact H2_) | with_reducible exact H | (rw [hy339]; exact H) | exact H
              have Ny339 := zb.mk hy339
              clear hy339
              have H' := zb.mk H
              clear H
              have p333 : 0 ≤ (x17_1 : Int) := of_decide_eq_true (by first | (with_reducible assumption) | assumption)
              have q333 : x17_1 < (y329.length : Int) := of_decide_eq_true (by first | (with_reducible assumption) | assumption)
              obtain ⟨ad333, e333, hx333_0, hx333_1, hx333_2⟩ := at_T_Node HR332.out x17_1 p333 q333
              cases e333
              replace hx333_0 := (HB.out.cell (World.block_lt_of_cell? w _ hx333_0)).trans hx333_0
              replace hx333_1 := (HB.out.cell (World.block_lt_of_cell? w _ hx333_1)).trans hx333_1
              replace hx333_2 := (HB.out.cell (World.block_lt_of_cell? w _ hx333_2)).trans hx333_2
              replace p333 := eq_true p333
              replace q333 := eq_true q333
              try go_wp2_with (first | ((with_reducible refine zoa (N := 6) rfl ?_); refine zEa ?hg (N := 6) ?hd (cs := #[.int .i64 0, .int .i64 0, .bool false]) (t := 73) ?hr ?_; (case hd => rfl); (case hg => rfl); (case hr => first | (go_simp; done) | (go_simp; rfl)); intro gb334 hg w22 hbox hb; have n0_ := zb.mk (Kd.zta (by (with_reducible repeat (first | apply Kd.zo | apply Kd.zq | apply Kd.zA)); exact HO_4.out) hb); have n1_ := zb.mk (zG (g := gb324) (o := .cells #[.slice A0_0 l0_0.length c0_0] 26 (0, 0)) (by (with_reducible repeat (first | refine zk ?_ _ | refine zm ?_ | refine zi ?_ _)); exact BK324.out) hb); have n2_ := zb.mk (zw (by repeat (first | (with_reducible first | exact HB.out | apply zg | apply ze | apply zf | refine zh ?_ GE324.out) | exact HB.out)) hb); have n3_ := zb.mk (hbox); have n4_ := zb.mk ((by rw [hg]; exact (zt (by repeat (first | (with_reducible first | exact HB.out | apply zg | apply ze | apply zf | refine zh ?_ GE324.out) | exact HB.out))) : w.heap.size ≤ gb334)); have n5_ := zb.mk ((by rw [hg]; exact (zt (by repeat (first | (with_reducible first | exact HB.out | apply zg | apply ze | apply zf | refine zh ?_ GE324.out) | exact HB.out))) : w.heap.size ≤ gb334)); have n6_ := zb.mk ((by rw [hg]; exact Nat.ne_of_lt (blk_lt (g := gb324) (o := .cells #[.slice A0_0 l0_0.length c0_0] 26 (0, 0)) (by (with_reducible repeat (first | refine zk ?_ _ | refine zm ?_ | refine zi ?_ _)); exact BK324.out)) : gb324 ≠ gb334)); have n7_ := zb.mk ((by rw [hg]; exact Nat.ne_of_gt (blk_lt (g := gb324) (o := .cells #[.slice A0_0 l0_0.length c0_0] 26 (0, 0)) (by (with_reducible repeat (first | refine zk ?_ _ | refine zm ?_ | refine zi ?_ _)); exact BK324.out)) : gb334 ≠ gb324)); clear HO_4; clear BK324; clear HB; have HO_4 := n0_; have BK324 := n1_; have HB := n2_; have BK334 := n3_; have GW334 := n4_; have GE334 := n5_; have NB324_334 := n6_; have NB334_324 := n7_; clear n0_ n1_ n2_ n3_ n4_ n5_ n6_ n7_; clear hb hbox hg; have hnb23 := NB334_324.out; have hnc23 := NB324_334.out; have hcz24_0 : w22.cell? ⟨gb334, 0, none⟩ = some (.int .i64 0) := (zD BK334.out 0).trans rfl; have hcz24_1 : w22.cell? ⟨gb334, 1, none⟩ = some (.int .i64 0) := (zD BK334.out 1).trans rfl; have hcz24_2 : w22.cell? ⟨gb334, 2, none⟩ = some (.bool false) := (zD BK334.out 2).trans rfl; have hfz24_0 := zz BK334.out 0; have hfz24_1 := zz BK334.out 1; have hfz24_2 := zz BK334.out 2) | ((with_reducible refine zH (f := 134) rfl ?_); refine zra (some 25) rfl rfl Tryz.func134 (by kernel_rfl) rfl #[.int .i64 ((zl y329 x17_1).f1), .int .i64 0, .int .i64 x17_1] rfl (by (try simp only [List.map_toArray, List.map_cons, List.map_nil]); first | done | rfl | (simp only [List.length_drop, List.length_take]; rfl)) ?_; (with_reducible refine (impl_in.calls ((zl y329 x17_1).f1) 0 x17_1 true _ A13.out).mono ?_); rintro e w' ⟨rfl, ⟨nd, rfl⟩⟩; refine ⟨_, rfl, ?_⟩) | (go_at_call 134; (with_reducible refine (impl_in.calls ((zl y329 x17_1).f0) 0 25 true _ A15.out).mono ?_); rintro e w' ⟨rfl, ⟨nd, rfl⟩⟩))
              have n0_ : zb (Kd.R Kd.string 9 (((w22.setCell ⟨gb334, 0, none⟩ (.int .i64 ((zl y329 x17_1).f0))).setCell ⟨gb334, 1, none⟩ (.int .i64 ((zl y329 x17_1).f1))).setCell ⟨gb334, 2, none⟩ (.bool ((zl y329 x17_1).f2))) w.heap.size (fun _ => True) u4 x4_1) := ⟨by (with_reducible repeat (first | apply Kd.zo | apply Kd.zq | apply Kd.zA)); exact Kd.zZ (Kd.R_far (p := ⟨gb334, 2, none⟩) (Kd.R_far (p := ⟨gb334, 1, none⟩) (Kd.R_far (p := ⟨gb334, 0, none⟩) (Kd.zUa HO_4.out BK334.out (by decide)) (fun _ hk => hk.2) (.int .i64 ((zl y329 x17_1).f0))) (fun _ hk => hk.2) (.int .i64 ((zl y329 x17_1).f1))) (fun _ hk => hk.2) (.bool ((zl y329 x17_1).f2))) (fun _ hk => trivial)⟩
              have n1_ : zb ((((w22.setCell ⟨gb334, 0, none⟩ (.int .i64 ((zl y329 x17_1).f0))).setCell ⟨gb334, 1, none⟩ (.int .i64 ((zl y329 x17_1).f1))).setCell ⟨gb334, 2, none⟩ (.bool ((zl y329 x17_1).f2))).heap[gb324]? = some (.cells #[.slice A0_0 l0_0.length c0_0] 26 (0, 0))) := ⟨by (with_reducible repeat (first | refine zk ?_ _ | refine zm ?_ | refine zi ?_ _)); refine blk_far ?_ NB324_334.out _; (with_reducible repeat (first | refine zk ?_ _ | refine zm ?_ | refine zi ?_ _)); refine blk_far ?_ NB324_334.out _; (with_reducible repeat (first | refine zk ?_ _ | refine zm ?_ | refine zi ?_ _)); refine blk_far ?_ NB324_334.out _; (with_reducible repeat (first | refine zk ?_ _ | refine zm ?_ | refine zi ?_ _)); exact BK324.out⟩
              have n2_ : zb ((((w22.setCell ⟨gb334, 0, none⟩ (.int .i64 ((zl y329 x17_1).f0))).setCell ⟨gb334, 1, none⟩ (.int .i64 ((zl y329 x17_1).f1))).setCell ⟨gb334, 2, none⟩ (.bool ((zl y329 x17_1).f2))).heap[gb334]? = some (.cells #[.int .i64 ((zl y329 x17_1).f0), .int .i64 ((zl y329 x17_1).f1), .bool ((zl y329 x17_1).f2)] 73 (0, 0))) := ⟨by (with_reducible repeat (first | refine zk ?_ _ | refine zm ?_ | refine zi ?_ _)); refine blk_put (cs := #[.int .i64 ((zl y329 x17_1).f0), .int .i64 ((zl y329 x17_1).f1), .bool false]) ?_ 2 _ rfl; (with_reducible repeat (first | refine zk ?_ _ | refine zm ?_ | refine zi ?_ _)); refine blk_put (cs := #[.int .i64 ((zl y329 x17_1).f0), .int .i64 0, .bool false]) ?_ 1 _ rfl; (with_reducible repeat (first | refine zk ?_ _ | refine zm ?_ | refine zi ?_ _)); refine blk_put (cs := #[.int .i64 0, .int .i64 0, .bool false]) ?_ 0 _ rfl; (with_reducible repeat (first | refine zk ?_ _ | refine zm ?_ | refine zi ?_ _)); exact BK334.out⟩
              have n3_ : zb (Below w.heap.size w (((w22.setCell ⟨gb334, 0, none⟩ (.int .i64 ((zl y329 x17_1).f0))).setCell ⟨gb334, 1, none⟩ (.int .i64 ((zl y329 x17_1).f1))).setCell ⟨gb334, 2, none⟩ (.bool ((zl y329 x17_1).f2)))) := ⟨by repeat (first | (with_reducible first | exact HB.out | apply zg | apply ze | apply zf | refine zh ?_ GE324.out | refine zh ?_ GE334.out) | exact HB.out)⟩
              (try clear HO_4)
              (try clear BK324)
              (try clear BK334)
              (try clear HB)
              generalize (((w22.setCell ⟨gb334, 0, none⟩ (.int .i64 ((zl y329 x17_1).f0))).setCell ⟨gb334, 1, none⟩ (.int .i64 ((zl y329 x17_1).f1))).setCell ⟨gb334, 2, none⟩ (.bool ((zl y329 x17_1).f2))) = w25 at n0_ n1_ n2_ n3_ ⊢
              have HO_4 := n0_
              have BK324 := n1_
              have BK334 := n2_
              have HB := n3_
              clear n0_ n1_ n2_ n3_
              (try (rw [drewN_self w25]; generalize hq_ : World.drewN w25 _ = w25; have n0_ : zb (Kd.R Kd.string 9 w25 w.heap.size (fun _ => True) u4 x4_1) := ⟨by rw [← hq_]; exact (by (with_reducible repeat (first | apply Kd.zo | apply Kd.zq | apply Kd.zA)); exact HO_4.out)⟩; have n1_ : zb (w25.heap[gb324]? = some (.cells #[.slice A0_0 l0_0.length c0_0] 26 (0, 0))) := ⟨by rw [← hq_]; exact (by (with_reducible repeat (first | refine zk ?_ _ | refine zm ?_ | refine zi ?_ _)); exact BK324.out)⟩; have n2_ : zb (w25.heap[gb334]? = some (.cells #[.int .i64 ((zl y329 x17_1).f0), .int .i64 ((zl y329 x17_1).f1), .bool ((zl y329 x17_1).f2)] 73 (0, 0))) := ⟨by rw [← hq_]; exact (by (with_reducible repeat (first | refine zk ?_ _ | refine zm ?_ | refine zi ?_ _)); exact BK334.out)⟩; have n3_ : zb (Below w.heap.size w w25) := ⟨by rw [← hq_]; exact (by repeat (first | (with_reducible first | exact HB.out | apply zg | apply ze | apply zf | refine zh ?_ GE324.out | refine zh ?_ GE334.out) | exact HB.out))⟩; clear HO_4 BK324 BK334 HB hq_; have HO_4 := n0_; have BK324 := n1_; have BK334 := n2_; have HB := n3_; clear n0_ n1_ n2_ n3_))
              have n0_ := zb.mk (Kd.zA HO_4.out)
              have n1_ := zb.mk (zm BK324.out)
              have n2_ := zb.mk (zm BK334.out)
              have n3_ := zb.mk (zf HB.out)
              clear HO_4
              clear BK324
              clear BK334
              clear HB
              have HO_4 := n0_
              have BK324 := n1_
              have BK334 := n2_
              have HB := n3_
              clear n0_ n1_ n2_ n3_
              obtain ⟨Ao27, co27, eo27⟩ := Kd.zpa HO_4.out
              (first | subst eo27 | (injection eo27 with f1_ f2_ f3_; have f4_ := f1_.symm; have f5_ := f3_.symm; clear f1_ f2_ f3_; subst f4_; subst f5_))
              have p337 : 0 ≤ (((zl y329 x17_1).f1) : Int) := of_decide_eq_true (by first | (with_reducible assumption) | assumption)
              have q337 : ((zl y329 x17_1).f1) < (x4_1.length : Int) := of_decide_eq_true (by first | (with_reducible assumption) | assumption)
              obtain ⟨ad337, e337, hx337_0⟩ := Kd.zza (Kd.zQ HO_4.out).2.2 ((zl y329 x17_1).f1) p337 q337
              cases e337
              replace p337 := eq_true p337
              replace q337 := eq_true q337
              refine start_ (n := 13) (S := fun w' => w'.cell? ⟨gb334, 0, none⟩ = some (.int .i64 ((zl y329 x17_1).f0)) ∧ w'.cell? ⟨gb334, 1, none⟩ = some (.int .i64 ((zl y329 x17_1).f1)) ∧ w'.cell? ⟨gb334, 2, none⟩ = some (.bool ((zl y329 x17_1).f2)) ∧ w'.cell? (ad337.add (((zl y329 x17_1).f1)).toNat) = some (.string (rdOf ByteArray.empty x4_1 ((zl y329 x17_1).f1)))) (ds := [10, 11]) #[false, false, false, false, false, false, false, false, false, false, false, false, false] (by kernel_rfl) rfl rfl ⟨(zD BK334.out 0).trans rfl, (zD BK334.out 1).trans rfl, (zD BK334.out 2).trans rfl, hx337_0⟩ (fun hHeld => ?_); refine with_tabW zO.tab9 zO.bits9 (fun HT_ HW_ => ?_)
              generalize w25.drew = w26 at HO_4 BK324 BK334 HB hx337_0 hHeld ⊢
              refine zib (i := 0) (N := some 33) (v := ?_) (a' := ?_) #[true, false, false, false, false, false, false, false, false, false, false, false, false] rfl rfl (zVa HT_.out (by kernel_rfl)) (fun _ _ _ h => h) (Or.inl ⟨by rfl, ?_⟩) ?_ ?_
              rotate_left
              ·intro w'
               go_simp
               with_reducible rfl
              rotate_left
              ·simp only [Act.put, List.setIfInBounds_toArray, List.set_cons_zero, List.set_cons_succ, zva]
               rfl
              refine zib (i := 1) (N := some 34) (v := ?_) (a' := ?_) #[true, true, false, false, false, false, false, false, false, false, false, false, false] rfl rfl (zVa HT_.out (by kernel_rfl)) (fun _ _ _ h => h) (Or.inl ⟨by rfl, ?_⟩) ?_ ?_
              rotate_left
              ·intro w'
               go_simp
               with_reducible rfl
              rotate_left
              ·simp only [Act.put, List.setIfInBounds_toArray, List.set_cons_zero, List.set_cons_succ, zva]
               rfl
              refine zib (i := 2) (N := some 35) (v := ?_) (a' := ?_) #[true, true, true, false, false, false, false, false, false, false, false, false, false] rfl rfl (zVa HT_.out (by kernel_rfl)) (fun _ _ _ h => h) (Or.inl ⟨by rfl, ?_⟩) ?_ ?_
              rotate_left
              ·intro w'
               go_simp
               with_reducible rfl
              rotate_left
              ·simp only [Act.put, List.setIfInBounds_toArray, List.set_cons_zero, List.set_cons_succ, zva]
               rfl
              refine zib (i := 6) (N := some 39) (v := ?_) (a' := ?_) #[true, true, true, false, false, false, true, false, false, false, false, false, false] rfl rfl (zVa HT_.out (by kernel_rfl)) (fun _ _ _ h => h) (Or.inl ⟨by rfl, ?_⟩) ?_ ?_
              rotate_left
              ·intro w'
               go_simp
               with_reducible rfl
              rotate_left
              ·simp only [Act.put, List.setIfInBounds_toArray, List.set_cons_zero, List.set_cons_succ, zva]
               rfl
              refine take_ (i := 3) (N := some 36) (v := ?_) (a' := ?_) #[true, true, true, true, false, false, true, false, false, false, false, false, false] rfl rfl (take_ofW HT_.out HW_.out (by kernel_rfl)) (fun _ _ _ h => h) (Or.inl ⟨by rfl, ?_⟩) hHeld ?_ ?_
              rotate_left
              ·rintro w' ⟨s0, s1, s2, s3⟩
               go_simp
               with_reducible rfl
              rotate_left
              ·simp only [Act.put, List.setIfInBounds_toArray, List.set_cons_zero, List.set_cons_succ, zva]
               rfl
              refine zib (i := 4) (N := some 37) (v := ?_) (a' := ?_) #[true, true, true, true, true, false, true, false, false, false, false, false, false] rfl rfl (zVa HT_.out (by kernel_rfl)) (fun _ _ _ h => h) (Or.inl ⟨by rfl, ?_⟩) ?_ ?_
              rotate_left
              ·intro w'
               go_simp
               with_reducible rfl
              rotate_left
              ·simp only [Act.put, List.setIfInBounds_toArray, List.set_cons_zero, List.set_cons_succ, zva]
               rfl
              refine take_ (i := 5) (N := some 38) (v := ?_) (a' := ?_) #[true, true, true, true, true, true, true, false, false, false, false, false, false] rfl rfl (take_ofW HT_.out HW_.out (by kernel_rfl)) (fun _ _ _ h => h) (Or.inl ⟨by rfl, ?_⟩) hHeld ?_ ?_
              rotate_left
              ·rintro w' ⟨s0, s1, s2, s3⟩
               go_simp
               with_reducible rfl
              rotate_left
              ·simp only [Act.put, List.setIfInBounds_toArray, List.set_cons_zero, List.set_cons_succ, zva]
               rfl
              refine take_ (i := 7) (N := some 40) (v := ?_) (a' := ?_) #[true, true, true, true, true, true, true, true, false, false, false, false, false] rfl rfl (take_ofW HT_.out HW_.out (by kernel_rfl)) (fun _ _ _ h => h) (Or.inl ⟨by rfl, ?_⟩) hHeld ?_ ?_
              rotate_left
              ·rintro w' ⟨s0, s1, s2, s3⟩
               go_simp
               with_reducible rfl
              rotate_left
              ·simp only [Act.put, List.setIfInBounds_toArray, List.set_cons_zero, List.set_cons_succ, zva]
               rfl
              refine one_ (i := 8) (N := some 41) #[true, true, true, true, true, true, true, true, true, false, false, false, false] rfl rfl (one_of HT_.out (by kernel_rfl)) (by decide) (fun K hK => ?_)
              refine goes_ Tryz.func157 (by kernel_rfl) rfl #[.int .i64 ((zl y329 x17_1).f0)] (by rfl) rfl rfl (by (try simp only [List.map_toArray, List.map_cons, List.map_nil]); first | done | rfl | (simp only [List.length_drop, List.length_take]; rfl)) ?_
              with_reducible refine (impl_letter.calls ((zl y329 x17_1).f0) t338 _ A19.out).mono ?_
              rintro e w28 ⟨rfl, hb⟩
              have HS3_ := (hb.cell (World.block_lt_of_cell? _ _ (hHeld.2.2.2))).trans (hHeld.2.2.2)
              refine ⟨_, rfl, ?_⟩
              have n0_ := zb.mk (Kd.zta (by (with_reducible repeat (first | apply Kd.zo | apply Kd.zq | apply Kd.zA)); exact HO_4.out) hb)
              have n1_ := zb.mk (zG (g := gb324) (o := .cells #[.slice A0_0 l0_0.length c0_0] 26 (0, 0)) (by (with_reducible repeat (first | refine zk ?_ _ | refine zm ?_ | refine zi ?_ _)); exact BK324.out) hb)
              have n2_ := zb.mk (zG (g := gb334) (o := .cells #[.int .i64 ((zl y329 x17_1).f0), .int .i64 ((zl y329 x17_1).f1), .bool ((zl y329 x17_1).f2)] 73 (0, 0)) (by (with_reducible repeat (first | refine zk ?_ _ | refine zm ?_ | refine zi ?_ _)); exact BK334.out) hb)
              have n3_ := zb.mk (zw (by repeat (first | (with_reducible first | exact HB.out | apply zg | apply ze | apply zf | refine zh ?_ GE324.out | refine zh ?_ GE334.out) | exact HB.out)) hb)
              clear HO_4
              clear BK324
              clear BK334
              clear HB
              have HO_4 := n0_
              have BK324 := n1_
              have BK334 := n2_
              have HB := n3_
              clear n0_ n1_ n2_ n3_
              (try clear hb)
              (try clear hb2)
              (try clear hk)
              (try clear hi)
              refine hK.out _ _ ⟨(zD BK334.out 0).trans rfl, (zD BK334.out 1).trans rfl, (zD BK334.out 2).trans rfl, HS3_⟩ (fun hHeld => ?_)
              clear hK K
              refine norm_ (a' := ?_) ?_ ?_
              rotate_left
              ·show Act.put _ (some 41) _ = _
               simp only [Act.put, List.setIfInBounds_toArray, List.set_cons_zero, List.set_cons_succ, zva]
               rfl
              refine zib (i := 9) (N := some 42) (v := ?_) (a' := ?_) #[true, true, true, true, true, true, true, true, true, true, false, false, false] rfl rfl (zVa HT_.out (by kernel_rfl)) (fun _ _ _ h => h) (Or.inl ⟨by rfl, ?_⟩) ?_ ?_
              rotate_left
              ·intro w'
               go_simp
               with_reducible rfl
              rotate_left
              ·simp only [Act.put, List.setIfInBounds_toArray, List.set_cons_zero, List.set_cons_succ, zva]
               rfl
              refine last_ (i := 10) (N := some 43) #[true, true, true, true, true, true, true, true, true, true, true, false, false] rfl rfl (one_of HT_.out (by kernel_rfl)) (by decide) (fun K hK => ?_)
              refine value_ (w1 := ?_) (v := ?_) (by rfl) rfl ?_ ?_
              rotate_left 2
              ·go_simp
               constructor
               ·rfl
               ·rfl
              refine hK.out _ _ ?_
              clear hK K
              refine norm_ (a' := ?_) ?_ ?_
              rotate_left
              ·show Act.put _ (some 43) _ = _
               simp only [Act.put, List.setIfInBounds_toArray, List.set_cons_zero, List.set_cons_succ, zva]
               rfl
              refine last_ (i := 11) (N := some 44) #[true, true, true, true, true, true, true, true, true, true, true, true, false] rfl rfl (one_of HT_.out (by kernel_rfl)) (by decide) (fun K hK => ?_)
              refine Kd.R_append_step Kd.string (w0 := w) w.heap.size (by rfl) (.tmp 33) (.tmp 43) 31 9 (.string ⟨#[]⟩) 16 rfl Tryz.underlying31 info9 rfl (by decide) (by omega) (.slice (some ad337) x4_1.length co27) x4_1 ((rdOf ByteArray.empty x4_1 ((zl y329 x17_1).f1)) ++ t338) [.string ((rdOf ByteArray.empty x4_1 ((zl y329 x17_1).f1)) ++ t338)] (fun _ => True) (fun _ => False) rfl rfl ?aP (fun _ hk => hk.elim) ?aF ?aO ?aB ?aS ?aL ?_
              (case aP => exact rfl)
              (case aB => exact (by repeat (first | (with_reducible first | exact HB.out | apply zg | apply ze | apply zf | refine zh ?_ GE324.out | refine zh ?_ GE334.out) | exact HB.out)))
              (case aF => exact (fun _ _ => trivial))
              (case aO => exact (by (with_reducible repeat (first | apply Kd.zo | apply Kd.zq | apply Kd.zA)); exact HO_4.out))
              (case aS => exact (zt (by repeat (first | (with_reducible first | exact HB.out | apply zg | apply ze | apply zf | refine zh ?_ GE324.out | refine zh ?_ GE334.out) | exact HB.out))))
              (case aL => have := LMc21.out; omega)
              intro v340 w29 ho hb hg hat
              rw [← Ny339.out] at ho
              have n0_ := zb.mk (blk_grown (g := gb324) (o := .cells #[.slice A0_0 l0_0.length c0_0] 26 (0, 0)) (by (with_reducible repeat (first | refine zk ?_ _ | refine zm ?_ | refine zi ?_ _)); exact BK324.out) hg (Kd.R_ne HO_4.out BK324.out (by decide)))
              have n1_ := zb.mk (blk_grown (g := gb334) (o := .cells #[.int .i64 ((zl y329 x17_1).f0), .int .i64 ((zl y329 x17_1).f1), .bool ((zl y329 x17_1).f2)] 73 (0, 0)) (by (with_reducible repeat (first | refine zk ?_ _ | refine zm ?_ | refine zi ?_ _)); exact BK334.out) hg (Kd.R_ne HO_4.out BK334.out (by decide)))
              have n2_ := zb.mk (hb)
              have n3_ := zb.mk (ho)
              clear BK324
              clear BK334
              clear HB
              clear HO_4
              have BK324 := n0_
              have BK334 := n1_
              have HB := n2_
              have HO341 := n3_
              clear n0_ n1_ n2_ n3_
              clear ho hb hg hat
              refine hK.out _ _ ?_
              clear hK K
              refine norm_ (a' := ?_) ?_ ?_
              rotate_left
              ·show Act.put _ (some 44) _ = _
               simp only [Act.put, List.setIfInBounds_toArray, List.set_cons_zero, List.set_cons_succ, zva]
               rfl
              refine zib (i := 12) (N := some 4) (v := ?_) (a' := ?_) #[true, true, true, true, true, true, true, true, true, true, true, true, true] rfl rfl (zVa HT_.out (by kernel_rfl)) (fun _ _ _ h => h) (Or.inl ⟨by rfl, ?_⟩) ?_ ?_
              rotate_left
              ·intro w'
               go_simp
               with_reducible rfl
              rotate_left
              ·simp only [Act.put, List.setIfInBounds_toArray, List.set_cons_zero, List.set_cons_succ, zva]
               rfl
              refine done_ (done_of HT_.out (by kernel_rfl)) ?_
              try go_wp2
              go_roundg k1
              case measure => have := HK1.out; omega
              case rel => exact ⟨(y339), (wrap64 (x17_1 + 1)), (by first | rfl | (simp; done) | (simp [*]; done)), H', ⟨by have := HK1.out; omega⟩, ⟨by (with_reducible repeat (first | apply Kd.zo | apply Kd.zq | apply Kd.zA)); exact HO341.out⟩, ⟨by (with_reducible repeat (first | refine zk ?_ _ | refine zm ?_ | refine zi ?_ _)); exact BK324.out⟩, ⟨by repeat (first | (with_reducible first | exact HB.out | apply zg | apply ze | apply zf | refine zh ?_ GE324.out | refine zh ?_ GE334.out) | exact HB.out)⟩⟩
             ·rw [if_neg c21] at H
              exact absurd H (by simp)
            ·rw [if_neg c20] at H
             exact absurd H (by simp)
           ·rw [if_neg c18] at H
            exact absurd H (by simp)
          ·rw [if_neg c17] at H
           exact absurd H (by simp)
         ·replace c16 := Bool.eq_false_iff.mpr c16
          subst c16
          have H1 : (some (([] : List ByteArray), false)) = some (r1, r2) := by rw [if_neg (show ¬ (false = true) by decide)] at H; exact H
          clear H
          have H := H1
          clear H1
          simp only [Option.some.injEq, Prod.mk.injEq] at H
          obtain ⟨rfl, rfl⟩ := H
          have p333 : 0 ≤ (x17_1 : Int) := of_decide_eq_true (by first | (with_reducible assumption) | assumption)
          have q333 : x17_1 < (y329.length : Int) := of_decide_eq_true (by first | (with_reducible assumption) | assumption)
          obtain ⟨ad333, e333, hx333_0, hx333_1, hx333_2⟩ := at_T_Node HR332.out x17_1 p333 q333
          cases e333
          replace hx333_0 := (HB.out.cell (World.block_lt_of_cell? w _ hx333_0)).trans hx333_0
          replace hx333_1 := (HB.out.cell (World.block_lt_of_cell? w _ hx333_1)).trans hx333_1
          replace hx333_2 := (HB.out.cell (World.block_lt_of_cell? w _ hx333_2)).trans hx333_2
          replace p333 := eq_true p333
          replace q333 := eq_true q333
          go_wp2_with (first | ((with_reducible refine zoa (N := 6) rfl ?_); refine zEa ?hg (N := 6) ?hd (cs := #[.int .i64 0, .int .i64 0, .bool false]) (t := 73) ?hr ?_; (case hd => rfl); (case hg => rfl); (case hr => first | (go_simp; done) | (go_simp; rfl)); intro gb334 hg w30 hbox hb; have n0_ := zb.mk (Kd.zta (by (with_reducible repeat (first | apply Kd.zo | apply Kd.zq | apply Kd.zA)); exact HO_4.out) hb); have n1_ := zb.mk (zG (g := gb324) (o := .cells #[.slice A0_0 l0_0.length c0_0] 26 (0, 0)) (by (with_reducible repeat (first | refine zk ?_ _ | refine zm ?_ | refine zi ?_ _)); exact BK324.out) hb); have n2_ := zb.mk (zw (by repeat (first | (with_reducible first | exact HB.out | apply zg | apply ze | apply zf | refine zh ?_ GE324.out) | exact HB.out)) hb); have n3_ := zb.mk (hbox); have n4_ := zb.mk ((by rw [hg]; exact (zt (by repeat (first | (with_reducible first | exact HB.out | apply zg | apply ze | apply zf | refine zh ?_ GE324.out) | exact HB.out))) : w.heap.size ≤ gb334)); have n5_ := zb.mk ((by rw [hg]; exact (zt (by repeat (first | (with_reducible first | exact HB.out | apply zg | apply ze | apply zf | refine zh ?_ GE324.out) | exact HB.out))) : w.heap.size ≤ gb334)); have n6_ := zb.mk ((by rw [hg]; exact Nat.ne_of_lt (blk_lt (g := gb324) (o := .cells #[.slice A0_0 l0_0.length c0_0] 26 (0, 0)) (by (with_reducible repeat (first | refine zk ?_ _ | refine zm ?_ | refine zi ?_ _)); exact BK324.out)) : gb324 ≠ gb334)); have n7_ := zb.mk ((by rw [hg]; exact Nat.ne_of_gt (blk_lt (g := gb324) (o := .cells #[.slice A0_0 l0_0.length c0_0] 26 (0, 0)) (by (with_reducible repeat (first | refine zk ?_ _ | refine zm ?_ | refine zi ?_ _)); exact BK324.out)) : gb334 ≠ gb324)); clear HO_4; clear BK324; clear HB; have HO_4 := n0_; have BK324 := n1_; have HB := n2_; have BK334 := n3_; have GW334 := n4_; have GE334 := n5_; have NB324_334 := n6_; have NB334_324 := n7_; clear n0_ n1_ n2_ n3_ n4_ n5_ n6_ n7_; clear hb hbox hg; have hnb31 := NB334_324.out; have hnc31 := NB324_334.out; have hcz32_0 : w30.cell? ⟨gb334, 0, none⟩ = some (.int .i64 0) := (zD BK334.out 0).trans rfl; have hcz32_1 : w30.cell? ⟨gb334, 1, none⟩ = some (.int .i64 0) := (zD BK334.out 1).trans rfl; have hcz32_2 : w30.cell? ⟨gb334, 2, none⟩ = some (.bool false) := (zD BK334.out 2).trans rfl; have hfz32_0 := zz BK334.out 0; have hfz32_1 := zz BK334.out 1; have hfz32_2 := zz BK334.out 2) | ((with_reducible refine zH (f := 134) rfl ?_); refine zra (some 25) rfl rfl Tryz.func134 (by kernel_rfl) rfl #[.int .i64 ((zl y329 x17_1).f1), .int .i64 0, .int .i64 x17_1] rfl (by (try simp only [List.map_toArray, List.map_cons, List.map_nil]); first | done | rfl | (simp only [List.length_drop, List.length_take]; rfl)) ?_; (with_reducible refine (impl_in.calls ((zl y329 x17_1).f1) 0 x17_1 true _ A13.out).mono ?_); rintro e w' ⟨rfl, ⟨nd, rfl⟩⟩; refine ⟨_, rfl, ?_⟩) | (go_at_call 134; (with_reducible refine (impl_in.calls ((zl y329 x17_1).f0) 0 25 false _ A15.out).mono ?_); rintro e w' ⟨rfl, ⟨nd, rfl⟩⟩))
          go_ret2
          exact ⟨_, by first | rfl | (simp [zC, zB] <;> rfl) | (simp [*, zC, zB] <;> rfl), by first | exact Kd.R_nil _ _ _ _ _ | exact Kd.N_nil _ _ _ _ _ | exact Kd.V_nil _ _ _ _ _ | exact Kd.Q_nil _ _ _ _ _ | exact Kd.S_nil _ _ _ _ _, by repeat (first | (with_reducible first | exact HB.out | apply zg | apply ze | apply zf | refine zh ?_ GE324.out | refine zh ?_ GE334.out) | exact HB.out)⟩
        ·replace c14 := Bool.eq_false_iff.mpr c14
         subst c14
         have H1 : (some (([] : List ByteArray), false)) = some (r1, r2) := by rw [if_neg (show ¬ (false = true) by decide)] at H; exact H
         clear H
         have H := H1
         clear H1
         simp only [Option.some.injEq, Prod.mk.injEq] at H
         obtain ⟨rfl, rfl⟩ := H
         have p333 : 0 ≤ (x17_1 : Int) := of_decide_eq_true (by first | (with_reducible assumption) | assumption)
         have q333 : x17_1 < (y329.length : Int) := of_decide_eq_true (by first | (with_reducible assumption) | assumption)
         obtain ⟨ad333, e333, hx333_0, hx333_1, hx333_2⟩ := at_T_Node HR332.out x17_1 p333 q333
         cases e333
         replace hx333_0 := (HB.out.cell (World.block_lt_of_cell? w _ hx333_0)).trans hx333_0
         replace hx333_1 := (HB.out.cell (World.block_lt_of_cell? w _ hx333_1)).trans hx333_1
         replace hx333_2 := (HB.out.cell (World.block_lt_of_cell? w _ hx333_2)).trans hx333_2
         replace p333 := eq_true p333
         replace q333 := eq_true q333
         go_wp2_with (first | ((with_reducible refine zoa (N := 6) rfl ?_); refine zEa ?hg (N := 6) ?hd (cs := #[.int .i64 0, .int .i64 0, .bool false]) (t := 73) ?hr ?_; (case hd => rfl); (case hg => rfl); (case hr => first | (go_simp; done) | (go_simp; rfl)); intro gb334 hg w33 hbox hb; have n0_ := zb.mk (Kd.zta (by (with_reducible repeat (first | apply Kd.zo | apply Kd.zq | apply Kd.zA)); exact HO_4.out) hb); have n1_ := zb.mk (zG (g := gb324) (o := .cells #[.slice A0_0 l0_0.length c0_0] 26 (0, 0)) (by (with_reducible repeat (first | refine zk ?_ _ | refine zm ?_ | refine zi ?_ _)); exact BK324.out) hb); have n2_ := zb.mk (zw (by repeat (first | (with_reducible first | exact HB.out | apply zg | apply ze | apply zf | refine zh ?_ GE324.out) | exact HB.out)) hb); have n3_ := zb.mk (hbox); have n4_ := zb.mk ((by rw [hg]; exact (zt (by repeat (first | (with_reducible first | exact HB.out | apply zg | apply ze | apply zf | refine zh ?_ GE324.out) | exact HB.out))) : w.heap.size ≤ gb334)); have n5_ := zb.mk ((by rw [hg]; exact (zt (by repeat (first | (with_reducible first | exact HB.out | apply zg | apply ze | apply zf | refine zh ?_ GE324.out) | exact HB.out))) : w.heap.size ≤ gb334)); have n6_ := zb.mk ((by rw [hg]; exact Nat.ne_of_lt (blk_lt (g := gb324) (o := .cells #[.slice A0_0 l0_0.length c0_0] 26 (0, 0)) (by (with_reducible repeat (first | refine zk ?_ _ | refine zm ?_ | refine zi ?_ _)); exact BK324.out)) : gb324 ≠ gb334)); have n7_ := zb.mk ((by rw [hg]; exact Nat.ne_of_gt (blk_lt (g := gb324) (o := .cells #[.slice A0_0 l0_0.length c0_0] 26 (0, 0)) (by (with_reducible repeat (first | refine zk ?_ _ | refine zm ?_ | refine zi ?_ _)); exact BK324.out)) : gb334 ≠ gb324)); clear HO_4; clear BK324; clear HB; have HO_4 := n0_; have BK324 := n1_; have HB := n2_; have BK334 := n3_; have GW334 := n4_; have GE334 := n5_; have NB324_334 := n6_; have NB334_324 := n7_; clear n0_ n1_ n2_ n3_ n4_ n5_ n6_ n7_; clear hb hbox hg; have hnb34 := NB334_324.out; have hnc34 := NB324_334.out; have hcz35_0 : w33.cell? ⟨gb334, 0, none⟩ = some (.int .i64 0) := (zD BK334.out 0).trans rfl; have hcz35_1 : w33.cell? ⟨gb334, 1, none⟩ = some (.int .i64 0) := (zD BK334.out 1).trans rfl; have hcz35_2 : w33.cell? ⟨gb334, 2, none⟩ = some (.bool false) := (zD BK334.out 2).trans rfl; have hfz35_0 := zz BK334.out 0; have hfz35_1 := zz BK334.out 1; have hfz35_2 := zz BK334.out 2) | ((with_reducible refine zH (f := 134) rfl ?_); refine zra (some 25) rfl rfl Tryz.func134 (by kernel_rfl) rfl #[.int .i64 ((zl y329 x17_1).f1), .int .i64 0, .int .i64 x17_1] rfl (by (try simp only [List.map_toArray, List.map_cons, List.map_nil]); first | done | rfl | (simp only [List.length_drop, List.length_take]; rfl)) ?_; (with_reducible refine (impl_in.calls ((zl y329 x17_1).f1) 0 x17_1 false _ A13.out).mono ?_); rintro e w' ⟨rfl, ⟨nd, rfl⟩⟩; refine ⟨_, rfl, ?_⟩))
         go_ret2
         exact ⟨_, by first | rfl | (simp [zC, zB] <;> rfl) | (simp [*, zC, zB] <;> rfl), by first | exact Kd.R_nil _ _ _ _ _ | exact Kd.N_nil _ _ _ _ _ | exact Kd.V_nil _ _ _ _ _ | exact Kd.Q_nil _ _ _ _ _ | exact Kd.S_nil _ _ _ _ _, by repeat (first | (with_reducible first | exact HB.out | apply zg | apply ze | apply zf | refine zh ?_ GE324.out | refine zh ?_ GE334.out) | exact HB.out)⟩
       ·rw [if_neg c12] at H
        exact absurd H (by simp)
      ·rw [if_neg c11] at H
       exact absurd H (by simp)
     ·rw [if_neg c10] at H
      have c10b0 : decide (x17_1 < (y329.length : Int)) = false := decide_eq_false c10
      clear c10
      simp only [Option.some.injEq, Prod.mk.injEq] at H
      obtain ⟨rfl, rfl⟩ := H
      go_wp2
      go_ret2
      exact ⟨_, by first | rfl | (simp [zC, zB] <;> rfl) | (simp [*, zC, zB] <;> rfl), by (with_reducible repeat (first | apply Kd.zo | apply Kd.zq | apply Kd.zA)); exact HO_4.out, by repeat (first | (with_reducible first | exact HB.out | apply zg | apply ze | apply zf | refine zh ?_ GE324.out) | exact HB.out)⟩
  ·rw [if_neg c4] at H
   exact absurd H (by simp)
 ·replace c3 := Bool.eq_false_iff.mpr c3
  subst c3
  have H1 : (some (([] : List ByteArray), false)) = some (r1, r2) := by rw [if_neg (show ¬ (false = true) by decide)] at H; exact H
  clear H
  have H := H1
  clear H1
  simp only [Option.some.injEq, Prod.mk.injEq] at H
  obtain ⟨rfl, rfl⟩ := H
  go_enter Tryz.func169, Tryz.ntmps169
  go_wp2_with (first | ((with_reducible refine zoa (N := 1) rfl ?_); refine zEa ?hg (N := 1) ?hd (cs := #[.slice A0_0 l0_0.length c0_0]) (t := 26) ?hr ?_; (case hd => rfl); (case hg => rfl); (case hr => first | (go_simp; done) | (go_simp; rfl)); intro gb324 hg w36 hbox hb; have n0_ := zb.mk (zw (by repeat (first | (with_reducible first | exact HB.out | apply zg | apply ze | apply zf) | exact HB.out)) hb); have n1_ := zb.mk (hbox); have n2_ := zb.mk ((by rw [hg]; exact (zt (by repeat (first | (with_reducible first | exact HB.out | apply zg | apply ze | apply zf) | exact HB.out))) : w.heap.size ≤ gb324)); have n3_ := zb.mk ((by rw [hg]; exact (zt (by repeat (first | (with_reducible first | exact HB.out | apply zg | apply ze | apply zf) | exact HB.out))) : w.heap.size ≤ gb324)); clear HB; have HB := n0_; have BK324 := n1_; have GW324 := n2_; have GE324 := n3_; clear n0_ n1_ n2_ n3_; clear hb hbox hg) | ((with_reducible refine zoa (N := 7) rfl ?_); refine Kd.R_lit Kd.string _ 9 ?hg (N := 7) ?hd (xs := ([(⟨#[]⟩ : ByteArray)] : List ByteArray)) (inner := [.string (⟨#[]⟩ : ByteArray)]) (ok := fun _ => True) (okp := fun _ => True) ?hr ?hp (fun _ hk => hk) trivial (Below.refl _ _) (Nat.le_refl _) (by simp) ?_; (case hd => rfl); (case hg => rfl); (case hr => first | (go_simp; done) | (go_simp; rfl)); (case hp => exact (Reps.one (show Kd.M Kd.string _ _ _ (⟨#[]⟩ : ByteArray) [.string (⟨#[]⟩ : ByteArray)] from rfl) (Reps.none _ _))); intro v326 w37 ho38 hb hg_ hnew_; clear hg_ hnew_; (first | rw [← Ny325.out] at ho38 | (simp only [Int.reduceToNat] at ho38; rw [← Ny325.out] at ho38)); have n0_ := zb.mk (Kd.zua ho38 (zt (by repeat (first | (with_reducible first | exact HB.out | apply zg | apply ze | apply zf | refine zh ?_ GE324.out) | exact HB.out)))); have n1_ := zb.mk (zG (g := gb324) (o := .cells #[.slice A0_0 l0_0.length c0_0] 26 (0, 0)) (by (with_reducible repeat (first | refine zk ?_ _ | refine zm ?_ | refine zi ?_ _)); exact BK324.out) hb); have n2_ := zb.mk (zw (by repeat (first | (with_reducible first | exact HB.out | apply zg | apply ze | apply zf | refine zh ?_ GE324.out) | exact HB.out)) hb); clear BK324; clear HB; have HO327 := n0_; have BK324 := n1_; have HB := n2_; clear n0_ n1_ n2_; clear hb ho38; have hcz39_0 : w37.cell? ⟨gb324, 0, none⟩ = some (.slice A0_0 l0_0.length c0_0) := (zD BK324.out 0).trans rfl; have hfz39_0 := zz BK324.out 0) | ((with_reducible refine zH (f := 134) rfl ?_); refine zra (some 11) rfl rfl Tryz.func134 (by kernel_rfl) rfl #[.int .i64 (l0_0.length : Int), .int .i64 1, .int .i64 481] rfl (by (try simp only [List.map_toArray, List.map_cons, List.map_nil]); first | done | rfl | (simp only [List.length_drop, List.length_take]; rfl)) ?_; (with_reducible refine (impl_in.calls (l0_0.length : Int) 1 481 false _ A2.out).mono ?_); rintro e w' ⟨rfl, ⟨nd, rfl⟩⟩; refine ⟨_, rfl, ?_⟩))
  go_ret2
  exact ⟨_, by first | rfl | (simp [zC, zB] <;> rfl) | (simp [*, zC, zB] <;> rfl), by first | exact Kd.R_nil _ _ _ _ _ | exact Kd.N_nil _ _ _ _ _ | exact Kd.V_nil _ _ _ _ _ | exact Kd.Q_nil _ _ _ _ _ | exact Kd.S_nil _ _ _ _ _, by repeat (first | (with_reducible first | exact HB.out | apply zg | apply ze | apply zf | refine zh ?_ GE324.out) | exact HB.out)⟩
end Go.Proofs.YtfabennfhmlihaaGreatDoor.P
end
section
namespace Go.Proofs.YtfabennfhmlihaaGreatDoor.P
open Go.RowKit Go.Proofs.YtfabennfhmlihaaGreatDoorW.zJ Go.Proofs.YtfabennfhmlihaaGreatDoorW.zU Go.Proofs.YtfabennfhmlihaaGreatDoorW.PrintMore
set_option linter.unusedVariables false
set_option linter.unusedSimpArgs false
def zT.l0 : Nat → List ByteArray → List ByteArray → List (zL) → Int → Int → Option (List ByteArray)
 | 0, _, _, _, _, _ => none
 | k + 1, x3, x5, x15, x16, x17 => if x17 < x16 then (if 0 ≤ x17 then (if x17 < (x15.length : Int) then (if (zl x15 x17).f2 = true then (if x17 < (x3.length : Int) then (if x5.length < 8796093022208 then (zT.l0 k x3 (x5 ++ [rdOf ByteArray.empty x3 x17]) x15 x16 (wrap64 (x17 + 1))) else (none)) else (none)) else (zT.l0 k x3 x5 x15 x16 (wrap64 (x17 + 1)))) else (none)) else (none)) else (some x5)
def zT.f (k : Nat) (l0_0 : List (zL)) : Option (List ByteArray) := (zO.f k l0_0).bind fun bt343 => (zT.l0 k bt343.1 (([] : List ByteArray)) l0_0 (l0_0.length : Int) 0)
set_option maxHeartbeats 8000000 in
set_option maxRecDepth 100000 in
theorem zT.calls (k : Nat) (A0_0 : Option Addr) (c0_0 : Nat) (l0_0 : List (zL)) (r : List ByteArray) (w : World) (hr0_0 : Kd.C zXa w A0_0 l0_0.length l0_0) (hc0_0 : l0_0.length ≤ c0_0) (h : zT.f k l0_0 = some r) :
  Calls Tryz.prog 130 #[.agg #[.slice A0_0 l0_0.length c0_0]] w fun e w' => ∃ v0_ : Value, e = .returned (v0_) ∧ Kd.R Kd.string 9 w' w.heap.size (fun _ => True) v0_ r ∧ Below w.heap.size w w' := by
 have hu26 := Tryz.underlying26
 have hu73 := Tryz.underlying73
 have HR0_0 := zb.mk hr0_0
 have HC0_0 := zb.mk hc0_0
 clear hr0_0 hc0_0
 have HB := zb.mk (Below.refl w.heap.size w)
 have H : ((zO.f k l0_0).bind fun bt343 => (zT.l0 k bt343.1 (([] : List ByteArray)) l0_0 (l0_0.length : Int) 0)) = some r := h
 clear h
 replace H := Option.bind_eq_some_iff.mp H
 obtain ⟨⟨t343, t346⟩, A20, H⟩ := H
 replace H : (zT.l0 k t343 (([] : List ByteArray)) l0_0 (l0_0.length : Int) 0) = some r := H
 have A2 := zb.mk A20
 clear A20
 obtain ⟨y347, hy347⟩ : ∃ y_ : List ByteArray, y_ = (([] : List ByteArray)) := ⟨_, rfl⟩
 replace H : (zT.l0 k t343 y347 l0_0 (l0_0.length : Int) 0) = some r := by first | (rw [hy347]; with_reducible exact H) | (have H2_ := (Option.bind_some _ _).symm.trans H; rw [hy347]; with_reducible exact H2_) | (have H2_ := (Option.bind_some _ _).symm.trans H; with_reducible exact H2_) | with_reducible exact H | (rw [hy347]; exact H) | exact H
 have Ny347 := zb.mk hy347
 clear hy347
 have H' := zb.mk H
 clear H
 go_enter Tryz.func130, Tryz.ntmps130
 go_wp2_with (first | ((with_reducible refine zoa (N := 1) rfl ?_); refine zEa ?hg (N := 1) ?hd (cs := #[.slice A0_0 l0_0.length c0_0]) (t := 26) ?hr ?_; (case hd => rfl); (case hg => rfl); (case hr => first | (go_simp; done) | (go_simp; rfl)); intro gb342 hg w3 hbox hb; have n0_ := zb.mk (zw (by repeat (first | (with_reducible first | exact HB.out | apply zg | apply ze | apply zf) | exact HB.out)) hb); have n1_ := zb.mk (hbox); have n2_ := zb.mk ((by rw [hg]; exact (zt (by repeat (first | (with_reducible first | exact HB.out | apply zg | apply ze | apply zf) | exact HB.out))) : w.heap.size ≤ gb342)); have n3_ := zb.mk ((by rw [hg]; exact (zt (by repeat (first | (with_reducible first | exact HB.out | apply zg | apply ze | apply zf) | exact HB.out))) : w.heap.size ≤ gb342)); clear HB; have HB := n0_; have BK342 := n1_; have GW342 := n2_; have GE342 := n3_; clear n0_ n1_ n2_ n3_; clear hb hbox hg; have hcz4_0 : w3.cell? ⟨gb342, 0, none⟩ = some (.slice A0_0 l0_0.length c0_0) := (zD BK342.out 0).trans rfl; have hfz4_0 := zz BK342.out 0) | ((with_reducible refine zH (f := 169) rfl ?_); refine zra (some 10) rfl rfl Tryz.func169 (by kernel_rfl) rfl #[.agg #[.slice A0_0 l0_0.length c0_0]] rfl (by (try simp only [List.map_toArray, List.map_cons, List.map_nil]); first | done | rfl | (simp only [List.length_drop, List.length_take]; rfl)) ?_; (with_reducible refine (zO.calls k _ _ l0_0 t343 t346 _ ?side1 ?side2 A2.out).mono ?_); (case side1 => repeat (first | exact (Kd.zV HR0_0.out HB.out) | (with_reducible refine Kd.zga ?_ _) | (with_reducible refine Kd.zia ?_ _) | (with_reducible refine Kd.zAa ?_))); (case side2 => exact HC0_0.out); rintro e w5 ⟨v344, rfl, ho0, hb⟩; refine ⟨_, rfl, ?_⟩; have n0_ := zb.mk (Kd.zua ho0 (zt (by repeat (first | (with_reducible first | exact HB.out | apply zg | apply ze | apply zf | refine zh ?_ GE342.out) | exact HB.out)))); have n1_ := zb.mk (zG (g := gb342) (o := .cells #[.slice A0_0 l0_0.length c0_0] 26 (0, 0)) (by (with_reducible repeat (first | refine zk ?_ _ | refine zm ?_ | refine zi ?_ _)); exact BK342.out) hb); have n2_ := zb.mk (zw (by repeat (first | (with_reducible first | exact HB.out | apply zg | apply ze | apply zf | refine zh ?_ GE342.out) | exact HB.out)) hb); clear BK342; clear HB; have HO345 := n0_; have BK342 := n1_; have HB := n2_; clear n0_ n1_ n2_; (try clear hb); (try clear hb2); (try clear hk); (try clear hi); (try clear ho0)) | ((with_reducible refine zoa (N := 13) rfl ?_); refine Kd.R_lit Kd.string _ 9 ?hg (N := 13) ?hd (xs := ([] : List ByteArray)) (inner := []) (ok := fun _ => True) (okp := fun _ => True) ?hr ?hp (fun _ hk => hk) trivial (Below.refl _ _) (Nat.le_refl _) (by simp) ?_; (case hd => rfl); (case hg => rfl); (case hr => first | (go_simp; done) | (go_simp; rfl)); (case hp => exact (Reps.none _ _)); intro v348 w6 ho7 hb hg_ hnew_; clear hg_ hnew_; (first | rw [← Ny347.out] at ho7 | (simp only [Int.reduceToNat] at ho7; rw [← Ny347.out] at ho7)); have n0_ := zb.mk (Kd.R_elder' (by (with_reducible repeat (first | apply Kd.zo | apply Kd.zq | apply Kd.zA)); exact HO345.out) (Kd.R_base ho7) hb); have n1_ := zb.mk (Kd.zua (Kd.R_new' ho7 (Kd.R_lt (by (with_reducible repeat (first | apply Kd.zo | apply Kd.zq | apply Kd.zA)); exact HO345.out))) (zt (by repeat (first | (with_reducible first | exact HB.out | apply zg | apply ze | apply zf | refine zh ?_ GE342.out) | exact HB.out)))); have n2_ := zb.mk (zG (g := gb342) (o := .cells #[.slice A0_0 l0_0.length c0_0] 26 (0, 0)) (by (with_reducible repeat (first | refine zk ?_ _ | refine zm ?_ | refine zi ?_ _)); exact BK342.out) hb); have n3_ := zb.mk (zw (by repeat (first | (with_reducible first | exact HB.out | apply zg | apply ze | apply zf | refine zh ?_ GE342.out) | exact HB.out)) hb); clear HO345; clear BK342; clear HB; have HO345 := n0_; have HO349 := n1_; have BK342 := n2_; have HB := n3_; clear n0_ n1_ n2_ n3_; clear hb ho7; have hcz8_0 : w6.cell? ⟨gb342, 0, none⟩ = some (.slice A0_0 l0_0.length c0_0) := (zD BK342.out 0).trans rfl; have hfz8_0 := zz BK342.out 0))
 go_loopg [5, 17] k (fun kq v5 v17 w' => ∃ (x5_1 : List ByteArray) (x17_1 : Int), v17 = .int .i64 x17_1 ∧ zb (zT.l0 kq t343 x5_1 l0_0 (l0_0.length : Int) x17_1 = some r) ∧ zb (kq ≤ k) ∧ zb (Kd.R Kd.string 9 w' w.heap.size (fun k_ => some k_ ≠ (v5 : Value).ownBlock) v344 t343) ∧ zb (Kd.R Kd.string 9 w' w.heap.size (fun k_ => some k_ ≠ (v344 : Value).ownBlock) v5 x5_1) ∧ zb (w'.heap[gb342]? = some (.cells #[(.slice A0_0 l0_0.length c0_0)] 26 (0, 0))) ∧ zb (Below w.heap.size w w'))
 case atStart => exact ⟨(y347), (0), (by first | rfl | (simp; done) | (simp [*]; done)), H', ⟨Nat.le_refl _⟩, ⟨by (with_reducible repeat (first | apply Kd.zo | apply Kd.zq | apply Kd.zA)); exact Kd.zZ HO345.out (fun _ hk => hk.2)⟩, ⟨by (with_reducible repeat (first | apply Kd.zo | apply Kd.zq | apply Kd.zA)); exact Kd.zZ HO349.out (fun _ hk => hk.2)⟩, ⟨by (with_reducible repeat (first | refine zk ?_ _ | refine zm ?_ | refine zi ?_ _)); exact BK342.out⟩, ⟨by repeat (first | (with_reducible first | exact HB.out | apply zg | apply ze | apply zf | refine zh ?_ GE342.out) | exact HB.out)⟩⟩
 case round =>
  clear H'
  try clear c1
  try clear p2
  try clear hcz4_0
  try clear hcz8_0
  try clear hfz4_0
  try clear hfz8_0
  obtain ⟨x5_1, x17_1, rfl, HA, HK1, HO_3, HO_5, BK342, HB⟩ := hrel
  cases gk with
  | zero => exact absurd HA.out (by simp [zT.l0])
  | succ k1 =>
   have H := HA.out
   clear HA
   simp only [zT.l0] at H
   by_cases c9 : x17_1 < (l0_0.length : Int)
   ·rw [if_pos c9] at H
    have c9b0 : decide (x17_1 < (l0_0.length : Int)) = true := decide_eq_true c9
    clear c9
    by_cases c10 : 0 ≤ x17_1
    ·rw [if_pos c10] at H
     have c10b0 : decide (0 ≤ x17_1) = true := decide_eq_true c10
     clear c10
     by_cases c11 : x17_1 < (l0_0.length : Int)
     ·rw [if_pos c11] at H
      have c11b0 : decide (x17_1 < (l0_0.length : Int)) = true := decide_eq_true c11
      clear c11
      obtain ⟨bq12, hbq12⟩ : ∃ b_ : Bool, b_ = ((zl l0_0 x17_1).f2) := ⟨_, rfl⟩
      replace H : (if bq12 = true then (if x17_1 < (t343.length : Int) then (if x5_1.length < 8796093022208 then (zT.l0 k1 t343 (x5_1 ++ [rdOf ByteArray.empty t343 x17_1]) l0_0 (l0_0.length : Int) (wrap64 (x17_1 + 1))) else (none)) else (none)) else (zT.l0 k1 t343 x5_1 l0_0 (l0_0.length : Int) (wrap64 (x17_1 + 1)))) = some r := by rw [← hbq12] at H; exact H
      have Nbq12 := zb.mk hbq12
      clear hbq12
      by_cases c13 : bq12 = true
      ·subst c13
       have H1 : (if x17_1 < (t343.length : Int) then (if x5_1.length < 8796093022208 then (zT.l0 k1 t343 (x5_1 ++ [rdOf ByteArray.empty t343 x17_1]) l0_0 (l0_0.length : Int) (wrap64 (x17_1 + 1))) else (none)) else (none)) = some r := by rw [if_pos rfl] at H; exact H
       clear H
       have H := H1
       clear H1
       by_cases c14 : x17_1 < (t343.length : Int)
       ·rw [if_pos c14] at H
        have c14b0 : decide (x17_1 < (t343.length : Int)) = true := decide_eq_true c14
        clear c14
        by_cases c15 : x5_1.length < 8796093022208
        ·rw [if_pos c15] at H
         have LMc15 := zb.mk c15
         clear c15
         obtain ⟨y353, hy353⟩ : ∃ y_ : List ByteArray, y_ = (x5_1 ++ [rdOf ByteArray.empty t343 x17_1]) := ⟨_, rfl⟩
         replace H : (zT.l0 k1 t343 y353 l0_0 (l0_0.length : Int) (wrap64 (x17_1 + 1))) = some r := by first | (rw [hy353]; with_reducible exact H) | (have H2_ := (Option.bind_some _ _).symm.trans H; rw [hy353]; with_reducible exact H2_) | (have H2_ := (Option.bind_some _ _).symm.trans H; with_reducible exact H2_) | with_reducible exact H | (rw [hy353]; exact H) | exact H
         have Ny353 := zb.mk hy353
         clear hy353
         have H' := zb.mk H
         clear H
         have p350 : 0 ≤ (x17_1 : Int) := of_decide_eq_true (by first | (with_reducible assumption) | assumption)
         have q350 : x17_1 < (l0_0.length : Int) := of_decide_eq_true (by first | (with_reducible assumption) | assumption)
         obtain ⟨ad350, e350, hx350_0, hx350_1, hx350_2⟩ := at_T_Node HR0_0.out x17_1 p350 q350
         (try rw [← Nbq12.out] at hx350_2)
         cases e350
         replace hx350_0 := (HB.out.cell (World.block_lt_of_cell? w _ hx350_0)).trans hx350_0
         replace hx350_1 := (HB.out.cell (World.block_lt_of_cell? w _ hx350_1)).trans hx350_1
         replace hx350_2 := (HB.out.cell (World.block_lt_of_cell? w _ hx350_2)).trans hx350_2
         replace p350 := eq_true p350
         replace q350 := eq_true q350
         go_wp2_with (first | ((with_reducible refine zoa (N := 7) rfl ?_); refine zEa ?hg (N := 7) ?hd (cs := #[.int .i64 0, .int .i64 0, .bool false]) (t := 73) ?hr ?_; (case hd => rfl); (case hg => rfl); (case hr => first | (go_simp; done) | (go_simp; rfl)); intro gb351 hg w16 hbox hb; have n0_ := zb.mk (Kd.zta (by (with_reducible repeat (first | apply Kd.zo | apply Kd.zq | apply Kd.zA)); exact HO_3.out) hb); have n1_ := zb.mk (Kd.zta (by (with_reducible repeat (first | apply Kd.zo | apply Kd.zq | apply Kd.zA)); exact HO_5.out) hb); have n2_ := zb.mk (zG (g := gb342) (o := .cells #[.slice (some ad350) l0_0.length c0_0] 26 (0, 0)) (by (with_reducible repeat (first | refine zk ?_ _ | refine zm ?_ | refine zi ?_ _)); exact BK342.out) hb); have n3_ := zb.mk (zw (by repeat (first | (with_reducible first | exact HB.out | apply zg | apply ze | apply zf | refine zh ?_ GE342.out) | exact HB.out)) hb); have n4_ := zb.mk (hbox); have n5_ := zb.mk ((by rw [hg]; exact (zt (by repeat (first | (with_reducible first | exact HB.out | apply zg | apply ze | apply zf | refine zh ?_ GE342.out) | exact HB.out))) : w.heap.size ≤ gb351)); have n6_ := zb.mk ((by rw [hg]; exact (zt (by repeat (first | (with_reducible first | exact HB.out | apply zg | apply ze | apply zf | refine zh ?_ GE342.out) | exact HB.out))) : w.heap.size ≤ gb351)); have n7_ := zb.mk ((by rw [hg]; exact Nat.ne_of_lt (blk_lt (g := gb342) (o := .cells #[.slice (some ad350) l0_0.length c0_0] 26 (0, 0)) (by (with_reducible repeat (first | refine zk ?_ _ | refine zm ?_ | refine zi ?_ _)); exact BK342.out)) : gb342 ≠ gb351)); have n8_ := zb.mk ((by rw [hg]; exact Nat.ne_of_gt (blk_lt (g := gb342) (o := .cells #[.slice (some ad350) l0_0.length c0_0] 26 (0, 0)) (by (with_reducible repeat (first | refine zk ?_ _ | refine zm ?_ | refine zi ?_ _)); exact BK342.out)) : gb351 ≠ gb342)); clear HO_3; clear HO_5; clear BK342; clear HB; have HO_3 := n0_; have HO_5 := n1_; have BK342 := n2_; have HB := n3_; have BK351 := n4_; have GW351 := n5_; have GE351 := n6_; have NB342_351 := n7_; have NB351_342 := n8_; clear n0_ n1_ n2_ n3_ n4_ n5_ n6_ n7_ n8_; clear hb hbox hg; have hnb17 := NB351_342.out; have hnc17 := NB342_351.out; have hcz18_0 : w16.cell? ⟨gb351, 0, none⟩ = some (.int .i64 0) := (zD BK351.out 0).trans rfl; have hcz18_1 : w16.cell? ⟨gb351, 1, none⟩ = some (.int .i64 0) := (zD BK351.out 1).trans rfl; have hcz18_2 : w16.cell? ⟨gb351, 2, none⟩ = some (.bool false) := (zD BK351.out 2).trans rfl; have hfz18_0 := zz BK351.out 0; have hfz18_1 := zz BK351.out 1; have hfz18_2 := zz BK351.out 2; obtain ⟨Ao19, co19, eo19⟩ := Kd.zpa HO_3.out; subst eo19; have p352 : 0 ≤ (x17_1 : Int) := of_decide_eq_true (by first | (with_reducible assumption) | assumption); have q352 : x17_1 < (t343.length : Int) := of_decide_eq_true (by first | (with_reducible assumption) | assumption); obtain ⟨ad352, e352, hx352_0⟩ := Kd.zza (Kd.zQ HO_3.out).2.2 x17_1 p352 q352; cases e352; have hn352_0 : ad352.block ≠ gb351 := Kd.own_blk (Kd.R_ne HO_3.out BK351.out (by decide)); have hn352_1 : ad352.block ≠ gb351 := Kd.own_blk (Kd.R_ne HO_3.out BK351.out (by decide)); have hn352_2 : ad352.block ≠ gb351 := Kd.own_blk (Kd.R_ne HO_3.out BK351.out (by decide)); replace hx352_0 := (cell_far (p := ⟨gb351, 0, none⟩) (by first | (rw [add_block]; exact hn352_0) | (show (Addr.add _ _).block ≠ _; rw [add_block]; exact hn352_0) | exact hn352_0) (.int .i64 ((zl l0_0 x17_1).f0))).trans hx352_0; replace hx352_0 := (cell_far (p := ⟨gb351, 1, none⟩) (by first | (rw [add_block]; exact hn352_1) | (show (Addr.add _ _).block ≠ _; rw [add_block]; exact hn352_1) | exact hn352_1) (.int .i64 ((zl l0_0 x17_1).f1))).trans hx352_0; replace hx352_0 := (cell_far (p := ⟨gb351, 2, none⟩) (by first | (rw [add_block]; exact hn352_2) | (show (Addr.add _ _).block ≠ _; rw [add_block]; exact hn352_2) | exact hn352_2) (.bool true)).trans hx352_0; clear hn352_0; clear hn352_1; clear hn352_2; replace p352 := eq_true p352; replace q352 := eq_true q352) | ((with_reducible refine zZa (b := .append) (xs := #[.tmp 24, .tmp 29]) rfl ?_); at_builtin; refine Kd.R_append Kd.string (w0 := w) w.heap.size rfl (.tmp 24) (.tmp 29) 31 9 (.string ⟨#[]⟩) 16 rfl Tryz.underlying31 info9 rfl (by decide) (by omega) u5 x5_1 (rdOf ByteArray.empty t343 x17_1) [.string (rdOf ByteArray.empty t343 x17_1)] (fun k_ => some k_ ≠ (.slice (some ad352) t343.length co19 : Value).ownBlock) (fun _ => False) rfl (by first | (go_simp; done) | (go_simp; rfl)) ?aP (fun _ hk => hk.elim) ?aF ?aO ?aB ?aS ?aL ?_; (case aP => exact rfl); (case aB => exact (by repeat (first | (with_reducible first | exact HB.out | apply zg | apply ze | apply zf | refine zh ?_ GE342.out | refine zh ?_ GE351.out) | exact HB.out))); (case aF => exact (fun k_ hk => Kd.fresh' (Kd.R_lt (by (with_reducible repeat (first | apply Kd.zo | apply Kd.zq | apply Kd.zA)); exact (Kd.zZ (Kd.R_far (p := ⟨gb351, 2, none⟩) (Kd.R_far (p := ⟨gb351, 1, none⟩) (Kd.R_far (p := ⟨gb351, 0, none⟩) (Kd.zUa HO_3.out BK351.out (by decide)) (fun _ hk => hk.2) (.int .i64 ((zl l0_0 x17_1).f0))) (fun _ hk => hk.2) (.int .i64 ((zl l0_0 x17_1).f1))) (fun _ hk => hk.2) (.bool true)) (fun _ h_ => h_.1)))) k_ hk)); (case aO => exact (by (with_reducible repeat (first | apply Kd.zo | apply Kd.zq | apply Kd.zA)); exact Kd.zZ (Kd.R_far (p := ⟨gb351, 2, none⟩) (Kd.R_far (p := ⟨gb351, 1, none⟩) (Kd.R_far (p := ⟨gb351, 0, none⟩) (Kd.zUa HO_5.out BK351.out (by decide)) (fun _ hk => hk.2) (.int .i64 ((zl l0_0 x17_1).f0))) (fun _ hk => hk.2) (.int .i64 ((zl l0_0 x17_1).f1))) (fun _ hk => hk.2) (.bool true)) (fun _ hk => hk.1))); (case aS => exact (zt (by repeat (first | (with_reducible first | exact HB.out | apply zg | apply ze | apply zf | refine zh ?_ GE342.out | refine zh ?_ GE351.out) | exact HB.out)))); (case aL => have := LMc15.out; omega); intro v354 w20 ho hb hg hat; rw [← Ny353.out] at ho; have n0_ := zb.mk (Kd.R_after (ok := (fun _ => True)) (by (with_reducible repeat (first | apply Kd.zo | apply Kd.zq | apply Kd.zA)); exact Kd.zZ (Kd.R_far (p := ⟨gb351, 2, none⟩) (Kd.R_far (p := ⟨gb351, 1, none⟩) (Kd.R_far (p := ⟨gb351, 0, none⟩) (Kd.zUa HO_3.out BK351.out (by decide)) (fun _ hk => hk.2) (.int .i64 ((zl l0_0 x17_1).f0))) (fun _ hk => hk.2) (.int .i64 ((zl l0_0 x17_1).f1))) (fun _ hk => hk.2) (.bool true)) (fun _ hk => ⟨trivial, hk.1⟩)) hg hat); have n1_ := zb.mk (blk_grown (g := gb342) (o := .cells #[.slice (some ad350) l0_0.length c0_0] 26 (0, 0)) (by (with_reducible repeat (first | refine zk ?_ _ | refine zm ?_ | refine zi ?_ _)); refine blk_far ?_ NB342_351.out _; (with_reducible repeat (first | refine zk ?_ _ | refine zm ?_ | refine zi ?_ _)); refine blk_far ?_ NB342_351.out _; (with_reducible repeat (first | refine zk ?_ _ | refine zm ?_ | refine zi ?_ _)); refine blk_far ?_ NB342_351.out _; (with_reducible repeat (first | refine zk ?_ _ | refine zm ?_ | refine zi ?_ _)); exact BK342.out) hg (Kd.R_ne HO_5.out BK342.out (by decide))); have n2_ := zb.mk (blk_grown (g := gb351) (o := .cells #[.int .i64 ((zl l0_0 x17_1).f0), .int .i64 ((zl l0_0 x17_1).f1), .bool true] 73 (0, 0)) (by (with_reducible repeat (first | refine zk ?_ _ | refine zm ?_ | refine zi ?_ _)); refine blk_put (cs := #[.int .i64 ((zl l0_0 x17_1).f0), .int .i64 ((zl l0_0 x17_1).f1), .bool false]) ?_ 2 _ rfl; (with_reducible repeat (first | refine zk ?_ _ | refine zm ?_ | refine zi ?_ _)); refine blk_put (cs := #[.int .i64 ((zl l0_0 x17_1).f0), .int .i64 0, .bool false]) ?_ 1 _ rfl; (with_reducible repeat (first | refine zk ?_ _ | refine zm ?_ | refine zi ?_ _)); refine blk_put (cs := #[.int .i64 0, .int .i64 0, .bool false]) ?_ 0 _ rfl; (with_reducible repeat (first | refine zk ?_ _ | refine zm ?_ | refine zi ?_ _)); exact BK351.out) hg (Kd.R_ne HO_5.out BK351.out (by decide))); have n3_ := zb.mk (hb); have n4_ := zb.mk (ho); clear HO_3; clear BK342; clear BK351; clear HB; clear HO_5; have HO_3 := n0_; have BK342 := n1_; have BK351 := n2_; have HB := n3_; have HO355 := n4_; clear n0_ n1_ n2_ n3_ n4_; clear ho hb hg hat))
         go_roundg k1
         case measure => have := HK1.out; omega
         case rel => exact ⟨(y353), (wrap64 (x17_1 + 1)), (by first | rfl | (simp; done) | (simp [*]; done)), H', ⟨by have := HK1.out; omega⟩, ⟨by (with_reducible repeat (first | apply Kd.zo | apply Kd.zq | apply Kd.zA)); exact Kd.zZ HO_3.out (fun _ hk => hk.2)⟩, ⟨by (with_reducible repeat (first | apply Kd.zo | apply Kd.zq | apply Kd.zA)); exact HO355.out⟩, ⟨by (with_reducible repeat (first | refine zk ?_ _ | refine zm ?_ | refine zi ?_ _)); exact BK342.out⟩, ⟨by repeat (first | (with_reducible first | exact HB.out | apply zg | apply ze | apply zf | refine zh ?_ GE342.out | refine zh ?_ GE351.out) | exact HB.out)⟩⟩
        ·rw [if_neg c15] at H
         exact absurd H (by simp)
       ·rw [if_neg c14] at H
        exact absurd H (by simp)
      ·replace c13 := Bool.eq_false_iff.mpr c13
       subst c13
       have H1 : (zT.l0 k1 t343 x5_1 l0_0 (l0_0.length : Int) (wrap64 (x17_1 + 1))) = some r := by rw [if_neg (show ¬ (false = true) by decide)] at H; exact H
       clear H
       have H := H1
       clear H1
       have H' := zb.mk H
       clear H
       have p350 : 0 ≤ (x17_1 : Int) := of_decide_eq_true (by first | (with_reducible assumption) | assumption)
       have q350 : x17_1 < (l0_0.length : Int) := of_decide_eq_true (by first | (with_reducible assumption) | assumption)
       obtain ⟨ad350, e350, hx350_0, hx350_1, hx350_2⟩ := at_T_Node HR0_0.out x17_1 p350 q350
       (try rw [← Nbq12.out] at hx350_2)
       cases e350
       replace hx350_0 := (HB.out.cell (World.block_lt_of_cell? w _ hx350_0)).trans hx350_0
       replace hx350_1 := (HB.out.cell (World.block_lt_of_cell? w _ hx350_1)).trans hx350_1
       replace hx350_2 := (HB.out.cell (World.block_lt_of_cell? w _ hx350_2)).trans hx350_2
       replace p350 := eq_true p350
       replace q350 := eq_true q350
       go_wp2_with (first | ((with_reducible refine zoa (N := 7) rfl ?_); refine zEa ?hg (N := 7) ?hd (cs := #[.int .i64 0, .int .i64 0, .bool false]) (t := 73) ?hr ?_; (case hd => rfl); (case hg => rfl); (case hr => first | (go_simp; done) | (go_simp; rfl)); intro gb351 hg w21 hbox hb; have n0_ := zb.mk (Kd.zta (by (with_reducible repeat (first | apply Kd.zo | apply Kd.zq | apply Kd.zA)); exact HO_3.out) hb); have n1_ := zb.mk (Kd.zta (by (with_reducible repeat (first | apply Kd.zo | apply Kd.zq | apply Kd.zA)); exact HO_5.out) hb); have n2_ := zb.mk (zG (g := gb342) (o := .cells #[.slice (some ad350) l0_0.length c0_0] 26 (0, 0)) (by (with_reducible repeat (first | refine zk ?_ _ | refine zm ?_ | refine zi ?_ _)); exact BK342.out) hb); have n3_ := zb.mk (zw (by repeat (first | (with_reducible first | exact HB.out | apply zg | apply ze | apply zf | refine zh ?_ GE342.out) | exact HB.out)) hb); have n4_ := zb.mk (hbox); have n5_ := zb.mk ((by rw [hg]; exact (zt (by repeat (first | (with_reducible first | exact HB.out | apply zg | apply ze | apply zf | refine zh ?_ GE342.out) | exact HB.out))) : w.heap.size ≤ gb351)); have n6_ := zb.mk ((by rw [hg]; exact (zt (by repeat (first | (with_reducible first | exact HB.out | apply zg | apply ze | apply zf | refine zh ?_ GE342.out) | exact HB.out))) : w.heap.size ≤ gb351)); have n7_ := zb.mk ((by rw [hg]; exact Nat.ne_of_lt (blk_lt (g := gb342) (o := .cells #[.slice (some ad350) l0_0.length c0_0] 26 (0, 0)) (by (with_reducible repeat (first | refine zk ?_ _ | refine zm ?_ | refine zi ?_ _)); exact BK342.out)) : gb342 ≠ gb351)); have n8_ := zb.mk ((by rw [hg]; exact Nat.ne_of_gt (blk_lt (g := gb342) (o := .cells #[.slice (some ad350) l0_0.length c0_0] 26 (0, 0)) (by (with_reducible repeat (first | refine zk ?_ _ | refine zm ?_ | refine zi ?_ _)); exact BK342.out)) : gb351 ≠ gb342)); clear HO_3; clear HO_5; clear BK342; clear HB; have HO_3 := n0_; have HO_5 := n1_; have BK342 := n2_; have HB := n3_; have BK351 := n4_; have GW351 := n5_; have GE351 := n6_; have NB342_351 := n7_; have NB351_342 := n8_; clear n0_ n1_ n2_ n3_ n4_ n5_ n6_ n7_ n8_; clear hb hbox hg; have hnb22 := NB351_342.out; have hnc22 := NB342_351.out; have hcz23_0 : w21.cell? ⟨gb351, 0, none⟩ = some (.int .i64 0) := (zD BK351.out 0).trans rfl; have hcz23_1 : w21.cell? ⟨gb351, 1, none⟩ = some (.int .i64 0) := (zD BK351.out 1).trans rfl; have hcz23_2 : w21.cell? ⟨gb351, 2, none⟩ = some (.bool false) := (zD BK351.out 2).trans rfl; have hfz23_0 := zz BK351.out 0; have hfz23_1 := zz BK351.out 1; have hfz23_2 := zz BK351.out 2))
       go_roundg k1
       case measure => have := HK1.out; omega
       case rel => exact ⟨(x5_1), (wrap64 (x17_1 + 1)), (by first | rfl | (simp; done) | (simp [*]; done)), H', ⟨by have := HK1.out; omega⟩, ⟨by (with_reducible repeat (first | apply Kd.zo | apply Kd.zq | apply Kd.zA)); exact Kd.zZ (Kd.R_far (p := ⟨gb351, 2, none⟩) (Kd.R_far (p := ⟨gb351, 1, none⟩) (Kd.R_far (p := ⟨gb351, 0, none⟩) (Kd.zUa HO_3.out BK351.out (by decide)) (fun _ hk => hk.2) (.int .i64 ((zl l0_0 x17_1).f0))) (fun _ hk => hk.2) (.int .i64 ((zl l0_0 x17_1).f1))) (fun _ hk => hk.2) (.bool false)) (fun _ hk => hk.1)⟩, ⟨by (with_reducible repeat (first | apply Kd.zo | apply Kd.zq | apply Kd.zA)); exact Kd.zZ (Kd.R_far (p := ⟨gb351, 2, none⟩) (Kd.R_far (p := ⟨gb351, 1, none⟩) (Kd.R_far (p := ⟨gb351, 0, none⟩) (Kd.zUa HO_5.out BK351.out (by decide)) (fun _ hk => hk.2) (.int .i64 ((zl l0_0 x17_1).f0))) (fun _ hk => hk.2) (.int .i64 ((zl l0_0 x17_1).f1))) (fun _ hk => hk.2) (.bool false)) (fun _ hk => hk.1)⟩, ⟨by (with_reducible repeat (first | refine zk ?_ _ | refine zm ?_ | refine zi ?_ _)); refine blk_far ?_ NB342_351.out _; (with_reducible repeat (first | refine zk ?_ _ | refine zm ?_ | refine zi ?_ _)); refine blk_far ?_ NB342_351.out _; (with_reducible repeat (first | refine zk ?_ _ | refine zm ?_ | refine zi ?_ _)); refine blk_far ?_ NB342_351.out _; (with_reducible repeat (first | refine zk ?_ _ | refine zm ?_ | refine zi ?_ _)); exact BK342.out⟩, ⟨by repeat (first | (with_reducible first | exact HB.out | apply zg | apply ze | apply zf | refine zh ?_ GE342.out | refine zh ?_ GE351.out) | exact HB.out)⟩⟩
     ·rw [if_neg c11] at H
      exact absurd H (by simp)
    ·rw [if_neg c10] at H
     exact absurd H (by simp)
   ·rw [if_neg c9] at H
    have c9b0 : decide (x17_1 < (l0_0.length : Int)) = false := decide_eq_false c9
    clear c9
    obtain rfl := Option.some.inj H
    go_wp2
    go_ret
    exact ⟨_, by first | rfl | (simp [zC, zB] <;> rfl) | (simp [*, zC, zB] <;> rfl), by (with_reducible repeat (first | apply Kd.zo | apply Kd.zq | apply Kd.zA)); exact Kd.zZ HO_5.out (fun _ hk => trivial), by repeat (first | (with_reducible first | exact HB.out | apply zg | apply ze | apply zf | refine zh ?_ GE342.out) | exact HB.out)⟩
end Go.Proofs.YtfabennfhmlihaaGreatDoor.P
end
section
namespace Go.Proofs.YtfabennfhmlihaaGreatDoor.P
open Go Go.RowKit Go.Proofs.YtfabennfhmlihaaGreatDoorW.zJ Go.Proofs.YtfabennfhmlihaaGreatDoorW.zU Go.Proofs.YtfabennfhmlihaaGreatDoorW.PrintMore
set_option linter.unusedVariables false
theorem in_f (a b c : Int) : impl_in.f a b c = some (decide (b ≤ a ∧ a ≤ c)) := by
  unfold impl_in.f
  by_cases h1 : a ≥ b
  · rw [if_pos h1]; simp [show b ≤ a from h1]
  · rw [if_neg h1]; simp [show ¬ b ≤ a from h1]
/-- The byte of a letter. -/
def letW (n : Int) : UInt8 := UInt8.ofNat ((97 + n) % 256).toNat
theorem letter_f (n : Int) (h0 : 0 ≤ n) (h1 : n ≤ 25) : impl_letter.f n = some (tx [letW n]) := by
  unfold impl_letter.f
  rw [zSa (by omega) (by omega), tx_str]
  rfl
/-- May a node stand behind a prefixes? -/
def okN (a : Nat) (n : zL) : Prop := (0 ≤ n.f1 ∧ n.f1 < a) ∧ (0 ≤ n.f0 ∧ n.f0 ≤ 25)
instance (a : Nat) (n : zL) : Decidable (okN a n) := inferInstanceAs (Decidable (_ ∧ _))
/-- The prefixes of nodes, acc those ahead. -/
def preGo : List (List UInt8) → List zL → Option (List (List UInt8))
  | acc, [] => some acc
  | acc, n :: ns => if okN acc.length n then preGo (acc ++ [acc.getD n.f1.toNat [] ++ [letW n.f0]]) ns else none
def prefsN (ns : List zL) : Option (List (List UInt8)) := if 1 ≤ ns.length ∧ ns.length ≤ 481 then preGo [[]] ns.tail else none
theorem preGo_length : ∀ (ns : List zL) (acc P : List (List UInt8)), preGo acc ns = some P → P.length = acc.length + ns.length
  | [], acc, P, h => by simp only [preGo, Option.some.injEq] at h; simp [h]
  | n :: ns, acc, P, h => by
    simp only [preGo] at h
    split at h
    · have := preGo_length ns _ P h; simp at this ⊢; omega
    · cases h
theorem prefsN_length {ns : List zL} {P : List (List UInt8)} (h : prefsN ns = some P) : P.length = ns.length := by
  unfold prefsN at h
  split at h
  · have := preGo_length _ _ _ h; simp at this; omega
  · cases h
/-- What the program's function of the prefixes returns. -/
def preR (r : Option (List (List UInt8))) : List ByteArray × Bool := match r with | some P => (P.map tx, true) | none => ([], false)
theorem rd_node (ns : List zL) (i : Nat) (h : i < ns.length) : zl ns (i : Int) = ns[i] := by
  unfold zl; simp [List.getD_eq_getElem?_getD, h]
theorem prefixes_l0 (ns : List zL) (hn : ns.length ≤ 481) (m : Nat) : ∀ (i : Nat) (acc : List (List UInt8)), ns.length - i = m → i ≤ ns.length → acc.length = i + 1 → (∀ x ∈ acc, x.length ≤ i) →
    Ev (fun k => zO.l0 k (acc.map tx) ns (ns.length : Int) (i : Int)) (preR (preGo acc (ns.drop i))) := by
  induction m with
  | zero =>
    intro i acc hm hi ha hx
    obtain rfl : i = ns.length := by omega
    refine Ev.succ ?_
    simp only [zO.l0]
    refine Ev.neg (by omega) (Ev.const ?_)
    rw [List.drop_of_length_le (Nat.le_refl _)]; rfl
  | succ m ih =>
    intro i acc hm hi ha hx
    have hlt : i < ns.length := by omega
    refine Ev.succ ?_
    simp only [zO.l0, rd_node ns i hlt, in_f, Option.bind_some, decide_eq_true_eq, List.length_map]
    rw [List.drop_eq_getElem_cons hlt, preGo]
    refine Ev.pos (by omega) (Ev.pos (by omega) (Ev.pos (by omega) ?_))
    by_cases h1 : 0 ≤ (ns[i]).f1 ∧ (ns[i]).f1 ≤ (i : Int)
    · refine Ev.pos h1 ?_
      by_cases h2 : 0 ≤ (ns[i]).f0 ∧ (ns[i]).f0 ≤ 25
      · have hok : okN acc.length ns[i] := ⟨⟨h1.1, by omega⟩, h2⟩
        rw [if_pos hok, letter_f _ h2.1 h2.2]
        simp only [Option.bind_some, rdOf_tx, tx_append]
        have hgl : (acc.getD (ns[i]).f1.toNat []).length ≤ i := hx _ (by
          rw [List.getD_eq_getElem?_getD, List.getElem?_eq_getElem (by omega)]; exact List.getElem_mem _)
        refine Ev.pos h2 (Ev.pos h1.1 (Ev.pos (by omega) (Ev.pos (by rw [zMa, zMa, List.length_singleton]; omega) (Ev.pos (by omega) ?_))))
        rw [zSa (by omega) (by omega)]
        have := ih (i + 1) (acc ++ [acc.getD (ns[i]).f1.toNat [] ++ [letW (ns[i]).f0]]) (by omega) (by omega) (by simp; omega) (by
          intro x hx'
          rcases List.mem_append.1 hx' with h | h
          · have := hx x h; omega
          · rw [List.mem_singleton.1 h, List.length_append, List.length_singleton]; omega)
        simpa using this
      · rw [if_neg (fun h => h2 h.2)]
        exact Ev.neg h2 (Ev.const rfl)
    · rw [if_neg (fun h : okN acc.length ns[i] => h1 ⟨h.1.1, by have := h.1.2; omega⟩)]
      exact Ev.neg h1 (Ev.const rfl)
theorem prefixes_ev (ns : List zL) : Ev (fun k => zO.f k ns) (preR (prefsN ns)) := by
  unfold zO.f prefsN
  simp only [in_f, Option.bind_some, decide_eq_true_eq]
  by_cases h : 1 ≤ ns.length ∧ ns.length ≤ 481
  · rw [if_pos h]
    refine Ev.pos (by omega) (Ev.pos (by omega) ?_)
    have := prefixes_l0 (ns.drop 1) (by simp; omega) _ 0 [[]] rfl (Nat.zero_le _) rfl (by simp)
    simpa [List.drop_one, tx] using this
  · rw [if_neg h]
    exact Ev.neg (by omega) (Ev.const rfl)
/-- The words: the prefixes of the nodes that end one. -/
def wordsN (P : List (List UInt8)) (ns : List zL) : List (List UInt8) := ((P.zip ns).filter fun x => x.2.f2).map (·.1)
theorem words_l0 (P : List (List UInt8)) (ns : List zL) (hP : P.length = ns.length) (hn : ns.length ≤ 481) (m : Nat) : ∀ (i : Nat) (out : List (List UInt8)), ns.length - i = m → i ≤ ns.length → out.length ≤ i →
    Ev (fun k => zT.l0 k (P.map tx) (out.map tx) ns (ns.length : Int) (i : Int)) ((out ++ wordsN (P.drop i) (ns.drop i)).map tx) := by
  induction m with
  | zero =>
    intro i out hm hi ho
    obtain rfl : i = ns.length := by omega
    refine Ev.succ ?_
    simp only [zT.l0]
    refine Ev.neg (by omega) (Ev.const ?_)
    simp [wordsN]
  | succ m ih =>
    intro i out hm hi ho
    have hlt : i < ns.length := by omega
    have hlp : i < P.length := by omega
    refine Ev.succ ?_
    simp only [zT.l0, rd_node ns i hlt, List.length_map, rdOf_tx, Int.toNat_natCast]
    refine Ev.pos (by omega) (Ev.pos (by omega) (Ev.pos (by omega) ?_))
    have hd : wordsN (P.drop i) (ns.drop i) = (if (ns[i]).f2 = true then [P[i]] else []) ++ wordsN (P.drop (i + 1)) (ns.drop (i + 1)) := by
      rw [List.drop_eq_getElem_cons hlt, List.drop_eq_getElem_cons hlp]
      unfold wordsN
      rw [List.zip_cons_cons, List.filter_cons]
      by_cases h : (ns[i]).f2 = true <;> simp [h]
    have hg : P.getD i [] = P[i] := by rw [List.getD_eq_getElem?_getD, List.getElem?_eq_getElem hlp]; rfl
    rw [hd]
    by_cases he : (ns[i]).f2 = true
    · refine Ev.pos he (Ev.pos (by omega) (Ev.pos (by omega) ?_))
      rw [if_pos he, zSa (by omega) (by omega), hg]
      have := ih (i + 1) (out ++ [P[i]]) (by omega) (by omega) (by simp; omega)
      simpa using this
    · refine Ev.neg he ?_
      rw [if_neg he, zSa (by omega) (by omega)]
      have := ih (i + 1) out (by omega) (by omega) (by omega)
      simpa using this
theorem words_ev (ns : List zL) (P : List (List UInt8)) (h : prefsN ns = some P) : Ev (fun k => zT.f k ns) ((wordsN P ns).map tx) := by
  unfold zT.f
  have hp := prefixes_ev ns
  rw [h] at hp
  refine Ev.bind hp ?_
  have hl := prefsN_length h
  have hn : ns.length ≤ 481 := by
    unfold prefsN at h
    split at h
    · rename_i hc; exact hc.2
    · cases h
  have := words_l0 P ns hl hn _ 0 [] rfl (Nat.zero_le _) (Nat.le_refl _)
  simpa [preR] using this
end Go.Proofs.YtfabennfhmlihaaGreatDoor.P
end
section
namespace Go.Proofs.YtfabennfhmlihaaGreatDoor.P
open Go.RowKit Go.Proofs.YtfabennfhmlihaaGreatDoorW.zJ Go.Proofs.YtfabennfhmlihaaGreatDoorW.zU Go.Proofs.YtfabennfhmlihaaGreatDoorW.PrintMore
set_option linter.unusedVariables false
set_option linter.unusedSimpArgs false
def cmp_isNaN_string.f (a0 : ByteArray) : Option (Bool) := some (a0.toList != a0.toList)
set_option maxHeartbeats 8000000 in
set_option maxRecDepth 100000 in
theorem cmp_isNaN_string.calls (a0 : ByteArray) (r : Bool) (w : World) (h : cmp_isNaN_string.f a0 = some r) :
  Calls Tryz.prog 223 #[.string a0] w fun e w' => e = .returned (.bool r) ∧ zX w w' := by
 have H : (some (a0.toList != a0.toList)) = some r := h
 clear h
 obtain rfl := Option.some.inj H
 go_enter Tryz.func223, Tryz.ntmps223
 go_wp2
 go_ret
 exact ⟨by first | rfl | (simp; done) | (simp [*]; done), by repeat (first | exact zX.refl _ | apply zX.step)⟩
end Go.Proofs.YtfabennfhmlihaaGreatDoor.P
end
section
namespace Go.Proofs.YtfabennfhmlihaaGreatDoor.P
open Go.RowKit Go.Proofs.YtfabennfhmlihaaGreatDoorW.zJ Go.Proofs.YtfabennfhmlihaaGreatDoorW.zU Go.Proofs.YtfabennfhmlihaaGreatDoorW.PrintMore
set_option linter.unusedVariables false
set_option linter.unusedSimpArgs false
def cmp_Less_string.f (a0 : ByteArray) (a1 : ByteArray) : Option (Bool) := (cmp_isNaN_string.f a0).bind fun t1431 => (if t1431 = true then ((cmp_isNaN_string.f a1).bind fun t1432 => (if t1432 = true then (some (Op.bytesLess a0.toList a1.toList)) else (some true))) else (some (Op.bytesLess a0.toList a1.toList)))
set_option maxHeartbeats 8000000 in
set_option maxRecDepth 100000 in
theorem cmp_Less_string.calls (a0 : ByteArray) (a1 : ByteArray) (r : Bool) (w : World) (h : cmp_Less_string.f a0 a1 = some r) :
  Calls Tryz.prog 213 #[.string a0, .string a1] w fun e w' => e = .returned (.bool r) ∧ zX w w' := by
 have H : ((cmp_isNaN_string.f a0).bind fun t1431 => (if t1431 = true then ((cmp_isNaN_string.f a1).bind fun t1432 => (if t1432 = true then (some (Op.bytesLess a0.toList a1.toList)) else (some true))) else (some (Op.bytesLess a0.toList a1.toList)))) = some r := h
 clear h
 replace H := Option.bind_eq_some_iff.mp H
 obtain ⟨t1431, A30, H⟩ := H
 replace H : (if t1431 = true then ((cmp_isNaN_string.f a1).bind fun t1432 => (if t1432 = true then (some (Op.bytesLess a0.toList a1.toList)) else (some true))) else (some (Op.bytesLess a0.toList a1.toList))) = some r := H
 have A3 := zb.mk A30
 clear A30
 by_cases c4 : t1431 = true
 ·subst c4
  have H1 : ((cmp_isNaN_string.f a1).bind fun t1432 => (if t1432 = true then (some (Op.bytesLess a0.toList a1.toList)) else (some true))) = some r := by rw [if_pos rfl] at H; exact H
  clear H
  have H := H1
  clear H1
  replace H := Option.bind_eq_some_iff.mp H
  obtain ⟨t1432, A50, H⟩ := H
  replace H : (if t1432 = true then (some (Op.bytesLess a0.toList a1.toList)) else (some true)) = some r := H
  have A5 := zb.mk A50
  clear A50
  by_cases c6 : t1432 = true
  ·subst c6
   have H1 : (some (Op.bytesLess a0.toList a1.toList)) = some r := by rw [if_pos rfl] at H; exact H
   clear H
   have H := H1
   clear H1
   obtain rfl := Option.some.inj H
   go_enter Tryz.func213, Tryz.ntmps213
   go_wp2_with (first | ((with_reducible refine zH (f := 223) rfl ?_); refine zra (some 6) rfl rfl Tryz.func223 (by kernel_rfl) rfl #[.string a0] rfl (by (try simp only [List.map_toArray, List.map_cons, List.map_nil]); first | done | rfl | (simp only [List.length_drop, List.length_take]; rfl)) ?_; (with_reducible refine (cmp_isNaN_string.calls a0 true _ A3.out).mono ?_); rintro e w' ⟨rfl, ⟨nd, rfl⟩⟩; refine ⟨_, rfl, ?_⟩) | (go_at_call 223; (with_reducible refine (cmp_isNaN_string.calls a1 true _ A5.out).mono ?_); rintro e w' ⟨rfl, ⟨nd, rfl⟩⟩))
   go_ret
   exact ⟨by first | rfl | (simp; done) | (simp [*]; done), by repeat (first | exact zX.refl _ | apply zX.step)⟩
  ·replace c6 := Bool.eq_false_iff.mpr c6
   subst c6
   have H1 : (some true) = some r := by rw [if_neg (show ¬ (false = true) by decide)] at H; exact H
   clear H
   have H := H1
   clear H1
   obtain rfl := Option.some.inj H
   go_enter Tryz.func213, Tryz.ntmps213
   go_wp2_with (first | ((with_reducible refine zH (f := 223) rfl ?_); refine zra (some 6) rfl rfl Tryz.func223 (by kernel_rfl) rfl #[.string a0] rfl (by (try simp only [List.map_toArray, List.map_cons, List.map_nil]); first | done | rfl | (simp only [List.length_drop, List.length_take]; rfl)) ?_; (with_reducible refine (cmp_isNaN_string.calls a0 true _ A3.out).mono ?_); rintro e w' ⟨rfl, ⟨nd, rfl⟩⟩; refine ⟨_, rfl, ?_⟩) | (go_at_call 223; (with_reducible refine (cmp_isNaN_string.calls a1 false _ A5.out).mono ?_); rintro e w' ⟨rfl, ⟨nd, rfl⟩⟩))
   go_ret
   exact ⟨by first | rfl | (simp; done) | (simp [*]; done), by repeat (first | exact zX.refl _ | apply zX.step)⟩
 ·replace c4 := Bool.eq_false_iff.mpr c4
  subst c4
  have H1 : (some (Op.bytesLess a0.toList a1.toList)) = some r := by rw [if_neg (show ¬ (false = true) by decide)] at H; exact H
  clear H
  have H := H1
  clear H1
  obtain rfl := Option.some.inj H
  go_enter Tryz.func213, Tryz.ntmps213
  go_wp2_with (first | ((with_reducible refine zH (f := 223) rfl ?_); refine zra (some 6) rfl rfl Tryz.func223 (by kernel_rfl) rfl #[.string a0] rfl (by (try simp only [List.map_toArray, List.map_cons, List.map_nil]); first | done | rfl | (simp only [List.length_drop, List.length_take]; rfl)) ?_; (with_reducible refine (cmp_isNaN_string.calls a0 false _ A3.out).mono ?_); rintro e w' ⟨rfl, ⟨nd, rfl⟩⟩; refine ⟨_, rfl, ?_⟩))
  go_ret
  exact ⟨by first | rfl | (simp; done) | (simp [*]; done), by repeat (first | exact zX.refl _ | apply zX.step)⟩
end Go.Proofs.YtfabennfhmlihaaGreatDoor.P
end
section
namespace Go.Proofs.YtfabennfhmlihaaGreatDoor.P
open Go.RowKit Go.Proofs.YtfabennfhmlihaaGreatDoorW.zJ Go.Proofs.YtfabennfhmlihaaGreatDoorW.zU Go.Proofs.YtfabennfhmlihaaGreatDoorW.PrintMore
set_option linter.unusedVariables false
set_option linter.unusedSimpArgs false
def slices_isNaN_string.f (a0 : ByteArray) : Option (Bool) := some (a0.toList != a0.toList)
set_option maxHeartbeats 8000000 in
set_option maxRecDepth 100000 in
theorem slices_isNaN_string.calls (a0 : ByteArray) (r : Bool) (w : World) (h : slices_isNaN_string.f a0 = some r) :
  Calls Tryz.prog 214 #[.string a0] w fun e w' => e = .returned (.bool r) ∧ zX w w' := by
 have H : (some (a0.toList != a0.toList)) = some r := h
 clear h
 obtain rfl := Option.some.inj H
 go_enter Tryz.func214, Tryz.ntmps214
 go_wp2
 go_ret
 exact ⟨by first | rfl | (simp; done) | (simp [*]; done), by repeat (first | exact zX.refl _ | apply zX.step)⟩
end Go.Proofs.YtfabennfhmlihaaGreatDoor.P
end
section
namespace Go.Proofs.YtfabennfhmlihaaGreatDoor.P
open Go.RowKit Go.Proofs.YtfabennfhmlihaaGreatDoorW.zJ Go.Proofs.YtfabennfhmlihaaGreatDoorW.zU Go.Proofs.YtfabennfhmlihaaGreatDoorW.PrintMore
set_option linter.unusedVariables false
set_option linter.unusedSimpArgs false
def zI.l0 : Nat → List ByteArray → ByteArray → Int → Int → Int → Option (Int × Bool)
 | 0, _, _, _, _, _ => none
 | k + 1, x0, x1, x6, x7, x8 => if x7 < x8 then (if 0 ≤ (wrap64 ((IntKind.u64.wrap (wrap64 (x7 + x8))) / 2)) then (if (wrap64 ((IntKind.u64.wrap (wrap64 (x7 + x8))) / 2)) < (x0.length : Int) then ((cmp_Less_string.f (rdOf ByteArray.empty x0 (wrap64 ((IntKind.u64.wrap (wrap64 (x7 + x8))) / 2))) x1).bind fun t1434 => (if t1434 = true then (zI.l0 k x0 x1 x6 (wrap64 ((wrap64 ((IntKind.u64.wrap (wrap64 (x7 + x8))) / 2)) + 1)) x8) else (zI.l0 k x0 x1 x6 x7 (wrap64 ((IntKind.u64.wrap (wrap64 (x7 + x8))) / 2))))) else (none)) else (none)) else (if x7 < x6 then (if 0 ≤ x7 then (if x7 < (x0.length : Int) then (if (rdOf ByteArray.empty x0 x7).toList = x1.toList then (some (x7, true)) else ((slices_isNaN_string.f (rdOf ByteArray.empty x0 x7)).bind fun t1437 => (if t1437 = true then ((slices_isNaN_string.f x1).bind fun t1438 => (some (x7, t1438))) else (some (x7, false))))) else (none)) else (none)) else (some (x7, false)))
def zI.f (k : Nat) (l0 : List ByteArray) (a1 : ByteArray) : Option (Int × Bool) := zI.l0 k l0 a1 (l0.length : Int) 0 (l0.length : Int)
set_option maxHeartbeats 8000000 in
set_option maxRecDepth 100000 in
theorem zI.calls (k : Nat) (A0 : Option Addr) (c0 : Nat) (l0 : List ByteArray) (a1 : ByteArray) (r1 : Int) (r2 : Bool) (w : World) (hr0 : Kd.C Kd.string w A0 l0.length l0) (hc0 : l0.length ≤ c0) (h : zI.f k l0 a1 = some (r1, r2)) :
  Calls Tryz.prog 175 #[.slice A0 l0.length c0, .string a1] w fun e w' => e = .returned (.tuple #[.int .i64 r1, .bool r2]) ∧ zX w w' := by
 have HR0 := zb.mk hr0
 have HC0 := zb.mk hc0
 clear hr0 hc0
 have H : (zI.l0 k l0 a1 (l0.length : Int) 0 (l0.length : Int)) = some (r1, r2) := h
 clear h
 have H' := zb.mk H
 clear H
 go_enter Tryz.func175, Tryz.ntmps175
 go_wp2
 go_loopg [7, 8] k (fun kq v7 v8 w' => ∃ (x7_1 : Int) (x8_1 : Int), v7 = .int .i64 x7_1 ∧ v8 = .int .i64 x8_1 ∧ zb (zI.l0 kq l0 a1 (l0.length : Int) x7_1 x8_1 = some (r1, r2)) ∧ zb (kq ≤ k) ∧ zX w w')
 case atStart => exact ⟨(0), ((l0.length : Int)), (by first | rfl | (simp; done) | (simp [*]; done)), (by first | rfl | (simp; done) | (simp [*]; done)), H', ⟨Nat.le_refl _⟩, by repeat (first | exact zX.refl _ | apply zX.step)⟩
 case round =>
  clear H'
  try clear c1
  try clear p2
  obtain ⟨x7_1, x8_1, rfl, rfl, HA, HK1, ⟨m1, rfl⟩⟩ := hrel
  cases gk with
  | zero => exact absurd HA.out (by simp [zI.l0])
  | succ k1 =>
   have H := HA.out
   clear HA
   simp only [zI.l0] at H
   by_cases c3 : x7_1 < x8_1
   ·rw [if_pos c3] at H
    have c3b0 : decide (x7_1 < x8_1) = true := decide_eq_true c3
    clear c3
    obtain ⟨ji4, hji4⟩ : ∃ j_ : Int, (wrap64 ((IntKind.u64.wrap (wrap64 (x7_1 + x8_1))) / 2)) = j_ := ⟨_, rfl⟩
    replace H : (if 0 ≤ (ji4) then (if (ji4) < (l0.length : Int) then ((cmp_Less_string.f (rdOf ByteArray.empty l0 (ji4)) a1).bind fun t1434 => (if t1434 = true then (zI.l0 k1 l0 a1 (l0.length : Int) (wrap64 ((ji4) + 1)) x8_1) else (zI.l0 k1 l0 a1 (l0.length : Int) x7_1 ji4))) else (none)) else (none)) = some (r1, r2) := by first | (rw [hji4] at H; exact H) | (simp only [hji4] at H ⊢; exact H)
    have hji4w : (IntKind.i64.wrap ((IntKind.u64.wrap (wrap64 (x7_1 + x8_1))) / 2)) = ji4 := (zva _).trans hji4
    by_cases c5 : 0 ≤ (ji4)
    ·rw [if_pos c5] at H
     have c5b0 : decide (0 ≤ (ji4)) = true := decide_eq_true c5
     clear c5
     by_cases c6 : (ji4) < (l0.length : Int)
     ·rw [if_pos c6] at H
      have c6b0 : decide ((ji4) < (l0.length : Int)) = true := decide_eq_true c6
      clear c6
      replace H := Option.bind_eq_some_iff.mp H
      obtain ⟨t1434, A70, H⟩ := H
      replace H : (if t1434 = true then (zI.l0 k1 l0 a1 (l0.length : Int) (wrap64 ((ji4) + 1)) x8_1) else (zI.l0 k1 l0 a1 (l0.length : Int) x7_1 ji4)) = some (r1, r2) := H
      have A7 := zb.mk A70
      clear A70
      by_cases c8 : t1434 = true
      ·subst c8
       have H1 : (zI.l0 k1 l0 a1 (l0.length : Int) (wrap64 ((ji4) + 1)) x8_1) = some (r1, r2) := by rw [if_pos rfl] at H; exact H
       clear H
       have H := H1
       clear H1
       have H' := zb.mk H
       clear H
       have p1433 : 0 ≤ ((ji4) : Int) := of_decide_eq_true (by first | (with_reducible assumption) | assumption)
       have q1433 : (ji4) < (l0.length : Int) := of_decide_eq_true (by first | (with_reducible assumption) | assumption)
       obtain ⟨ad1433, e1433, hx1433_0⟩ := Kd.zza HR0.out (ji4) p1433 q1433
       cases e1433
       replace p1433 := eq_true p1433
       replace q1433 := eq_true q1433
       go_wp2_with (first | ((with_reducible refine zH (f := 213) rfl ?_); refine zra (some 27) rfl rfl Tryz.func213 (by kernel_rfl) rfl #[.string (rdOf ByteArray.empty l0 (ji4)), .string a1] rfl (by (try simp only [List.map_toArray, List.map_cons, List.map_nil]); first | done | (simp only [hji4]; rfl) | rfl | (simp only [List.length_drop, List.length_take]; rfl)) ?_; (with_reducible refine (cmp_Less_string.calls (rdOf ByteArray.empty l0 (ji4)) a1 true _ A7.out).mono ?_); rintro e w' ⟨rfl, ⟨nd, rfl⟩⟩; refine ⟨_, rfl, ?_⟩))
       go_roundg k1
       case measure => have := HK1.out; omega
       case rel => exact ⟨(wrap64 ((ji4) + 1)), (x8_1), (by first | rfl | (simp; done) | (simp only [← hji4] <;> (first | rfl | simp)) | (simp [*]; done)), (by first | rfl | (simp; done) | (simp [*]; done)), H', ⟨by have := HK1.out; omega⟩, by repeat (first | exact zX.refl _ | apply zX.step)⟩
      ·replace c8 := Bool.eq_false_iff.mpr c8
       subst c8
       have H1 : (zI.l0 k1 l0 a1 (l0.length : Int) x7_1 ji4) = some (r1, r2) := by rw [if_neg (show ¬ (false = true) by decide)] at H; exact H
       clear H
       have H := H1
       clear H1
       have H' := zb.mk H
       clear H
       have p1433 : 0 ≤ ((ji4) : Int) := of_decide_eq_true (by first | (with_reducible assumption) | assumption)
       have q1433 : (ji4) < (l0.length : Int) := of_decide_eq_true (by first | (with_reducible assumption) | assumption)
       obtain ⟨ad1433, e1433, hx1433_0⟩ := Kd.zza HR0.out (ji4) p1433 q1433
       cases e1433
       replace p1433 := eq_true p1433
       replace q1433 := eq_true q1433
       go_wp2_with (first | ((with_reducible refine zH (f := 213) rfl ?_); refine zra (some 27) rfl rfl Tryz.func213 (by kernel_rfl) rfl #[.string (rdOf ByteArray.empty l0 (ji4)), .string a1] rfl (by (try simp only [List.map_toArray, List.map_cons, List.map_nil]); first | done | (simp only [hji4]; rfl) | rfl | (simp only [List.length_drop, List.length_take]; rfl)) ?_; (with_reducible refine (cmp_Less_string.calls (rdOf ByteArray.empty l0 (ji4)) a1 false _ A7.out).mono ?_); rintro e w' ⟨rfl, ⟨nd, rfl⟩⟩; refine ⟨_, rfl, ?_⟩))
       go_roundg k1
       case measure => have := HK1.out; omega
       case rel => exact ⟨(x7_1), (ji4), (by first | rfl | (simp; done) | (simp [*]; done)), (by first | rfl | (simp; done) | (simp only [← hji4] <;> (first | rfl | simp)) | (simp [*]; done)), H', ⟨by have := HK1.out; omega⟩, by repeat (first | exact zX.refl _ | apply zX.step)⟩
     ·rw [if_neg c6] at H
      exact absurd H (by simp)
    ·rw [if_neg c5] at H
     exact absurd H (by simp)
   ·rw [if_neg c3] at H
    have c3b0 : decide (x7_1 < x8_1) = false := decide_eq_false c3
    clear c3
    by_cases c9 : x7_1 < (l0.length : Int)
    ·rw [if_pos c9] at H
     have c9b0 : decide (x7_1 < (l0.length : Int)) = true := decide_eq_true c9
     clear c9
     by_cases c10 : 0 ≤ x7_1
     ·rw [if_pos c10] at H
      have c10b0 : decide (0 ≤ x7_1) = true := decide_eq_true c10
      clear c10
      by_cases c11 : x7_1 < (l0.length : Int)
      ·rw [if_pos c11] at H
       have c11b0 : decide (x7_1 < (l0.length : Int)) = true := decide_eq_true c11
       clear c11
       by_cases c12 : (rdOf ByteArray.empty l0 x7_1).toList = a1.toList
       ·rw [if_pos c12] at H
        have c12b0 : ((rdOf ByteArray.empty l0 x7_1).toList == a1.toList) = true := beq_iff_eq.mpr c12
        have c12b1 : ((rdOf ByteArray.empty l0 x7_1).toList != a1.toList) = false := bne_eq_false_iff_eq.mpr c12
        clear c12
        simp only [Option.some.injEq, Prod.mk.injEq] at H
        obtain ⟨rfl, rfl⟩ := H
        have p1435 : 0 ≤ (x7_1 : Int) := of_decide_eq_true (by first | (with_reducible assumption) | assumption)
        have q1435 : x7_1 < (l0.length : Int) := of_decide_eq_true (by first | (with_reducible assumption) | assumption)
        obtain ⟨ad1435, e1435, hx1435_0⟩ := Kd.zza HR0.out x7_1 p1435 q1435
        cases e1435
        replace p1435 := eq_true p1435
        replace q1435 := eq_true q1435
        go_wp2
        go_ret2
        exact ⟨by first | rfl | (simp; done) | (simp [*]; done), by repeat (first | exact zX.refl _ | apply zX.step)⟩
       ·rw [if_neg c12] at H
        have c12b0 : ((rdOf ByteArray.empty l0 x7_1).toList == a1.toList) = false := beq_eq_false_iff_ne.mpr c12
        have c12b1 : ((rdOf ByteArray.empty l0 x7_1).toList != a1.toList) = true := bne_iff_ne.mpr c12
        replace H := Option.bind_eq_some_iff.mp H
        obtain ⟨t1437, A130, H⟩ := H
        replace H : (if t1437 = true then ((slices_isNaN_string.f a1).bind fun t1438 => (some (x7_1, t1438))) else (some (x7_1, false))) = some (r1, r2) := H
        have A13 := zb.mk A130
        clear A130
        by_cases c14 : t1437 = true
        ·subst c14
         have H1 : ((slices_isNaN_string.f a1).bind fun t1438 => (some (x7_1, t1438))) = some (r1, r2) := by rw [if_pos rfl] at H; exact H
         clear H
         have H := H1
         clear H1
         replace H := Option.bind_eq_some_iff.mp H
         obtain ⟨t1438, A150, H⟩ := H
         replace H : (some (x7_1, t1438)) = some (r1, r2) := H
         have A15 := zb.mk A150
         clear A150
         simp only [Option.some.injEq, Prod.mk.injEq] at H
         obtain ⟨rfl, rfl⟩ := H
         have p1435 : 0 ≤ (x7_1 : Int) := of_decide_eq_true (by first | (with_reducible assumption) | assumption)
         have q1435 : x7_1 < (l0.length : Int) := of_decide_eq_true (by first | (with_reducible assumption) | assumption)
         obtain ⟨ad1435, e1435, hx1435_0⟩ := Kd.zza HR0.out x7_1 p1435 q1435
         cases e1435
         replace p1435 := eq_true p1435
         replace q1435 := eq_true q1435
         have p1436 : 0 ≤ (x7_1 : Int) := of_decide_eq_true (by first | (with_reducible assumption) | assumption)
         have q1436 : x7_1 < (l0.length : Int) := of_decide_eq_true (by first | (with_reducible assumption) | assumption)
         obtain ⟨ad1436, e1436, hx1436_0⟩ := Kd.zza HR0.out x7_1 p1436 q1436
         obtain rfl : ad1435 = ad1436 := (by injection e1436)
         replace p1436 := eq_true p1436
         replace q1436 := eq_true q1436
         go_wp2_with (first | (go_at_call 214; (with_reducible refine (slices_isNaN_string.calls (rdOf ByteArray.empty l0 x7_1) true _ A13.out).mono ?_); rintro e w' ⟨rfl, ⟨nd, rfl⟩⟩) | (go_at_call 214; (with_reducible refine (slices_isNaN_string.calls a1 t1438 _ A15.out).mono ?_); rintro e w' ⟨rfl, ⟨nd, rfl⟩⟩))
         go_ret2
         exact ⟨by first | rfl | (simp; done) | (simp [*]; done), by repeat (first | exact zX.refl _ | apply zX.step)⟩
        ·replace c14 := Bool.eq_false_iff.mpr c14
         subst c14
         have H1 : (some (x7_1, false)) = some (r1, r2) := by rw [if_neg (show ¬ (false = true) by decide)] at H; exact H
         clear H
         have H := H1
         clear H1
         simp only [Option.some.injEq, Prod.mk.injEq] at H
         obtain ⟨rfl, rfl⟩ := H
         have p1435 : 0 ≤ (x7_1 : Int) := of_decide_eq_true (by first | (with_reducible assumption) | assumption)
         have q1435 : x7_1 < (l0.length : Int) := of_decide_eq_true (by first | (with_reducible assumption) | assumption)
         obtain ⟨ad1435, e1435, hx1435_0⟩ := Kd.zza HR0.out x7_1 p1435 q1435
         cases e1435
         replace p1435 := eq_true p1435
         replace q1435 := eq_true q1435
         have p1436 : 0 ≤ (x7_1 : Int) := of_decide_eq_true (by first | (with_reducible assumption) | assumption)
         have q1436 : x7_1 < (l0.length : Int) := of_decide_eq_true (by first | (with_reducible assumption) | assumption)
         obtain ⟨ad1436, e1436, hx1436_0⟩ := Kd.zza HR0.out x7_1 p1436 q1436
         obtain rfl : ad1435 = ad1436 := (by injection e1436)
         replace p1436 := eq_true p1436
         replace q1436 := eq_true q1436
         go_wp2_with (first | (go_at_call 214; (with_reducible refine (slices_isNaN_string.calls (rdOf ByteArray.empty l0 x7_1) false _ A13.out).mono ?_); rintro e w' ⟨rfl, ⟨nd, rfl⟩⟩))
         go_ret2
         exact ⟨by first | rfl | (simp; done) | (simp [*]; done), by repeat (first | exact zX.refl _ | apply zX.step)⟩
      ·rw [if_neg c11] at H
       exact absurd H (by simp)
     ·rw [if_neg c10] at H
      exact absurd H (by simp)
    ·rw [if_neg c9] at H
     have c9b0 : decide (x7_1 < (l0.length : Int)) = false := decide_eq_false c9
     clear c9
     simp only [Option.some.injEq, Prod.mk.injEq] at H
     obtain ⟨rfl, rfl⟩ := H
     go_wp2
     go_ret2
     exact ⟨by first | rfl | (simp; done) | (simp [*]; done), by repeat (first | exact zX.refl _ | apply zX.step)⟩
end Go.Proofs.YtfabennfhmlihaaGreatDoor.P
end
section
namespace Go.Proofs.YtfabennfhmlihaaGreatDoor.P
open Go.RowKit Go.Proofs.YtfabennfhmlihaaGreatDoorW.zJ Go.Proofs.YtfabennfhmlihaaGreatDoorW.zU Go.Proofs.YtfabennfhmlihaaGreatDoorW.PrintMore
set_option linter.unusedVariables false
set_option linter.unusedSimpArgs false
def zR.l0 : Nat → List ByteArray → Int → Option (Bool)
 | 0, _, _ => none
 | k + 1, x0, x3 => if x3 > 0 then (if 0 ≤ x3 then (if x3 < (x0.length : Int) then (if 0 ≤ (wrap64 (x3 - 1)) then (if (wrap64 (x3 - 1)) < (x0.length : Int) then ((cmp_Less_string.f (rdOf ByteArray.empty x0 x3) (rdOf ByteArray.empty x0 (wrap64 (x3 - 1)))).bind fun t355 => (if t355 = true then (some false) else (zR.l0 k x0 (wrap64 (x3 - 1))))) else (none)) else (none)) else (none)) else (none)) else (some true)
def zR.f (k : Nat) (l0 : List ByteArray) : Option (Bool) := zR.l0 k l0 (wrap64 ((l0.length : Int) - 1))
set_option maxHeartbeats 8000000 in
set_option maxRecDepth 100000 in
theorem zR.calls (k : Nat) (A0 : Option Addr) (c0 : Nat) (l0 : List ByteArray) (r : Bool) (w : World) (hr0 : Kd.C Kd.string w A0 l0.length l0) (hc0 : l0.length ≤ c0) (h : zR.f k l0 = some r) :
  Calls Tryz.prog 201 #[.slice A0 l0.length c0] w fun e w' => e = .returned (.bool r) ∧ zX w w' := by
 have HR0 := zb.mk hr0
 have HC0 := zb.mk hc0
 clear hr0 hc0
 have H : (zR.l0 k l0 (wrap64 ((l0.length : Int) - 1))) = some r := h
 clear h
 have H' := zb.mk H
 clear H
 go_enter Tryz.func201, Tryz.ntmps201
 go_wp2
 repeat (go_quiet (fail); try go_wp2)
 go_loopg [3] k (fun kq v3 w' => ∃ (x3_1 : Int), v3 = .int .i64 x3_1 ∧ zb (zR.l0 kq l0 x3_1 = some r) ∧ zb (kq ≤ k) ∧ zX w w')
 case atStart => exact ⟨(wrap64 ((l0.length : Int) - 1)), (by first | rfl | (simp; done) | (simp [*]; done)), H', ⟨Nat.le_refl _⟩, by repeat (first | exact zX.refl _ | apply zX.step)⟩
 case round =>
  clear H'
  obtain ⟨x3_1, rfl, HA, HK1, ⟨m1, rfl⟩⟩ := hrel
  cases gk with
  | zero => exact absurd HA.out (by simp [zR.l0])
  | succ k1 =>
   have H := HA.out
   clear HA
   simp only [zR.l0] at H
   by_cases c2 : x3_1 > 0
   ·rw [if_pos c2] at H
    have c2b0 : decide (0 < x3_1) = true := decide_eq_true c2
    clear c2
    by_cases c3 : 0 ≤ x3_1
    ·rw [if_pos c3] at H
     have c3b0 : decide (0 ≤ x3_1) = true := decide_eq_true c3
     clear c3
     by_cases c4 : x3_1 < (l0.length : Int)
     ·rw [if_pos c4] at H
      have c4b0 : decide (x3_1 < (l0.length : Int)) = true := decide_eq_true c4
      clear c4
      obtain ⟨ji5, hji5⟩ : ∃ j_ : Int, (wrap64 (x3_1 - 1)) = j_ := ⟨_, rfl⟩
      replace H : (if 0 ≤ (ji5) then (if (ji5) < (l0.length : Int) then ((cmp_Less_string.f (rdOf ByteArray.empty l0 x3_1) (rdOf ByteArray.empty l0 (ji5))).bind fun t355 => (if t355 = true then (some false) else (zR.l0 k1 l0 ji5))) else (none)) else (none)) = some r := by first | (rw [hji5] at H; exact H) | (simp only [hji5] at H ⊢; exact H)
      have hji5w : (IntKind.i64.wrap (x3_1 - 1)) = ji5 := (zva _).trans hji5
      by_cases c6 : 0 ≤ (ji5)
      ·rw [if_pos c6] at H
       have c6b0 : decide (0 ≤ (ji5)) = true := decide_eq_true c6
       clear c6
       by_cases c7 : (ji5) < (l0.length : Int)
       ·rw [if_pos c7] at H
        have c7b0 : decide ((ji5) < (l0.length : Int)) = true := decide_eq_true c7
        clear c7
        replace H := Option.bind_eq_some_iff.mp H
        obtain ⟨t355, A80, H⟩ := H
        replace H : (if t355 = true then (some false) else (zR.l0 k1 l0 ji5)) = some r := H
        have A8 := zb.mk A80
        clear A80
        by_cases c9 : t355 = true
        ·subst c9
         have H1 : (some false) = some r := by rw [if_pos rfl] at H; exact H
         clear H
         have H := H1
         clear H1
         obtain rfl := Option.some.inj H
         have p353 : 0 ≤ (x3_1 : Int) := of_decide_eq_true (by first | (with_reducible assumption) | assumption)
         have q353 : x3_1 < (l0.length : Int) := of_decide_eq_true (by first | (with_reducible assumption) | assumption)
         obtain ⟨ad353, e353, hx353_0⟩ := Kd.zza HR0.out x3_1 p353 q353
         cases e353
         replace p353 := eq_true p353
         replace q353 := eq_true q353
         have p354 : 0 ≤ ((ji5) : Int) := of_decide_eq_true (by first | (with_reducible assumption) | assumption)
         have q354 : (ji5) < (l0.length : Int) := of_decide_eq_true (by first | (with_reducible assumption) | assumption)
         obtain ⟨ad354, e354, hx354_0⟩ := Kd.zza HR0.out (ji5) p354 q354
         obtain rfl : ad353 = ad354 := (by injection e354)
         replace p354 := eq_true p354
         replace q354 := eq_true q354
         go_wp2_with (first | (go_at_call 213; (with_reducible refine (cmp_Less_string.calls (rdOf ByteArray.empty l0 x3_1) (rdOf ByteArray.empty l0 (ji5)) true _ A8.out).mono ?_); rintro e w' ⟨rfl, ⟨nd, rfl⟩⟩; (try first | exact ⟨rfl, _, World.drewN_drewN _ _ _⟩ | exact ⟨rfl, _, Eq.trans (World.drewN_drewN _ _ _) (congrArg (World.drewN _) (Nat.add_assoc _ _ _))⟩)))
         repeat (go_quiet (first | (go_at_call 213; (with_reducible refine (cmp_Less_string.calls (rdOf ByteArray.empty l0 x3_1) (rdOf ByteArray.empty l0 (ji5)) true _ A8.out).mono ?_); rintro e w' ⟨rfl, ⟨nd, rfl⟩⟩; (try first | exact ⟨rfl, _, World.drewN_drewN _ _ _⟩ | exact ⟨rfl, _, Eq.trans (World.drewN_drewN _ _ _) (congrArg (World.drewN _) (Nat.add_assoc _ _ _))⟩))); try go_wp2_with (first | (go_at_call 213; (with_reducible refine (cmp_Less_string.calls (rdOf ByteArray.empty l0 x3_1) (rdOf ByteArray.empty l0 (ji5)) true _ A8.out).mono ?_); rintro e w' ⟨rfl, ⟨nd, rfl⟩⟩; (try first | exact ⟨rfl, _, World.drewN_drewN _ _ _⟩ | exact ⟨rfl, _, Eq.trans (World.drewN_drewN _ _ _) (congrArg (World.drewN _) (Nat.add_assoc _ _ _))⟩))))
         go_ret
         exact ⟨by first | rfl | (simp; done) | (simp only [← hji5] <;> (first | rfl | simp)) | (simp [*]; done), by repeat (first | exact zX.refl _ | apply zX.step)⟩
        ·replace c9 := Bool.eq_false_iff.mpr c9
         subst c9
         have H1 : (zR.l0 k1 l0 ji5) = some r := by rw [if_neg (show ¬ (false = true) by decide)] at H; exact H
         clear H
         have H := H1
         clear H1
         have H' := zb.mk H
         clear H
         have p353 : 0 ≤ (x3_1 : Int) := of_decide_eq_true (by first | (with_reducible assumption) | assumption)
         have q353 : x3_1 < (l0.length : Int) := of_decide_eq_true (by first | (with_reducible assumption) | assumption)
         obtain ⟨ad353, e353, hx353_0⟩ := Kd.zza HR0.out x3_1 p353 q353
         cases e353
         replace p353 := eq_true p353
         replace q353 := eq_true q353
         have p354 : 0 ≤ ((ji5) : Int) := of_decide_eq_true (by first | (with_reducible assumption) | assumption)
         have q354 : (ji5) < (l0.length : Int) := of_decide_eq_true (by first | (with_reducible assumption) | assumption)
         obtain ⟨ad354, e354, hx354_0⟩ := Kd.zza HR0.out (ji5) p354 q354
         obtain rfl : ad353 = ad354 := (by injection e354)
         replace p354 := eq_true p354
         replace q354 := eq_true q354
         go_wp2_with (first | (go_at_call 213; (with_reducible refine (cmp_Less_string.calls (rdOf ByteArray.empty l0 x3_1) (rdOf ByteArray.empty l0 (ji5)) false _ A8.out).mono ?_); rintro e w' ⟨rfl, ⟨nd, rfl⟩⟩; (try first | exact ⟨rfl, _, World.drewN_drewN _ _ _⟩ | exact ⟨rfl, _, Eq.trans (World.drewN_drewN _ _ _) (congrArg (World.drewN _) (Nat.add_assoc _ _ _))⟩)))
         repeat (go_quiet (first | (go_at_call 213; (with_reducible refine (cmp_Less_string.calls (rdOf ByteArray.empty l0 x3_1) (rdOf ByteArray.empty l0 (ji5)) false _ A8.out).mono ?_); rintro e w' ⟨rfl, ⟨nd, rfl⟩⟩; (try first | exact ⟨rfl, _, World.drewN_drewN _ _ _⟩ | exact ⟨rfl, _, Eq.trans (World.drewN_drewN _ _ _) (congrArg (World.drewN _) (Nat.add_assoc _ _ _))⟩))); try go_wp2_with (first | (go_at_call 213; (with_reducible refine (cmp_Less_string.calls (rdOf ByteArray.empty l0 x3_1) (rdOf ByteArray.empty l0 (ji5)) false _ A8.out).mono ?_); rintro e w' ⟨rfl, ⟨nd, rfl⟩⟩; (try first | exact ⟨rfl, _, World.drewN_drewN _ _ _⟩ | exact ⟨rfl, _, Eq.trans (World.drewN_drewN _ _ _) (congrArg (World.drewN _) (Nat.add_assoc _ _ _))⟩))))
         go_roundg k1
         case measure => have := HK1.out; omega
         case rel => exact ⟨(ji5), (by first | rfl | (simp; done) | (simp only [← hji5] <;> (first | rfl | simp)) | (simp [*]; done)), H', ⟨by have := HK1.out; omega⟩, by repeat (first | exact zX.refl _ | apply zX.step)⟩
       ·rw [if_neg c7] at H
        exact absurd H (by simp)
      ·rw [if_neg c6] at H
       exact absurd H (by simp)
     ·rw [if_neg c4] at H
      exact absurd H (by simp)
    ·rw [if_neg c3] at H
     exact absurd H (by simp)
   ·rw [if_neg c2] at H
    have c2b0 : decide (0 < x3_1) = false := decide_eq_false c2
    clear c2
    obtain rfl := Option.some.inj H
    go_wp2
    repeat (go_quiet (fail); try go_wp2)
    go_ret
    exact ⟨by first | rfl | (simp; done) | (simp [*]; done), by repeat (first | exact zX.refl _ | apply zX.step)⟩
end Go.Proofs.YtfabennfhmlihaaGreatDoor.P
end
section
namespace Go.Proofs.YtfabennfhmlihaaGreatDoor.P
open Go.RowKit Go.Proofs.YtfabennfhmlihaaGreatDoorW.zJ Go.Proofs.YtfabennfhmlihaaGreatDoorW.zU Go.Proofs.YtfabennfhmlihaaGreatDoorW.PrintMore
set_option linter.unusedVariables false
set_option linter.unusedSimpArgs false
theorem eqA_Node (d : Nat) (w : World) (x0 y0 : Int) (x1 y1 : Int) (x2 y2 : Bool) :
  (Op.equalIn (d + 2) 73 (.agg #[.int .i64 x0, .int .i64 x1, .bool x2]) (.agg #[.int .i64 y0, .int .i64 y1, .bool y2])).run Tryz.prog w = .ok (x0 == y0 && (x1 == y1 && (x2 == y2))) w := by
 refine eqA_of Tryz.underlying73 (by kernel_rfl) ?_
 refine eqf_cons (by rfl) (by go_simp; rfl) (by go_simp; rfl) (by go_simp) ?_
 refine eqf_cons (by rfl) (by go_simp; rfl) (by go_simp; rfl) (by go_simp) ?_
 exact eqf_last (by rfl) (by go_simp; rfl) (by go_simp; rfl) (by go_simp)
end Go.Proofs.YtfabennfhmlihaaGreatDoor.P
end
section
namespace Go.Proofs.YtfabennfhmlihaaGreatDoor.P
open Go.RowKit Go.Proofs.YtfabennfhmlihaaGreatDoorW.zJ Go.Proofs.YtfabennfhmlihaaGreatDoorW.zU Go.Proofs.YtfabennfhmlihaaGreatDoorW.PrintMore
set_option linter.unusedVariables false
set_option linter.unusedSimpArgs false
attribute [local go_sem high] eqA_Node
def impl_Node.l0 : Nat → List (zL) → List (zL) → Int → Int → Option (Bool)
 | 0, _, _, _, _ => none
 | k + 1, x0, x1, x12, x13 => if x13 < x12 then (if 0 ≤ x13 then (if x13 < (x0.length : Int) then (if x13 < (x1.length : Int) then (if (!(((zl x0 x13).f0) == ((zl x1 x13).f0)) || (!(((zl x0 x13).f1) == ((zl x1 x13).f1)) || (!(((zl x0 x13).f2) == ((zl x1 x13).f2))))) = true then (some false) else (impl_Node.l0 k x0 x1 x12 (wrap64 (x13 + 1)))) else (none)) else (none)) else (none)) else (some true)
def impl_Node.f (k : Nat) (l0 : List (zL)) (l1 : List (zL)) : Option (Bool) := if (l0.length : Int) = (l1.length : Int) then (impl_Node.l0 k l0 l1 (l0.length : Int) 0) else (some false)
set_option maxHeartbeats 8000000 in
set_option maxRecDepth 100000 in
theorem impl_Node.calls (k : Nat) (A0 : Option Addr) (c0 : Nat) (l0 : List (zL)) (A1 : Option Addr) (c1 : Nat) (l1 : List (zL)) (r : Bool) (w : World) (hr0 : Kd.C zXa w A0 l0.length l0) (hc0 : l0.length ≤ c0) (hr1 : Kd.C zXa w A1 l1.length l1) (hc1 : l1.length ≤ c1) (h : impl_Node.f k l0 l1 = some r) :
  Calls Tryz.prog 202 #[.slice A0 l0.length c0, .slice A1 l1.length c1] w fun e w' => e = .returned (.bool r) ∧ zX w w' := by
 have hu73 := Tryz.underlying73
 have HR0 := zb.mk hr0
 have HC0 := zb.mk hc0
 clear hr0 hc0
 have HR1 := zb.mk hr1
 have HC1 := zb.mk hc1
 clear hr1 hc1
 have H : (if (l0.length : Int) = (l1.length : Int) then (impl_Node.l0 k l0 l1 (l0.length : Int) 0) else (some false)) = some r := h
 clear h
 by_cases c3 : (l0.length : Int) = (l1.length : Int)
 ·rw [if_pos c3] at H
  have c3b0 : ((l0.length : Int) == (l1.length : Int)) = true := beq_iff_eq.mpr c3
  have c3b1 : ((l0.length : Int) != (l1.length : Int)) = false := bne_eq_false_iff_eq.mpr c3
  have c3b2 : (l0.length == l1.length) = true := by first | simpa using c3 | (simp at c3 ⊢; omega)
  clear c3
  have H' := zb.mk H
  clear H
  go_enter Tryz.func202, Tryz.ntmps202
  go_wp2
  repeat (go_quiet (fail); try go_wp2)
  go_loopg [13] k (fun kq v13 w' => ∃ (x13_1 : Int), v13 = .int .i64 x13_1 ∧ zb (impl_Node.l0 kq l0 l1 (l0.length : Int) x13_1 = some r) ∧ zb (kq ≤ k) ∧ zX w w')
  case atStart => exact ⟨(0), (by first | rfl | (simp; done) | (simp [*]; done)), H', ⟨Nat.le_refl _⟩, by repeat (first | exact zX.refl _ | apply zX.step)⟩
  case round =>
   clear H'
   try clear c1
   try clear c2
   try clear p2
   try clear c3
   try clear c3b0
   try clear c3b1
   try clear c3b2
   obtain ⟨x13_1, rfl, HA, HK1, ⟨m1, rfl⟩⟩ := hrel
   cases gk with
   | zero => exact absurd HA.out (by simp [impl_Node.l0])
   | succ k1 =>
    have H := HA.out
    clear HA
    simp only [impl_Node.l0] at H
    by_cases c4 : x13_1 < (l0.length : Int)
    ·rw [if_pos c4] at H
     have c4b0 : decide (x13_1 < (l0.length : Int)) = true := decide_eq_true c4
     clear c4
     by_cases c5 : 0 ≤ x13_1
     ·rw [if_pos c5] at H
      have c5b0 : decide (0 ≤ x13_1) = true := decide_eq_true c5
      clear c5
      by_cases c6 : x13_1 < (l0.length : Int)
      ·rw [if_pos c6] at H
       have c6b0 : decide (x13_1 < (l0.length : Int)) = true := decide_eq_true c6
       clear c6
       by_cases c7 : x13_1 < (l1.length : Int)
       ·rw [if_pos c7] at H
        have c7b0 : decide (x13_1 < (l1.length : Int)) = true := decide_eq_true c7
        clear c7
        by_cases c8 : (!(((zl l0 x13_1).f0) == ((zl l1 x13_1).f0)) || (!(((zl l0 x13_1).f1) == ((zl l1 x13_1).f1)) || (!(((zl l0 x13_1).f2) == ((zl l1 x13_1).f2))))) = true
        ·rw [if_pos c8] at H
         have c8b0 : (!(((zl l0 x13_1).f0) == ((zl l1 x13_1).f0)) || (!(((zl l0 x13_1).f1) == ((zl l1 x13_1).f1)) || (!(((zl l0 x13_1).f2) == ((zl l1 x13_1).f2))))) = true := c8
         clear c8
         obtain rfl := Option.some.inj H
         have p356 : 0 ≤ (x13_1 : Int) := of_decide_eq_true (by first | (with_reducible assumption) | assumption)
         have q356 : x13_1 < (l0.length : Int) := of_decide_eq_true (by first | (with_reducible assumption) | assumption)
         obtain ⟨ad356, e356, hx356_0, hx356_1, hx356_2⟩ := at_T_Node HR0.out x13_1 p356 q356
         cases e356
         replace p356 := eq_true p356
         replace q356 := eq_true q356
         have p357 : 0 ≤ (x13_1 : Int) := of_decide_eq_true (by first | (with_reducible assumption) | assumption)
         have q357 : x13_1 < (l1.length : Int) := of_decide_eq_true (by first | (with_reducible assumption) | assumption)
         obtain ⟨ad357, e357, hx357_0, hx357_1, hx357_2⟩ := at_T_Node HR1.out x13_1 p357 q357
         cases e357
         replace p357 := eq_true p357
         replace q357 := eq_true q357
         go_wp2
         repeat (go_quiet (fail); try go_wp2)
         go_ret
         exact ⟨by first | rfl | (simp; done) | (simp [*]; done), by repeat (first | exact zX.refl _ | apply zX.step)⟩
        ·rw [if_neg c8] at H
         have c8b0 : (!(((zl l0 x13_1).f0) == ((zl l1 x13_1).f0)) || (!(((zl l0 x13_1).f1) == ((zl l1 x13_1).f1)) || (!(((zl l0 x13_1).f2) == ((zl l1 x13_1).f2))))) = false := by simpa using c8
         clear c8
         have H' := zb.mk H
         clear H
         have p356 : 0 ≤ (x13_1 : Int) := of_decide_eq_true (by first | (with_reducible assumption) | assumption)
         have q356 : x13_1 < (l0.length : Int) := of_decide_eq_true (by first | (with_reducible assumption) | assumption)
         obtain ⟨ad356, e356, hx356_0, hx356_1, hx356_2⟩ := at_T_Node HR0.out x13_1 p356 q356
         cases e356
         replace p356 := eq_true p356
         replace q356 := eq_true q356
         have p357 : 0 ≤ (x13_1 : Int) := of_decide_eq_true (by first | (with_reducible assumption) | assumption)
         have q357 : x13_1 < (l1.length : Int) := of_decide_eq_true (by first | (with_reducible assumption) | assumption)
         obtain ⟨ad357, e357, hx357_0, hx357_1, hx357_2⟩ := at_T_Node HR1.out x13_1 p357 q357
         cases e357
         replace p357 := eq_true p357
         replace q357 := eq_true q357
         go_wp2
         repeat (go_quiet (fail); try go_wp2)
         go_roundg k1
         case measure => have := HK1.out; omega
         case rel => exact ⟨(wrap64 (x13_1 + 1)), (by first | rfl | (simp; done) | (simp [*]; done)), H', ⟨by have := HK1.out; omega⟩, by repeat (first | exact zX.refl _ | apply zX.step)⟩
       ·rw [if_neg c7] at H
        exact absurd H (by simp)
      ·rw [if_neg c6] at H
       exact absurd H (by simp)
     ·rw [if_neg c5] at H
      exact absurd H (by simp)
    ·rw [if_neg c4] at H
     have c4b0 : decide (x13_1 < (l0.length : Int)) = false := decide_eq_false c4
     clear c4
     obtain rfl := Option.some.inj H
     go_wp2
     repeat (go_quiet (fail); try go_wp2)
     go_ret
     exact ⟨by first | rfl | (simp; done) | (simp [*]; done), by repeat (first | exact zX.refl _ | apply zX.step)⟩
 ·rw [if_neg c3] at H
  have c3b0 : ((l0.length : Int) == (l1.length : Int)) = false := beq_eq_false_iff_ne.mpr c3
  have c3b1 : ((l0.length : Int) != (l1.length : Int)) = true := bne_iff_ne.mpr c3
  have c3b2 : (l0.length == l1.length) = false := by first | simpa using c3 | (simp at c3 ⊢; omega)
  obtain rfl := Option.some.inj H
  go_enter Tryz.func202, Tryz.ntmps202
  go_wp2
  repeat (go_quiet (fail); try go_wp2)
  go_ret
  exact ⟨by first | rfl | (simp; done) | (simp [*]; done), by repeat (first | exact zX.refl _ | apply zX.step)⟩
end Go.Proofs.YtfabennfhmlihaaGreatDoor.P
end
section
namespace Go.Proofs.YtfabennfhmlihaaGreatDoor.P
open Go.RowKit Go.Proofs.YtfabennfhmlihaaGreatDoorW.zJ Go.Proofs.YtfabennfhmlihaaGreatDoorW.zU Go.Proofs.YtfabennfhmlihaaGreatDoorW.PrintMore
set_option linter.unusedVariables false
set_option linter.unusedSimpArgs false
/-- A state of type 82 at block g of W; what its slices lead to came in by w0. -/
def za (w0 W : World) (g : Nat) (f0 : List Int) (f1 : Int) (f2 : Int) : Prop := ∃ A0 c0, W.heap[g]? = some (.cells #[.slice A0 f0.length c0, .int .i64 f1, .int .u64 f2] 82 (0, 0)) ∧ w0.heap.size ≤ g ∧ Kd.C (Kd.int .u8) w0 A0 f0.length f0
theorem za.grown {w0 W : World} {g : Nat} {f0 : List Int} {f1 : Int} {f2 : Int} {W1 : World} {row : Option Nat} (h : za w0 W g f0 f1 f2) (hw : W.grownBy W1 row) (hne : some g ≠ row) : za w0 W1 g f0 f1 f2 := by
 obtain ⟨A0, c0, hb, hg, hr0⟩ := h
 exact ⟨A0, c0, blk_grown hb hw hne, hg, hr0⟩
theorem za.below {w0 W : World} {g : Nat} {f0 : List Int} {f1 : Int} {f2 : Int} {W1 : World} (h : za w0 W g f0 f1 f2) (hw : Below W.heap.size W W1) : za w0 W1 g f0 f1 f2 := h.grown (grown_of_below hw none) (by simp)
theorem za.alloc {w0 W : World} {g : Nat} {f0 : List Int} {f1 : Int} {f2 : Int} (h : za w0 W g f0 f1 f2) (o : Obj) : za w0 (W.alloc o) g f0 f1 f2 := h.below (zg (Below.refl _ _) o)
theorem za.drewN {w0 W : World} {g : Nat} {f0 : List Int} {f1 : Int} {f2 : Int} (h : za w0 W g f0 f1 f2) (m : Nat) : za w0 (W.drewN m) g f0 f1 f2 := h
theorem za.drew {w0 W : World} {g : Nat} {f0 : List Int} {f1 : Int} {f2 : Int} (h : za w0 W g f0 f1 f2) : za w0 W.drew g f0 f1 f2 := h
theorem za.apart {w0 W : World} {g : Nat} {f0 : List Int} {f1 : Int} {f2 : Int} {α : Type} {d : Kd α} {e : Nat} {base : Nat} {ok : Nat → Prop} {v : Value} {xs : List α} (h : za w0 W g f0 f1 f2) (ho : d.R e W base ok v xs) (ht : ∀ q, q ∈ e :: d.E → q ≠ 82) : d.R e W base (fun k => ok k ∧ k ≠ g) v xs := by
 obtain ⟨A0, c0, hb, hg, hr0⟩ := h
 exact Kd.zUa ho hb ht
theorem za.own_ne {w0 W : World} {g : Nat} {f0 : List Int} {f1 : Int} {f2 : Int} {α : Type} {d : Kd α} {e : Nat} {base : Nat} {ok : Nat → Prop} {v : Value} {xs : List α} (h : za w0 W g f0 f1 f2) (ho : d.R e W base ok v xs) (ht : e ≠ 82) : some g ≠ v.ownBlock := by
 obtain ⟨A0, c0, hb, hg, hr0⟩ := h
 exact Kd.R_ne ho hb ht
theorem za.lt {w0 W : World} {g : Nat} {f0 : List Int} {f1 : Int} {f2 : Int} (h : za w0 W g f0 f1 f2) : g < W.heap.size := by
 obtain ⟨A0, c0, hb, hg, hr0⟩ := h
 exact blk_lt hb
theorem za.ge {w0 W : World} {g : Nat} {f0 : List Int} {f1 : Int} {f2 : Int} (h : za w0 W g f0 f1 f2) : w0.heap.size ≤ g := by
 obtain ⟨A0, c0, hb, hg, hr0⟩ := h
 exact hg
theorem za.far {w0 W : World} {g : Nat} {f0 : List Int} {f1 : Int} {f2 : Int} {p : Addr} (h : za w0 W g f0 f1 f2) (hne : g ≠ p.block) (u : Value) : za w0 (W.setCell p u) g f0 f1 f2 := by
 obtain ⟨A0, c0, hb, hg, hr0⟩ := h
 exact ⟨A0, c0, blk_far hb hne u, hg, hr0⟩
theorem cellS_sl1Cur_0 {W : World} {g : Nat} {A0 : Option Addr} {c0 : Nat} {f0 : List Int} {f1 : Int} {f2 : Int} (h : W.heap[g]? = some (.cells #[.slice A0 f0.length c0, .int .i64 f1, .int .u64 f2] 82 (0, 0))) : W.cell? ⟨g, 0, none⟩ = some (.slice A0 f0.length c0) := (zD h 0).trans rfl
theorem cellS_sl1Cur_1 {W : World} {g : Nat} {A0 : Option Addr} {c0 : Nat} {f0 : List Int} {f1 : Int} {f2 : Int} (h : W.heap[g]? = some (.cells #[.slice A0 f0.length c0, .int .i64 f1, .int .u64 f2] 82 (0, 0))) : W.cell? ⟨g, 1, none⟩ = some (.int .i64 f1) := (zD h 1).trans rfl
theorem za.zca {w0 W : World} {g : Nat} {f0 : List Int} {f1 : Int} {f2 : Int} (h : za w0 W g f0 f1 f2) (x : Int) : za w0 (W.setCell ⟨g, 1, none⟩ (.int .i64 x)) g f0 x f2 := by
 obtain ⟨A0, c0, hb, hg, hr0⟩ := h
 exact ⟨A0, c0, by simpa using blk_set hb 1 (.int .i64 x), hg, hr0⟩
theorem cellS_sl1Cur_2 {W : World} {g : Nat} {A0 : Option Addr} {c0 : Nat} {f0 : List Int} {f1 : Int} {f2 : Int} (h : W.heap[g]? = some (.cells #[.slice A0 f0.length c0, .int .i64 f1, .int .u64 f2] 82 (0, 0))) : W.cell? ⟨g, 2, none⟩ = some (.int .u64 f2) := (zD h 2).trans rfl
theorem za.zba {w0 W : World} {g : Nat} {f0 : List Int} {f1 : Int} {f2 : Int} (h : za w0 W g f0 f1 f2) (x : Int) : za w0 (W.setCell ⟨g, 2, none⟩ (.int .u64 x)) g f0 f1 x := by
 obtain ⟨A0, c0, hb, hg, hr0⟩ := h
 exact ⟨A0, c0, by simpa using blk_set hb 2 (.int .u64 x), hg, hr0⟩
def zgb.f (s0_0 : List Int) (s0_1 : Int) (s0_2 : Int) : Option (Int × Int × Int) := if s0_1 < (s0_0.length : Int) then (if 0 ≤ s0_1 then (if (wrap64 (s0_1 + 1)) ≤ (s0_0.length : Int) then (some (wrap64 (rd s0_0 s0_1), wrap64 (s0_1 + 1), IntKind.u64.wrap ((IntKind.u64.wrap ((IntKind.u64.wrap (s0_2 * 6364136223846793005)) + (IntKind.u64.wrap (wrap64 (rd s0_0 s0_1))))) + 462197))) else (some (wrap64 (Go.bits .and .u64 ((IntKind.u64.wrap ((IntKind.u64.wrap ((IntKind.u64.wrap (s0_2 * 6364136223846793005)) + (IntKind.u64.wrap (wrap64 (rd s0_0 s0_1))))) + 462197)) / 1099511627776) 255), wrap64 (s0_1 + 1), IntKind.u64.wrap ((IntKind.u64.wrap ((IntKind.u64.wrap (s0_2 * 6364136223846793005)) + (IntKind.u64.wrap (wrap64 (rd s0_0 s0_1))))) + 462197)))) else (none)) else (if (wrap64 (s0_1 + 1)) ≤ (s0_0.length : Int) then (some (0, wrap64 (s0_1 + 1), IntKind.u64.wrap ((IntKind.u64.wrap ((IntKind.u64.wrap (s0_2 * 6364136223846793005)))) + 462197))) else (some (wrap64 (Go.bits .and .u64 ((IntKind.u64.wrap ((IntKind.u64.wrap ((IntKind.u64.wrap (s0_2 * 6364136223846793005)))) + 462197)) / 1099511627776) 255), wrap64 (s0_1 + 1), IntKind.u64.wrap ((IntKind.u64.wrap ((IntKind.u64.wrap (s0_2 * 6364136223846793005)))) + 462197))))
set_option maxHeartbeats 8000000 in
set_option maxRecDepth 100000 in
theorem zgb.calls (g : Nat) (s0_0 : List Int) (s0_1 : Int) (s0_2 : Int) (r1 : Int) (r2 : Int) (r3 : Int) (w0 w : World) (hI : za w0 w g s0_0 s0_1 s0_2) (hB : Below w0.heap.size w0 w) (h : zgb.f s0_0 s0_1 s0_2 = some (r1, r2, r3)) :
  Calls Tryz.prog 203 #[.pointer (some ⟨g, 0, none⟩)] w fun e w' => e = .returned (.int .i64 r1) ∧ za w0 w' g s0_0 r2 r3 ∧ Below w0.heap.size w0 w' ∧ zn w w' g none := by
 have HI0 := zb.mk hI
 have HK := zb.mk (zn.refl w g none)
 have HL := zb.mk hB.size
 clear hI
 have HW0 := zb.mk hB.size
 have HB := zb.mk hB
 clear hB
 have H : (if s0_1 < (s0_0.length : Int) then (if 0 ≤ s0_1 then (if (wrap64 (s0_1 + 1)) ≤ (s0_0.length : Int) then (some (wrap64 (rd s0_0 s0_1), wrap64 (s0_1 + 1), IntKind.u64.wrap ((IntKind.u64.wrap ((IntKind.u64.wrap (s0_2 * 6364136223846793005)) + (IntKind.u64.wrap (wrap64 (rd s0_0 s0_1))))) + 462197))) else (some (wrap64 (Go.bits .and .u64 ((IntKind.u64.wrap ((IntKind.u64.wrap ((IntKind.u64.wrap (s0_2 * 6364136223846793005)) + (IntKind.u64.wrap (wrap64 (rd s0_0 s0_1))))) + 462197)) / 1099511627776) 255), wrap64 (s0_1 + 1), IntKind.u64.wrap ((IntKind.u64.wrap ((IntKind.u64.wrap (s0_2 * 6364136223846793005)) + (IntKind.u64.wrap (wrap64 (rd s0_0 s0_1))))) + 462197)))) else (none)) else (if (wrap64 (s0_1 + 1)) ≤ (s0_0.length : Int) then (some (0, wrap64 (s0_1 + 1), IntKind.u64.wrap ((IntKind.u64.wrap ((IntKind.u64.wrap (s0_2 * 6364136223846793005)))) + 462197))) else (some (wrap64 (Go.bits .and .u64 ((IntKind.u64.wrap ((IntKind.u64.wrap ((IntKind.u64.wrap (s0_2 * 6364136223846793005)))) + 462197)) / 1099511627776) 255), wrap64 (s0_1 + 1), IntKind.u64.wrap ((IntKind.u64.wrap ((IntKind.u64.wrap (s0_2 * 6364136223846793005)))) + 462197))))) = some (r1, r2, r3) := h
 clear h
 by_cases c2 : s0_1 < (s0_0.length : Int)
 ·rw [if_pos c2] at H
  have c2b0 : decide (s0_1 < (s0_0.length : Int)) = true := decide_eq_true c2
  clear c2
  by_cases c3 : 0 ≤ s0_1
  ·rw [if_pos c3] at H
   have c3b0 : decide (0 ≤ s0_1) = true := decide_eq_true c3
   clear c3
   by_cases c4 : (wrap64 (s0_1 + 1)) ≤ (s0_0.length : Int)
   ·rw [if_pos c4] at H
    have c4b0 : decide ((wrap64 (s0_1 + 1)) ≤ (s0_0.length : Int)) = true := decide_eq_true c4
    clear c4
    simp only [Option.some.injEq, Prod.mk.injEq] at H
    obtain ⟨rfl, rfl, rfl⟩ := H
    obtain ⟨ASz5_0, cSz5_0, HGz5, hgz5, HSz5_0⟩ := HI0.out
    have hcz5_0 := cellS_sl1Cur_0 HGz5
    have hcz5_1 := cellS_sl1Cur_1 HGz5
    have hcz5_2 := cellS_sl1Cur_2 HGz5
    have hfz5_1 := zz HGz5 1
    have hfz5_2 := zz HGz5 2
    clear HGz5 hgz5
    have p101 : 0 ≤ (s0_1 : Int) := of_decide_eq_true (by first | (with_reducible assumption) | assumption)
    have q101 : s0_1 < (s0_0.length : Int) := of_decide_eq_true (by first | (with_reducible assumption) | assumption)
    obtain ⟨ad101, e101, hx101_0⟩ := Kd.at_int HSz5_0 s0_1 p101 q101
    cases e101
    replace hx101_0 := pw_cell_below HB.out hx101_0
    replace p101 := eq_true p101
    replace q101 := eq_true q101
    go_enter Tryz.func203, Tryz.ntmps203
    go_wp2
    repeat (go_quiet (fail); try go_wp2)
    go_ret
    exact ⟨by first | rfl | (simp [zC, zB] <;> rfl) | (simp [*, zC, zB] <;> rfl), by repeat (first | (with_reducible first | exact HI0.out | apply za.alloc | apply za.drewN | apply za.drew | apply za.zca | apply za.zba) | exact HI0.out), by repeat (first | (with_reducible first | exact HB.out | apply zg | apply ze | apply zf | refine zh ?_ (za.ge HI0.out)) | exact HB.out), by repeat (first | (with_reducible first | exact HK.out | apply zn.set_ | apply zy | apply zF | apply zx) | exact HK.out)⟩
   ·rw [if_neg c4] at H
    have c4b0 : decide ((wrap64 (s0_1 + 1)) ≤ (s0_0.length : Int)) = false := decide_eq_false c4
    clear c4
    simp only [Option.some.injEq, Prod.mk.injEq] at H
    obtain ⟨rfl, rfl, rfl⟩ := H
    obtain ⟨ASz6_0, cSz6_0, HGz6, hgz6, HSz6_0⟩ := HI0.out
    have hcz6_0 := cellS_sl1Cur_0 HGz6
    have hcz6_1 := cellS_sl1Cur_1 HGz6
    have hcz6_2 := cellS_sl1Cur_2 HGz6
    have hfz6_1 := zz HGz6 1
    have hfz6_2 := zz HGz6 2
    clear HGz6 hgz6
    have p101 : 0 ≤ (s0_1 : Int) := of_decide_eq_true (by first | (with_reducible assumption) | assumption)
    have q101 : s0_1 < (s0_0.length : Int) := of_decide_eq_true (by first | (with_reducible assumption) | assumption)
    obtain ⟨ad101, e101, hx101_0⟩ := Kd.at_int HSz6_0 s0_1 p101 q101
    cases e101
    replace hx101_0 := pw_cell_below HB.out hx101_0
    replace p101 := eq_true p101
    replace q101 := eq_true q101
    go_enter Tryz.func203, Tryz.ntmps203
    go_wp2
    repeat (go_quiet (fail); try go_wp2)
    go_ret
    exact ⟨by first | rfl | (simp [zC, zB] <;> rfl) | (simp [*, zC, zB] <;> rfl), by repeat (first | (with_reducible first | exact HI0.out | apply za.alloc | apply za.drewN | apply za.drew | apply za.zca | apply za.zba) | exact HI0.out), by repeat (first | (with_reducible first | exact HB.out | apply zg | apply ze | apply zf | refine zh ?_ (za.ge HI0.out)) | exact HB.out), by repeat (first | (with_reducible first | exact HK.out | apply zn.set_ | apply zy | apply zF | apply zx) | exact HK.out)⟩
  ·rw [if_neg c3] at H
   exact absurd H (by simp)
 ·rw [if_neg c2] at H
  have c2b0 : decide (s0_1 < (s0_0.length : Int)) = false := decide_eq_false c2
  clear c2
  by_cases c7 : (wrap64 (s0_1 + 1)) ≤ (s0_0.length : Int)
  ·rw [if_pos c7] at H
   have c7b0 : decide ((wrap64 (s0_1 + 1)) ≤ (s0_0.length : Int)) = true := decide_eq_true c7
   clear c7
   simp only [Option.some.injEq, Prod.mk.injEq] at H
   obtain ⟨rfl, rfl, rfl⟩ := H
   obtain ⟨ASz8_0, cSz8_0, HGz8, hgz8, HSz8_0⟩ := HI0.out
   have hcz8_0 := cellS_sl1Cur_0 HGz8
   have hcz8_1 := cellS_sl1Cur_1 HGz8
   have hcz8_2 := cellS_sl1Cur_2 HGz8
   have hfz8_1 := zz HGz8 1
   have hfz8_2 := zz HGz8 2
   clear HGz8 hgz8
   go_enter Tryz.func203, Tryz.ntmps203
   go_wp2
   repeat (go_quiet (fail); try go_wp2)
   go_ret
   exact ⟨by first | rfl | (simp [zC, zB] <;> rfl) | (simp [*, zC, zB] <;> rfl), by repeat (first | (with_reducible first | exact HI0.out | apply za.alloc | apply za.drewN | apply za.drew | apply za.zca | apply za.zba) | exact HI0.out), by repeat (first | (with_reducible first | exact HB.out | apply zg | apply ze | apply zf | refine zh ?_ (za.ge HI0.out)) | exact HB.out), by repeat (first | (with_reducible first | exact HK.out | apply zn.set_ | apply zy | apply zF | apply zx) | exact HK.out)⟩
  ·rw [if_neg c7] at H
   have c7b0 : decide ((wrap64 (s0_1 + 1)) ≤ (s0_0.length : Int)) = false := decide_eq_false c7
   clear c7
   simp only [Option.some.injEq, Prod.mk.injEq] at H
   obtain ⟨rfl, rfl, rfl⟩ := H
   obtain ⟨ASz9_0, cSz9_0, HGz9, hgz9, HSz9_0⟩ := HI0.out
   have hcz9_0 := cellS_sl1Cur_0 HGz9
   have hcz9_1 := cellS_sl1Cur_1 HGz9
   have hcz9_2 := cellS_sl1Cur_2 HGz9
   have hfz9_1 := zz HGz9 1
   have hfz9_2 := zz HGz9 2
   clear HGz9 hgz9
   go_enter Tryz.func203, Tryz.ntmps203
   go_wp2
   repeat (go_quiet (fail); try go_wp2)
   go_ret
   exact ⟨by first | rfl | (simp [zC, zB] <;> rfl) | (simp [*, zC, zB] <;> rfl), by repeat (first | (with_reducible first | exact HI0.out | apply za.alloc | apply za.drewN | apply za.drew | apply za.zca | apply za.zba) | exact HI0.out), by repeat (first | (with_reducible first | exact HB.out | apply zg | apply ze | apply zf | refine zh ?_ (za.ge HI0.out)) | exact HB.out), by repeat (first | (with_reducible first | exact HK.out | apply zn.set_ | apply zy | apply zF | apply zx) | exact HK.out)⟩
end Go.Proofs.YtfabennfhmlihaaGreatDoor.P
end
section
namespace Go.Proofs.YtfabennfhmlihaaGreatDoor.P
open Go.RowKit Go.Proofs.YtfabennfhmlihaaGreatDoorW.zJ Go.Proofs.YtfabennfhmlihaaGreatDoorW.zU Go.Proofs.YtfabennfhmlihaaGreatDoorW.PrintMore
set_option linter.unusedVariables false
set_option linter.unusedSimpArgs false
def zK.f (s0_0 : List Int) (s0_1 : Int) (s0_2 : Int) (a1 : Int) : Option (Int × Int × Int) := if a1 ≤ 1 then (some (0, s0_1, s0_2)) else ((zgb.f s0_0 s0_1 s0_2).bind fun bt102 => (if a1 > 200 then ((zgb.f s0_0 bt102.2.1 bt102.2.2).bind fun bt105 => (if a1 = 0 then (none) else (some (Int.tmod (wrap64 ((wrap64 (bt102.1 * 256)) + bt105.1)) a1, bt105.2.1, bt105.2.2)))) else (if a1 = 0 then (none) else (some (Int.tmod bt102.1 a1, bt102.2.1, bt102.2.2)))))
set_option maxHeartbeats 8000000 in
set_option maxRecDepth 100000 in
theorem zK.calls (g : Nat) (s0_0 : List Int) (s0_1 : Int) (s0_2 : Int) (a1 : Int) (r1 : Int) (r2 : Int) (r3 : Int) (w0 w : World) (hI : za w0 w g s0_0 s0_1 s0_2) (hB : Below w0.heap.size w0 w) (h : zK.f s0_0 s0_1 s0_2 a1 = some (r1, r2, r3)) :
  Calls Tryz.prog 132 #[.pointer (some ⟨g, 0, none⟩), .int .i64 a1] w fun e w' => e = .returned (.int .i64 r1) ∧ za w0 w' g s0_0 r2 r3 ∧ Below w0.heap.size w0 w' ∧ zn w w' g none := by
 have HI0 := zb.mk hI
 have HK := zb.mk (zn.refl w g none)
 have HL := zb.mk hB.size
 clear hI
 have HW0 := zb.mk hB.size
 have HB := zb.mk hB
 clear hB
 have H : (if a1 ≤ 1 then (some (0, s0_1, s0_2)) else ((zgb.f s0_0 s0_1 s0_2).bind fun bt102 => (if a1 > 200 then ((zgb.f s0_0 bt102.2.1 bt102.2.2).bind fun bt105 => (if a1 = 0 then (none) else (some (Int.tmod (wrap64 ((wrap64 (bt102.1 * 256)) + bt105.1)) a1, bt105.2.1, bt105.2.2)))) else (if a1 = 0 then (none) else (some (Int.tmod bt102.1 a1, bt102.2.1, bt102.2.2)))))) = some (r1, r2, r3) := h
 clear h
 by_cases c3 : a1 ≤ 1
 ·rw [if_pos c3] at H
  have c3b0 : decide (a1 ≤ 1) = true := decide_eq_true c3
  clear c3
  simp only [Option.some.injEq, Prod.mk.injEq] at H
  obtain ⟨rfl, rfl, rfl⟩ := H
  go_enter Tryz.func132, Tryz.ntmps132
  go_wp2
  go_ret
  exact ⟨by first | rfl | (simp [zC, zB] <;> rfl) | (simp [*, zC, zB] <;> rfl), by repeat (first | (with_reducible first | exact HI0.out | apply za.alloc | apply za.drewN | apply za.drew | apply za.zca | apply za.zba) | exact HI0.out), by repeat (first | (with_reducible first | exact HB.out | apply zg | apply ze | apply zf | refine zh ?_ (za.ge HI0.out)) | exact HB.out), by repeat (first | (with_reducible first | exact HK.out | apply zn.set_ | apply zy | apply zF | apply zx) | exact HK.out)⟩
 ·rw [if_neg c3] at H
  have c3b0 : decide (a1 ≤ 1) = false := decide_eq_false c3
  clear c3
  replace H := Option.bind_eq_some_iff.mp H
  obtain ⟨⟨t102, t103, t104⟩, A40, H⟩ := H
  replace H : (if a1 > 200 then ((zgb.f s0_0 t103 t104).bind fun bt105 => (if a1 = 0 then (none) else (some (Int.tmod (wrap64 ((wrap64 (t102 * 256)) + bt105.1)) a1, bt105.2.1, bt105.2.2)))) else (if a1 = 0 then (none) else (some (Int.tmod t102 a1, t103, t104)))) = some (r1, r2, r3) := H
  have A4 := zb.mk A40
  clear A40
  by_cases c5 : a1 > 200
  ·rw [if_pos c5] at H
   have c5b0 : decide (200 < a1) = true := decide_eq_true c5
   clear c5
   replace H := Option.bind_eq_some_iff.mp H
   obtain ⟨⟨t105, t106, t107⟩, A60, H⟩ := H
   replace H : (if a1 = 0 then (none) else (some (Int.tmod (wrap64 ((wrap64 (t102 * 256)) + t105)) a1, t106, t107))) = some (r1, r2, r3) := H
   have A6 := zb.mk A60
   clear A60
   by_cases c7 : a1 = 0
   ·rw [if_pos c7] at H
    exact absurd H (by simp)
   ·rw [if_neg c7] at H
    have c7b0 : (a1 == 0) = false := beq_eq_false_iff_ne.mpr c7
    have c7b1 : (a1 != 0) = true := bne_iff_ne.mpr c7
    simp only [Option.some.injEq, Prod.mk.injEq] at H
    obtain ⟨rfl, rfl, rfl⟩ := H
    go_enter Tryz.func132, Tryz.ntmps132
    go_wp2_with (first | ((with_reducible refine zH (f := 203) rfl ?_); refine zra (some 9) rfl rfl Tryz.func203 (by kernel_rfl) rfl #[.pointer (some ⟨g, 0, none⟩)] rfl (by (try simp only [List.map_toArray, List.map_cons, List.map_nil]); first | done | rfl | (simp only [List.length_drop, List.length_take]; rfl)) ?_; (with_reducible refine (zgb.calls g s0_0 s0_1 s0_2 t102 t103 t104 w0 _ ?side1 ?side2 A4.out).mono ?_); (case side1 => repeat (first | (with_reducible first | exact HI0.out | apply za.alloc | apply za.drewN | apply za.drew | apply za.zca | apply za.zba) | exact HI0.out)); (case side2 => repeat (first | (with_reducible first | exact HB.out | apply zg | apply ze | apply zf | refine zh ?_ (za.ge HI0.out)) | exact HB.out)); rintro e w8 ⟨rfl, hi, hb, hk⟩; refine ⟨_, rfl, ?_⟩; have n0_ := zb.mk (zn.trans (by repeat (first | (with_reducible first | exact HK.out | apply zn.set_ | apply zy | apply zF | apply zx) | exact HK.out)) hk (.inl rfl)); have n1_ := zb.mk (hb); have n2_ := zb.mk (hi); clear HK; clear HB; clear HI0; have HK := n0_; have HB := n1_; have HI0 := n2_; clear n0_ n1_ n2_; (try clear hb); (try clear hb2); (try clear hk); (try clear hi)) | ((with_reducible refine zH (f := 203) rfl ?_); refine zra (some 15) rfl rfl Tryz.func203 (by kernel_rfl) rfl #[.pointer (some ⟨g, 0, none⟩)] rfl (by (try simp only [List.map_toArray, List.map_cons, List.map_nil]); first | done | rfl | (simp only [List.length_drop, List.length_take]; rfl)) ?_; (with_reducible refine (zgb.calls g s0_0 t103 t104 t105 t106 t107 w0 _ ?side1 ?side2 A6.out).mono ?_); (case side1 => repeat (first | (with_reducible first | exact HI0.out | apply za.alloc | apply za.drewN | apply za.drew | apply za.zca | apply za.zba) | exact HI0.out)); (case side2 => repeat (first | (with_reducible first | exact HB.out | apply zg | apply ze | apply zf | refine zh ?_ (za.ge HI0.out)) | exact HB.out)); rintro e w9 ⟨rfl, hi, hb, hk⟩; refine ⟨_, rfl, ?_⟩; have n0_ := zb.mk (zn.trans (by repeat (first | (with_reducible first | exact HK.out | apply zn.set_ | apply zy | apply zF | apply zx) | exact HK.out)) hk (.inl rfl)); have n1_ := zb.mk (hb); have n2_ := zb.mk (hi); clear HK; clear HB; clear HI0; have HK := n0_; have HB := n1_; have HI0 := n2_; clear n0_ n1_ n2_; (try clear hb); (try clear hb2); (try clear hk); (try clear hi)))
    go_ret
    exact ⟨by first | rfl | (simp [zC, zB] <;> rfl) | (simp [*, zC, zB] <;> rfl), by repeat (first | (with_reducible first | exact HI0.out | apply za.alloc | apply za.drewN | apply za.drew | apply za.zca | apply za.zba) | exact HI0.out), by repeat (first | (with_reducible first | exact HB.out | apply zg | apply ze | apply zf | refine zh ?_ (za.ge HI0.out)) | exact HB.out), by repeat (first | (with_reducible first | exact HK.out | apply zn.set_ | apply zy | apply zF | apply zx) | exact HK.out)⟩
  ·rw [if_neg c5] at H
   have c5b0 : decide (200 < a1) = false := decide_eq_false c5
   clear c5
   by_cases c10 : a1 = 0
   ·rw [if_pos c10] at H
    exact absurd H (by simp)
   ·rw [if_neg c10] at H
    have c10b0 : (a1 == 0) = false := beq_eq_false_iff_ne.mpr c10
    have c10b1 : (a1 != 0) = true := bne_iff_ne.mpr c10
    simp only [Option.some.injEq, Prod.mk.injEq] at H
    obtain ⟨rfl, rfl, rfl⟩ := H
    go_enter Tryz.func132, Tryz.ntmps132
    go_wp2_with (first | ((with_reducible refine zH (f := 203) rfl ?_); refine zra (some 9) rfl rfl Tryz.func203 (by kernel_rfl) rfl #[.pointer (some ⟨g, 0, none⟩)] rfl (by (try simp only [List.map_toArray, List.map_cons, List.map_nil]); first | done | rfl | (simp only [List.length_drop, List.length_take]; rfl)) ?_; (with_reducible refine (zgb.calls g s0_0 s0_1 s0_2 t102 t103 t104 w0 _ ?side1 ?side2 A4.out).mono ?_); (case side1 => repeat (first | (with_reducible first | exact HI0.out | apply za.alloc | apply za.drewN | apply za.drew | apply za.zca | apply za.zba) | exact HI0.out)); (case side2 => repeat (first | (with_reducible first | exact HB.out | apply zg | apply ze | apply zf | refine zh ?_ (za.ge HI0.out)) | exact HB.out)); rintro e w11 ⟨rfl, hi, hb, hk⟩; refine ⟨_, rfl, ?_⟩; have n0_ := zb.mk (zn.trans (by repeat (first | (with_reducible first | exact HK.out | apply zn.set_ | apply zy | apply zF | apply zx) | exact HK.out)) hk (.inl rfl)); have n1_ := zb.mk (hb); have n2_ := zb.mk (hi); clear HK; clear HB; clear HI0; have HK := n0_; have HB := n1_; have HI0 := n2_; clear n0_ n1_ n2_; (try clear hb); (try clear hb2); (try clear hk); (try clear hi)))
    go_ret
    exact ⟨by first | rfl | (simp [zC, zB] <;> rfl) | (simp [*, zC, zB] <;> rfl), by repeat (first | (with_reducible first | exact HI0.out | apply za.alloc | apply za.drewN | apply za.drew | apply za.zca | apply za.zba) | exact HI0.out), by repeat (first | (with_reducible first | exact HB.out | apply zg | apply ze | apply zf | refine zh ?_ (za.ge HI0.out)) | exact HB.out), by repeat (first | (with_reducible first | exact HK.out | apply zn.set_ | apply zy | apply zF | apply zx) | exact HK.out)⟩
end Go.Proofs.YtfabennfhmlihaaGreatDoor.P
end
section
namespace Go.Proofs.YtfabennfhmlihaaGreatDoor.P
open Go.RowKit Go.Proofs.YtfabennfhmlihaaGreatDoorW.zJ Go.Proofs.YtfabennfhmlihaaGreatDoorW.zU Go.Proofs.YtfabennfhmlihaaGreatDoorW.PrintMore
set_option linter.unusedVariables false
set_option linter.unusedSimpArgs false
def zM.f (s0_0 : List Int) (s0_1 : Int) (s0_2 : Int) (a1 : Int) : Option (Bool × Int × Int) := (zK.f s0_0 s0_1 s0_2 a1).bind fun bt108 => (some ((bt108.1 == 0), bt108.2.1, bt108.2.2))
set_option maxHeartbeats 8000000 in
set_option maxRecDepth 100000 in
theorem zM.calls (g : Nat) (s0_0 : List Int) (s0_1 : Int) (s0_2 : Int) (a1 : Int) (r1 : Bool) (r2 : Int) (r3 : Int) (w0 w : World) (hI : za w0 w g s0_0 s0_1 s0_2) (hB : Below w0.heap.size w0 w) (h : zM.f s0_0 s0_1 s0_2 a1 = some (r1, r2, r3)) :
  Calls Tryz.prog 127 #[.pointer (some ⟨g, 0, none⟩), .int .i64 a1] w fun e w' => e = .returned (.bool r1) ∧ za w0 w' g s0_0 r2 r3 ∧ Below w0.heap.size w0 w' ∧ zn w w' g none := by
 have HI0 := zb.mk hI
 have HK := zb.mk (zn.refl w g none)
 have HL := zb.mk hB.size
 clear hI
 have HW0 := zb.mk hB.size
 have HB := zb.mk hB
 clear hB
 have H : ((zK.f s0_0 s0_1 s0_2 a1).bind fun bt108 => (some ((bt108.1 == 0), bt108.2.1, bt108.2.2))) = some (r1, r2, r3) := h
 clear h
 replace H := Option.bind_eq_some_iff.mp H
 obtain ⟨⟨t108, t109, t110⟩, A30, H⟩ := H
 replace H : (some ((t108 == 0), t109, t110)) = some (r1, r2, r3) := H
 have A3 := zb.mk A30
 clear A30
 simp only [Option.some.injEq, Prod.mk.injEq] at H
 obtain ⟨rfl, rfl, rfl⟩ := H
 go_enter Tryz.func127, Tryz.ntmps127
 go_wp2_with (first | ((with_reducible refine zH (f := 132) rfl ?_); refine zra (some 7) rfl rfl Tryz.func132 (by kernel_rfl) rfl #[.pointer (some ⟨g, 0, none⟩), .int .i64 a1] rfl (by (try simp only [List.map_toArray, List.map_cons, List.map_nil]); first | done | rfl | (simp only [List.length_drop, List.length_take]; rfl)) ?_; (with_reducible refine (zK.calls g s0_0 s0_1 s0_2 a1 t108 t109 t110 w0 _ ?side1 ?side2 A3.out).mono ?_); (case side1 => repeat (first | (with_reducible first | exact HI0.out | apply za.alloc | apply za.drewN | apply za.drew | apply za.zca | apply za.zba) | exact HI0.out)); (case side2 => repeat (first | (with_reducible first | exact HB.out | apply zg | apply ze | apply zf | refine zh ?_ (za.ge HI0.out)) | exact HB.out)); rintro e w4 ⟨rfl, hi, hb, hk⟩; refine ⟨_, rfl, ?_⟩; have n0_ := zb.mk (zn.trans (by repeat (first | (with_reducible first | exact HK.out | apply zn.set_ | apply zy | apply zF | apply zx) | exact HK.out)) hk (.inl rfl)); have n1_ := zb.mk (hb); have n2_ := zb.mk (hi); clear HK; clear HB; clear HI0; have HK := n0_; have HB := n1_; have HI0 := n2_; clear n0_ n1_ n2_; (try clear hb); (try clear hb2); (try clear hk); (try clear hi)))
 go_ret
 exact ⟨by first | rfl | (simp [zC, zB] <;> rfl) | (simp [*, zC, zB] <;> rfl), by repeat (first | (with_reducible first | exact HI0.out | apply za.alloc | apply za.drewN | apply za.drew | apply za.zca | apply za.zba) | exact HI0.out), by repeat (first | (with_reducible first | exact HB.out | apply zg | apply ze | apply zf | refine zh ?_ (za.ge HI0.out)) | exact HB.out), by repeat (first | (with_reducible first | exact HK.out | apply zn.set_ | apply zy | apply zF | apply zx) | exact HK.out)⟩
end Go.Proofs.YtfabennfhmlihaaGreatDoor.P
end
