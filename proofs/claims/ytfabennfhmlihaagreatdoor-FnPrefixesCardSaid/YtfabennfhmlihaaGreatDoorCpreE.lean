/- A part of the proof of FnPrefixes. -/
import Derived.Test.YtfabennfhmlihaaGreatDoorCpreD
import Derived.ArgAppend
import Derived.Below
import Derived.BigQuiet
import Derived.BigRegion
import Derived.Deep.AppendLies
import Derived.Deep.CutBlock
import Derived.Deep.DeepCutAuto
import Derived.Deep.Draws
import Derived.Deep.LoopGhost
import Derived.Deep.OwnRows
import Derived.Deep.QuietTactic
import Derived.Deep.RegionHeld3
import Derived.KernelRfl
import Derived.Laws.BitsLemmas
import Derived.Laws.BytesArg
import Derived.Laws.IdiomCopy
import Derived.Laws.MakeOwn
import Derived.Laws.OwnMore
import Derived.Laws.Rows
import Derived.Laws.Slices
import Derived.Laws.StructEq
import Derived.Lib.AppendStr
import Derived.Lib.ConvBytes
import Derived.Maps.AppendAt
import Derived.OrdersHeld
import Derived.Outline
import Derived.OwnWalk
import Derived.RowKit
import Derived.RowKit3
import Derived.Tactics
import Derived.WalkKit
import Derived.WideLaws
section
namespace Go.Proofs.YtfabennfhmlihaaGreatDoor.P
open Go.RowKit Go.Proofs.YtfabennfhmlihaaGreatDoorW.zJ Go.Proofs.YtfabennfhmlihaaGreatDoorW.zU Go.Proofs.YtfabennfhmlihaaGreatDoorW.PrintMore
set_option linter.unusedVariables false
set_option linter.unusedSimpArgs false
def zCa.f (s0_0 : List Int) (s0_1 : Int) (s0_2 : Int) (l1 : List ByteArray) : Option (ByteArray × Int × Int) := (zK.f s0_0 s0_1 s0_2 (l1.length : Int)).bind fun bt115 => (if 0 ≤ bt115.1 then (if bt115.1 < (l1.length : Int) then (some (rdOf ByteArray.empty l1 bt115.1, bt115.2.1, bt115.2.2)) else (none)) else (none))
set_option maxHeartbeats 8000000 in
set_option maxRecDepth 100000 in
theorem zCa.calls (g : Nat) (s0_0 : List Int) (s0_1 : Int) (s0_2 : Int) (A1 : Option Addr) (c1 : Nat) (l1 : List ByteArray) (r1 : ByteArray) (r2 : Int) (r3 : Int) (w0 w : World) (hI : za w0 w g s0_0 s0_1 s0_2) (hB : Below w0.heap.size w0 w) (hr1 : Kd.C Kd.string w A1 l1.length l1) (hc1 : l1.length ≤ c1) (hf1 : ∀ ad, A1 = some ad → 0 < l1.length → ad.block ≠ g) (h : zCa.f s0_0 s0_1 s0_2 l1 = some (r1, r2, r3)) :
  Calls Tryz.prog 126 #[.pointer (some ⟨g, 0, none⟩), .slice A1 l1.length c1] w fun e w' => e = .returned (.string r1) ∧ za w0 w' g s0_0 r2 r3 ∧ Below w0.heap.size w0 w' ∧ zn w w' g none := by
 have HR1 := zb.mk hr1
 have HC1 := zb.mk hc1
 clear hr1 hc1
 have HI0 := zb.mk hI
 have HK := zb.mk (zn.refl w g none)
 have HL := zb.mk hB.size
 clear hI
 have HW0 := zb.mk hB.size
 have HB := zb.mk hB
 clear hB
 have H : ((zK.f s0_0 s0_1 s0_2 (l1.length : Int)).bind fun bt115 => (if 0 ≤ bt115.1 then (if bt115.1 < (l1.length : Int) then (some (rdOf ByteArray.empty l1 bt115.1, bt115.2.1, bt115.2.2)) else (none)) else (none))) = some (r1, r2, r3) := h
 clear h
 replace H := Option.bind_eq_some_iff.mp H
 obtain ⟨⟨t115, t116, t117⟩, A30, H⟩ := H
 replace H : (if 0 ≤ t115 then (if t115 < (l1.length : Int) then (some (rdOf ByteArray.empty l1 t115, t116, t117)) else (none)) else (none)) = some (r1, r2, r3) := H
 have A3 := zb.mk A30
 clear A30
 by_cases c4 : 0 ≤ t115
 ·rw [if_pos c4] at H
  have c4b0 : decide (0 ≤ t115) = true := decide_eq_true c4
  clear c4
  by_cases c5 : t115 < (l1.length : Int)
  ·rw [if_pos c5] at H
   have c5b0 : decide (t115 < (l1.length : Int)) = true := decide_eq_true c5
   clear c5
   simp only [Option.some.injEq, Prod.mk.injEq] at H
   obtain ⟨rfl, rfl, rfl⟩ := H
   go_enter Tryz.func126, Tryz.ntmps126
   go_wp2_with (first | ((with_reducible refine zH (f := 132) rfl ?_); refine zra (some 9) rfl rfl Tryz.func132 (by kernel_rfl) rfl #[.pointer (some ⟨g, 0, none⟩), .int .i64 (l1.length : Int)] rfl (by (try simp only [List.map_toArray, List.map_cons, List.map_nil]); first | done | rfl | (simp only [List.length_drop, List.length_take]; rfl)) ?_; (with_reducible refine (zK.calls g s0_0 s0_1 s0_2 (l1.length : Int) t115 t116 t117 w0 _ ?side1 ?side2 A3.out).mono ?_); (case side1 => repeat (first | (with_reducible first | exact HI0.out | apply za.alloc | apply za.drewN | apply za.drew | apply za.zca | apply za.zba) | exact HI0.out)); (case side2 => repeat (first | (with_reducible first | exact HB.out | apply zg | apply ze | apply zf | refine zh ?_ (za.ge HI0.out)) | exact HB.out)); rintro e w6 ⟨rfl, hi, hb, hk⟩; refine ⟨_, rfl, ?_⟩; have n0_ := zb.mk (zn.trans (by repeat (first | (with_reducible first | exact HK.out | apply zn.set_ | apply zy | apply zF | apply zx) | exact HK.out)) hk (.inl rfl)); have n1_ := zb.mk (hb); have n2_ := zb.mk (hi); clear HK; clear HB; clear HI0; have HK := n0_; have HB := n1_; have HI0 := n2_; clear n0_ n1_ n2_; (try clear hb); (try clear hb2); (try clear hk); (try clear hi); have p118 : 0 ≤ (t115 : Int) := of_decide_eq_true (by first | (with_reducible assumption) | assumption); have q118 : t115 < (l1.length : Int) := of_decide_eq_true (by first | (with_reducible assumption) | assumption); obtain ⟨ad118, e118, hx118_0⟩ := Kd.zza HR1.out t115 p118 q118; cases e118; replace hx118_0 := keep_cell HK.out hx118_0 (by first | (rw [add_block]; exact hf1 _ rfl (by omega)) | exact hf1 _ rfl (by omega) | exact hf1 ad118 rfl (by omega)); replace p118 := eq_true p118; replace q118 := eq_true q118))
   go_ret
   exact ⟨by first | rfl | (simp [zC, zB] <;> rfl) | (simp [*, zC, zB] <;> rfl), by repeat (first | (with_reducible first | exact HI0.out | apply za.alloc | apply za.drewN | apply za.drew | apply za.zca | apply za.zba) | exact HI0.out), by repeat (first | (with_reducible first | exact HB.out | apply zg | apply ze | apply zf | refine zh ?_ (za.ge HI0.out)) | exact HB.out), by repeat (first | (with_reducible first | exact HK.out | apply zn.set_ | apply zy | apply zF | apply zx) | exact HK.out)⟩
  ·rw [if_neg c5] at H
   exact absurd H (by simp)
 ·rw [if_neg c4] at H
  exact absurd H (by simp)
end Go.Proofs.YtfabennfhmlihaaGreatDoor.P
end
section
namespace Go.Proofs.YtfabennfhmlihaaGreatDoor.P
open Go.RowKit Go.Proofs.YtfabennfhmlihaaGreatDoorW.zJ Go.Proofs.YtfabennfhmlihaaGreatDoorW.zU Go.Proofs.YtfabennfhmlihaaGreatDoorW.PrintMore
set_option linter.unusedVariables false
set_option linter.unusedSimpArgs false
def zaa.f (s0_0 : List Int) (s0_1 : Int) (s0_2 : Int) (l1 : List Int) : Option (Int × Int × Int) := (zK.f s0_0 s0_1 s0_2 (l1.length : Int)).bind fun bt111 => (if 0 ≤ bt111.1 then (if bt111.1 < (l1.length : Int) then (some (rd l1 bt111.1, bt111.2.1, bt111.2.2)) else (none)) else (none))
set_option maxHeartbeats 8000000 in
set_option maxRecDepth 100000 in
theorem zaa.calls (g : Nat) (s0_0 : List Int) (s0_1 : Int) (s0_2 : Int) (A1 : Option Addr) (c1 : Nat) (l1 : List Int) (r1 : Int) (r2 : Int) (r3 : Int) (w0 w : World) (hI : za w0 w g s0_0 s0_1 s0_2) (hB : Below w0.heap.size w0 w) (hr1 : Kd.C (Kd.int .i64) w A1 l1.length l1) (hc1 : l1.length ≤ c1) (hf1 : ∀ ad, A1 = some ad → 0 < l1.length → ad.block ≠ g) (h : zaa.f s0_0 s0_1 s0_2 l1 = some (r1, r2, r3)) :
  Calls Tryz.prog 155 #[.pointer (some ⟨g, 0, none⟩), .slice A1 l1.length c1] w fun e w' => e = .returned (.int .i64 r1) ∧ za w0 w' g s0_0 r2 r3 ∧ Below w0.heap.size w0 w' ∧ zn w w' g none := by
 have HR1 := zb.mk hr1
 have HC1 := zb.mk hc1
 clear hr1 hc1
 have HI0 := zb.mk hI
 have HK := zb.mk (zn.refl w g none)
 have HL := zb.mk hB.size
 clear hI
 have HW0 := zb.mk hB.size
 have HB := zb.mk hB
 clear hB
 have H : ((zK.f s0_0 s0_1 s0_2 (l1.length : Int)).bind fun bt111 => (if 0 ≤ bt111.1 then (if bt111.1 < (l1.length : Int) then (some (rd l1 bt111.1, bt111.2.1, bt111.2.2)) else (none)) else (none))) = some (r1, r2, r3) := h
 clear h
 replace H := Option.bind_eq_some_iff.mp H
 obtain ⟨⟨t111, t112, t113⟩, A30, H⟩ := H
 replace H : (if 0 ≤ t111 then (if t111 < (l1.length : Int) then (some (rd l1 t111, t112, t113)) else (none)) else (none)) = some (r1, r2, r3) := H
 have A3 := zb.mk A30
 clear A30
 by_cases c4 : 0 ≤ t111
 ·rw [if_pos c4] at H
  have c4b0 : decide (0 ≤ t111) = true := decide_eq_true c4
  clear c4
  by_cases c5 : t111 < (l1.length : Int)
  ·rw [if_pos c5] at H
   have c5b0 : decide (t111 < (l1.length : Int)) = true := decide_eq_true c5
   clear c5
   simp only [Option.some.injEq, Prod.mk.injEq] at H
   obtain ⟨rfl, rfl, rfl⟩ := H
   go_enter Tryz.func155, Tryz.ntmps155
   go_wp2_with (first | ((with_reducible refine zH (f := 132) rfl ?_); refine zra (some 9) rfl rfl Tryz.func132 (by kernel_rfl) rfl #[.pointer (some ⟨g, 0, none⟩), .int .i64 (l1.length : Int)] rfl (by (try simp only [List.map_toArray, List.map_cons, List.map_nil]); first | done | rfl | (simp only [List.length_drop, List.length_take]; rfl)) ?_; (with_reducible refine (zK.calls g s0_0 s0_1 s0_2 (l1.length : Int) t111 t112 t113 w0 _ ?side1 ?side2 A3.out).mono ?_); (case side1 => repeat (first | (with_reducible first | exact HI0.out | apply za.alloc | apply za.drewN | apply za.drew | apply za.zca | apply za.zba) | exact HI0.out)); (case side2 => repeat (first | (with_reducible first | exact HB.out | apply zg | apply ze | apply zf | refine zh ?_ (za.ge HI0.out)) | exact HB.out)); rintro e w6 ⟨rfl, hi, hb, hk⟩; refine ⟨_, rfl, ?_⟩; have n0_ := zb.mk (zn.trans (by repeat (first | (with_reducible first | exact HK.out | apply zn.set_ | apply zy | apply zF | apply zx) | exact HK.out)) hk (.inl rfl)); have n1_ := zb.mk (hb); have n2_ := zb.mk (hi); clear HK; clear HB; clear HI0; have HK := n0_; have HB := n1_; have HI0 := n2_; clear n0_ n1_ n2_; (try clear hb); (try clear hb2); (try clear hk); (try clear hi); have p114 : 0 ≤ (t111 : Int) := of_decide_eq_true (by first | (with_reducible assumption) | assumption); have q114 : t111 < (l1.length : Int) := of_decide_eq_true (by first | (with_reducible assumption) | assumption); obtain ⟨ad114, e114, hx114_0⟩ := Kd.at_int HR1.out t111 p114 q114; cases e114; replace hx114_0 := keep_cell HK.out hx114_0 (by first | (rw [add_block]; exact hf1 _ rfl (by omega)) | exact hf1 _ rfl (by omega) | exact hf1 ad114 rfl (by omega)); replace p114 := eq_true p114; replace q114 := eq_true q114))
   go_ret
   exact ⟨by first | rfl | (simp [zC, zB] <;> rfl) | (simp [*, zC, zB] <;> rfl), by repeat (first | (with_reducible first | exact HI0.out | apply za.alloc | apply za.drewN | apply za.drew | apply za.zca | apply za.zba) | exact HI0.out), by repeat (first | (with_reducible first | exact HB.out | apply zg | apply ze | apply zf | refine zh ?_ (za.ge HI0.out)) | exact HB.out), by repeat (first | (with_reducible first | exact HK.out | apply zn.set_ | apply zy | apply zF | apply zx) | exact HK.out)⟩
  ·rw [if_neg c5] at H
   exact absurd H (by simp)
 ·rw [if_neg c4] at H
  exact absurd H (by simp)
end Go.Proofs.YtfabennfhmlihaaGreatDoor.P
end
section
namespace Go.Proofs.YtfabennfhmlihaaGreatDoor.P
open Go.RowKit Go.Proofs.YtfabennfhmlihaaGreatDoorW.zJ Go.Proofs.YtfabennfhmlihaaGreatDoorW.zU Go.Proofs.YtfabennfhmlihaaGreatDoorW.PrintMore
set_option linter.unusedVariables false
set_option linter.unusedSimpArgs false
def zsa.l0 : Nat → ByteArray → Int → List Int → Int → Int → Option (ByteArray × Int × Int)
 | 0, _, _, _, _, _ => none
 | k + 1, x3, x4, x1000, x1001, x1002 => if x4 > 0 then ((zCa.f x1000 x1001 x1002 (([(⟨#[97]⟩ : ByteArray), (⟨#[98]⟩ : ByteArray), (⟨#[97]⟩ : ByteArray), (⟨#[99]⟩ : ByteArray), (⟨#[98]⟩ : ByteArray), (⟨#[122]⟩ : ByteArray)] : List ByteArray))).bind fun bt128 => (if x3.size + bt128.1.size ≤ 9223372036854775807 then (zsa.l0 k (x3 ++ bt128.1) (wrap64 (x4 - 1)) x1000 bt128.2.1 bt128.2.2) else (none))) else ((zM.f x1000 x1001 x1002 50).bind fun bt131 => (if bt131.1 = true then ((zCa.f x1000 bt131.2.1 bt131.2.2 (([(⟨#[65]⟩ : ByteArray), (⟨#[123]⟩ : ByteArray), (⟨#[32]⟩ : ByteArray), (⟨#[97, 97, 97, 97, 97, 97, 97, 97, 97, 97, 97, 97, 97]⟩ : ByteArray)] : List ByteArray))).bind fun bt137 => (if x3.size + bt137.1.size ≤ 9223372036854775807 then (some (x3 ++ bt137.1, bt137.2.1, bt137.2.2)) else (none))) else (some (x3, bt131.2.1, bt131.2.2))))
def zsa.f (k : Nat) (s0_0 : List Int) (s0_1 : Int) (s0_2 : Int) : Option (ByteArray × Int × Int) := (zaa.f s0_0 s0_1 s0_2 (([3, 2, 4, 1, 5, 0, 3, 12] : List Int))).bind fun bt122 => (zsa.l0 k (⟨#[]⟩ : ByteArray) bt122.1 s0_0 bt122.2.1 bt122.2.2)
set_option maxHeartbeats 8000000 in
set_option maxRecDepth 100000 in
theorem zsa.calls (k : Nat) (g : Nat) (s0_0 : List Int) (s0_1 : Int) (s0_2 : Int) (r1 : ByteArray) (r2 : Int) (r3 : Int) (w0 w : World) (hI : za w0 w g s0_0 s0_1 s0_2) (hB : Below w0.heap.size w0 w) (h : zsa.f k s0_0 s0_1 s0_2 = some (r1, r2, r3)) :
  Calls Tryz.prog 184 #[.pointer (some ⟨g, 0, none⟩)] w fun e w' => e = .returned (.string r1) ∧ za w0 w' g s0_0 r2 r3 ∧ Below w0.heap.size w0 w' ∧ zn w w' g none := by
 have HI0 := zb.mk hI
 have HK := zb.mk (zn.refl w g none)
 have HL := zb.mk hB.size
 clear hI
 have HW0 := zb.mk hB.size
 have HB := zb.mk hB
 clear hB
 have H : ((zaa.f s0_0 s0_1 s0_2 (([3, 2, 4, 1, 5, 0, 3, 12] : List Int))).bind fun bt122 => (zsa.l0 k (⟨#[]⟩ : ByteArray) bt122.1 s0_0 bt122.2.1 bt122.2.2)) = some (r1, r2, r3) := h
 clear h
 obtain ⟨y119, hy119⟩ : ∃ y_ : List Int, y_ = (([3, 2, 4, 1, 5, 0, 3, 12] : List Int)) := ⟨_, rfl⟩
 replace H : ((zaa.f s0_0 s0_1 s0_2 y119).bind fun bt122 => (zsa.l0 k (⟨#[]⟩ : ByteArray) bt122.1 s0_0 bt122.2.1 bt122.2.2)) = some (r1, r2, r3) := by first | (rw [hy119]; with_reducible exact H) | (have H2_ := (Option.bind_some _ _).symm.trans H; rw [hy119]; with_reducible exact H2_) | (have H2_ := (Option.bind_some _ _).symm.trans H; with_reducible exact H2_) | with_reducible exact H | (rw [hy119]; exact H) | exact H
 have Ny119 := zb.mk hy119
 clear hy119
 replace H := Option.bind_eq_some_iff.mp H
 obtain ⟨⟨t122, t123, t124⟩, A20, H⟩ := H
 replace H : (zsa.l0 k (⟨#[]⟩ : ByteArray) t122 s0_0 t123 t124) = some (r1, r2, r3) := H
 have A2 := zb.mk A20
 clear A20
 have H' := zb.mk H
 clear H
 go_enter Tryz.func184, Tryz.ntmps184
 go_wp2_with (first | ((with_reducible refine zoa (N := 6) rfl ?_); refine Kd.R_lit (Kd.int .i64) _ 3 ?hg (N := 6) ?hd (xs := ([3, 2, 4, 1, 5, 0, 3, 12] : List Int)) (inner := [.int .i64 3, .int .i64 2, .int .i64 4, .int .i64 1, .int .i64 5, .int .i64 0, .int .i64 3, .int .i64 12]) (ok := fun _ => True) (okp := fun _ => True) ?hr ?hp (fun _ hk => hk) trivial (Below.refl _ _) (Nat.le_refl _) (by simp) ?_; (case hd => rfl); (case hg => rfl); (case hr => first | (go_simp; done) | (go_simp; rfl)); (case hp => exact (Reps.one (show Kd.M (Kd.int .i64) _ _ _ 3 [.int .i64 3] from rfl) (Reps.one (show Kd.M (Kd.int .i64) _ _ _ 2 [.int .i64 2] from rfl) (Reps.one (show Kd.M (Kd.int .i64) _ _ _ 4 [.int .i64 4] from rfl) (Reps.one (show Kd.M (Kd.int .i64) _ _ _ 1 [.int .i64 1] from rfl) (Reps.one (show Kd.M (Kd.int .i64) _ _ _ 5 [.int .i64 5] from rfl) (Reps.one (show Kd.M (Kd.int .i64) _ _ _ 0 [.int .i64 0] from rfl) (Reps.one (show Kd.M (Kd.int .i64) _ _ _ 3 [.int .i64 3] from rfl) (Reps.one (show Kd.M (Kd.int .i64) _ _ _ 12 [.int .i64 12] from rfl) (Reps.none _ _)))))))))); intro v120 w3 ho4 hb hg_ hnew_; clear hg_ hnew_; (first | rw [← Ny119.out] at ho4 | (simp only [Int.reduceToNat] at ho4; rw [← Ny119.out] at ho4)); have n0_ := zb.mk (Kd.zua ho4 (zYa (w := w) (g := g) (row := none) (by repeat (first | (with_reducible first | exact HK.out | apply zn.set_ | apply zy | apply zF | apply zx) | exact HK.out)))); have n1_ := zb.mk (za.below (by repeat (first | (with_reducible first | exact HI0.out | apply za.alloc | apply za.drewN | apply za.drew | apply za.zca | apply za.zba) | exact HI0.out)) hb); have n2_ := zb.mk (zn.trans (by repeat (first | (with_reducible first | exact HK.out | apply zn.set_ | apply zy | apply zF | apply zx) | exact HK.out)) (zn.of_below hb g none) (.inl rfl)); have n3_ := zb.mk (zw (by repeat (first | (with_reducible first | exact HB.out | apply zg | apply ze | apply zf | refine zh ?_ (za.ge HI0.out)) | exact HB.out)) hb); clear HI0; clear HK; clear HB; have HO121 := n0_; have HI0 := n1_; have HK := n2_; have HB := n3_; clear n0_ n1_ n2_ n3_; clear hb ho4; obtain ⟨Ao5, co5, eo5⟩ := Kd.zpa HO121.out; subst eo5) | ((with_reducible refine zH (f := 155) rfl ?_); refine zra (some 7) rfl rfl Tryz.func155 (by kernel_rfl) rfl #[.pointer (some ⟨g, 0, none⟩), .slice Ao5 y119.length co5] rfl (by (try simp only [List.map_toArray, List.map_cons, List.map_nil]); first | done | rfl | (simp only [List.length_drop, List.length_take]; rfl)) ?_; (with_reducible refine (zaa.calls g s0_0 s0_1 s0_2 _ _ y119 t122 t123 t124 w0 _ ?side1 ?side2 ?side3 ?side4 ?side5 A2.out).mono ?_); (case side1 => repeat (first | (with_reducible first | exact HI0.out | apply za.alloc | apply za.drewN | apply za.drew | apply za.zca | apply za.zba) | exact HI0.out)); (case side2 => repeat (first | (with_reducible first | exact HB.out | apply zg | apply ze | apply zf | refine zh ?_ (za.ge HI0.out)) | exact HB.out)); (case side3 => repeat (first | exact (Kd.zQ HO121.out).2.2 | (with_reducible refine Kd.zga ?_ _) | (with_reducible refine Kd.zia ?_ _) | (with_reducible refine Kd.zAa ?_))); (case side4 => exact (Kd.zQ HO121.out).2.1); (case side5 => exact far_slice (za.own_ne HI0.out HO121.out (by decide))); rintro e w6 ⟨rfl, hi, hb, hk⟩; refine ⟨_, rfl, ?_⟩; have n0_ := zb.mk (Kd.zZ (Kd.zGa (za.apart (show za w0 _ g s0_0 s0_1 s0_2 from by repeat (first | (with_reducible first | exact HI0.out | apply za.alloc | apply za.drewN | apply za.drew | apply za.zca | apply za.zba) | exact HI0.out)) (by (with_reducible repeat (first | apply Kd.zo | apply Kd.zq | apply Kd.zA)); exact HO121.out) (by decide)) hk (fun _ h => h.2)) (fun _ h => h.1)); have n1_ := zb.mk (zn.trans (by repeat (first | (with_reducible first | exact HK.out | apply zn.set_ | apply zy | apply zF | apply zx) | exact HK.out)) hk (.inl rfl)); have n2_ := zb.mk (hb); have n3_ := zb.mk (hi); clear HO121; clear HK; clear HB; clear HI0; have HO121 := n0_; have HK := n1_; have HB := n2_; have HI0 := n3_; clear n0_ n1_ n2_ n3_; (try clear hb); (try clear hb2); (try clear hk); (try clear hi)))
 go_loopg [3, 4] k (fun kq v3 v4 w' => ∃ (x3_1 : ByteArray) (x4_1 : Int) (x1001_1 : Int) (x1002_1 : Int), v3 = .string x3_1 ∧ v4 = .int .i64 x4_1 ∧ zb (zsa.l0 kq x3_1 x4_1 s0_0 x1001_1 x1002_1 = some (r1, r2, r3)) ∧ zb (kq ≤ k) ∧ zb (za w0 w' g s0_0 x1001_1 x1002_1) ∧ zb (zn w w' g none) ∧ zb (Below w0.heap.size w0 w'))
 case atStart => exact ⟨((⟨#[]⟩ : ByteArray)), (t122), (t123), (t124), (by first | rfl | (simp; done) | (simp [*]; done)), (by first | rfl | (simp; done) | (simp [*]; done)), H', ⟨Nat.le_refl _⟩, ⟨by repeat (first | (with_reducible first | exact HI0.out | apply za.alloc | apply za.drewN | apply za.drew | apply za.zca | apply za.zba) | exact HI0.out)⟩, ⟨by repeat (first | (with_reducible first | exact HK.out | apply zn.set_ | apply zy | apply zF | apply zx) | exact HK.out)⟩, ⟨by repeat (first | (with_reducible first | exact HB.out | apply zg | apply ze | apply zf | refine zh ?_ (za.ge HI0.out)) | exact HB.out)⟩⟩
 case round =>
  clear H'
  try clear c1
  try clear p2
  obtain ⟨x3_1, x4_1, x1001_1, x1002_1, rfl, rfl, HA, HK1, HI0, HK, HB⟩ := hrel
  cases gk with
  | zero => exact absurd HA.out (by simp [zsa.l0])
  | succ k1 =>
   have H := HA.out
   clear HA
   simp only [zsa.l0] at H
   by_cases c7 : x4_1 > 0
   ·rw [if_pos c7] at H
    have c7b0 : decide (0 < x4_1) = true := decide_eq_true c7
    clear c7
    obtain ⟨y125, hy125⟩ : ∃ y_ : List ByteArray, y_ = (([(⟨#[97]⟩ : ByteArray), (⟨#[98]⟩ : ByteArray), (⟨#[97]⟩ : ByteArray), (⟨#[99]⟩ : ByteArray), (⟨#[98]⟩ : ByteArray), (⟨#[122]⟩ : ByteArray)] : List ByteArray)) := ⟨_, rfl⟩
    replace H : ((zCa.f s0_0 x1001_1 x1002_1 y125).bind fun bt128 => (if x3_1.size + bt128.1.size ≤ 9223372036854775807 then (zsa.l0 k1 (x3_1 ++ bt128.1) (wrap64 (x4_1 - 1)) s0_0 bt128.2.1 bt128.2.2) else (none))) = some (r1, r2, r3) := by first | (rw [hy125]; with_reducible exact H) | (have H2_ := (Option.bind_some _ _).symm.trans H; rw [hy125]; with_reducible exact H2_) | (have H2_ := (Option.bind_some _ _).symm.trans H; with_reducible exact H2_) | with_reducible exact H | (rw [hy125]; exact H) | exact H
    have Ny125 := zb.mk hy125
    clear hy125
    replace H := Option.bind_eq_some_iff.mp H
    obtain ⟨⟨t128, t129, t130⟩, A80, H⟩ := H
    replace H : (if x3_1.size + t128.size ≤ 9223372036854775807 then (zsa.l0 k1 (x3_1 ++ t128) (wrap64 (x4_1 - 1)) s0_0 t129 t130) else (none)) = some (r1, r2, r3) := H
    have A8 := zb.mk A80
    clear A80
    by_cases c9 : x3_1.size + t128.size ≤ 9223372036854775807
    ·rw [if_pos c9] at H
     have c9b0 := eq_true c9
     have c9b1 : decide (x3_1.size + t128.size ≤ 9223372036854775807) = true := decide_eq_true c9
     try have c9b2 : (9223372036854775807 < x3_1.size + t128.size) = False := eq_false (Nat.not_lt.2 c9)
     have H' := zb.mk H
     clear H
     go_wp2_with (first | ((with_reducible refine zoa (N := 14) rfl ?_); refine Kd.R_lit Kd.string _ 9 ?hg (N := 14) ?hd (xs := ([(⟨#[97]⟩ : ByteArray), (⟨#[98]⟩ : ByteArray), (⟨#[97]⟩ : ByteArray), (⟨#[99]⟩ : ByteArray), (⟨#[98]⟩ : ByteArray), (⟨#[122]⟩ : ByteArray)] : List ByteArray)) (inner := [.string (⟨#[97]⟩ : ByteArray), .string (⟨#[98]⟩ : ByteArray), .string (⟨#[97]⟩ : ByteArray), .string (⟨#[99]⟩ : ByteArray), .string (⟨#[98]⟩ : ByteArray), .string (⟨#[122]⟩ : ByteArray)]) (ok := fun _ => True) (okp := fun _ => True) ?hr ?hp (fun _ hk => hk) trivial (Below.refl _ _) (Nat.le_refl _) (by simp) ?_; (case hd => rfl); (case hg => rfl); (case hr => first | (go_simp; done) | (go_simp; rfl)); (case hp => exact (Reps.one (show Kd.M Kd.string _ _ _ (⟨#[97]⟩ : ByteArray) [.string (⟨#[97]⟩ : ByteArray)] from rfl) (Reps.one (show Kd.M Kd.string _ _ _ (⟨#[98]⟩ : ByteArray) [.string (⟨#[98]⟩ : ByteArray)] from rfl) (Reps.one (show Kd.M Kd.string _ _ _ (⟨#[97]⟩ : ByteArray) [.string (⟨#[97]⟩ : ByteArray)] from rfl) (Reps.one (show Kd.M Kd.string _ _ _ (⟨#[99]⟩ : ByteArray) [.string (⟨#[99]⟩ : ByteArray)] from rfl) (Reps.one (show Kd.M Kd.string _ _ _ (⟨#[98]⟩ : ByteArray) [.string (⟨#[98]⟩ : ByteArray)] from rfl) (Reps.one (show Kd.M Kd.string _ _ _ (⟨#[122]⟩ : ByteArray) [.string (⟨#[122]⟩ : ByteArray)] from rfl) (Reps.none _ _)))))))); intro v126 w10 ho11 hb hg_ hnew_; clear hg_ hnew_; (first | rw [← Ny125.out] at ho11 | (simp only [Int.reduceToNat] at ho11; rw [← Ny125.out] at ho11)); have n0_ := zb.mk (Kd.zua ho11 (zYa (w := w) (g := g) (row := none) (by repeat (first | (with_reducible first | exact HK.out | apply zn.set_ | apply zy | apply zF | apply zx) | exact HK.out)))); have n1_ := zb.mk (za.below (by repeat (first | (with_reducible first | exact HI0.out | apply za.alloc | apply za.drewN | apply za.drew | apply za.zca | apply za.zba) | exact HI0.out)) hb); have n2_ := zb.mk (zn.trans (by repeat (first | (with_reducible first | exact HK.out | apply zn.set_ | apply zy | apply zF | apply zx) | exact HK.out)) (zn.of_below hb g none) (.inl rfl)); have n3_ := zb.mk (zw (by repeat (first | (with_reducible first | exact HB.out | apply zg | apply ze | apply zf | refine zh ?_ (za.ge HI0.out)) | exact HB.out)) hb); clear HI0; clear HK; clear HB; have HO127 := n0_; have HI0 := n1_; have HK := n2_; have HB := n3_; clear n0_ n1_ n2_ n3_; clear hb ho11; obtain ⟨Ao12, co12, eo12⟩ := Kd.zpa HO127.out; subst eo12) | ((with_reducible refine zH (f := 126) rfl ?_); refine zra (some 15) rfl rfl Tryz.func126 (by kernel_rfl) rfl #[.pointer (some ⟨g, 0, none⟩), .slice Ao12 y125.length co12] rfl (by (try simp only [List.map_toArray, List.map_cons, List.map_nil]); first | done | rfl | (simp only [List.length_drop, List.length_take]; rfl)) ?_; (with_reducible refine (zCa.calls g s0_0 x1001_1 x1002_1 _ _ y125 t128 t129 t130 w0 _ ?side1 ?side2 ?side3 ?side4 ?side5 A8.out).mono ?_); (case side1 => repeat (first | (with_reducible first | exact HI0.out | apply za.alloc | apply za.drewN | apply za.drew | apply za.zca | apply za.zba) | exact HI0.out)); (case side2 => repeat (first | (with_reducible first | exact HB.out | apply zg | apply ze | apply zf | refine zh ?_ (za.ge HI0.out)) | exact HB.out)); (case side3 => repeat (first | exact (Kd.zQ HO127.out).2.2 | (with_reducible refine Kd.zga ?_ _) | (with_reducible refine Kd.zia ?_ _) | (with_reducible refine Kd.zAa ?_))); (case side4 => exact (Kd.zQ HO127.out).2.1); (case side5 => exact far_slice (za.own_ne HI0.out HO127.out (by decide))); rintro e w13 ⟨rfl, hi, hb, hk⟩; refine ⟨_, rfl, ?_⟩; have n0_ := zb.mk (Kd.zZ (Kd.zGa (za.apart (show za w0 _ g s0_0 x1001_1 x1002_1 from by repeat (first | (with_reducible first | exact HI0.out | apply za.alloc | apply za.drewN | apply za.drew | apply za.zca | apply za.zba) | exact HI0.out)) (by (with_reducible repeat (first | apply Kd.zo | apply Kd.zq | apply Kd.zA)); exact HO127.out) (by decide)) hk (fun _ h => h.2)) (fun _ h => h.1)); have n1_ := zb.mk (zn.trans (by repeat (first | (with_reducible first | exact HK.out | apply zn.set_ | apply zy | apply zF | apply zx) | exact HK.out)) hk (.inl rfl)); have n2_ := zb.mk (hb); have n3_ := zb.mk (hi); clear HO127; clear HK; clear HB; clear HI0; have HO127 := n0_; have HK := n1_; have HB := n2_; have HI0 := n3_; clear n0_ n1_ n2_ n3_; (try clear hb); (try clear hb2); (try clear hk); (try clear hi)))
     go_roundg k1
     case measure => have := HK1.out; omega
     case rel => exact ⟨(x3_1 ++ t128), (wrap64 (x4_1 - 1)), (t129), (t130), (by first | rfl | (simp; done) | (simp [*]; done)), (by first | rfl | (simp; done) | (simp [*]; done)), H', ⟨by have := HK1.out; omega⟩, ⟨by repeat (first | (with_reducible first | exact HI0.out | apply za.alloc | apply za.drewN | apply za.drew | apply za.zca | apply za.zba) | exact HI0.out)⟩, ⟨by repeat (first | (with_reducible first | exact HK.out | apply zn.set_ | apply zy | apply zF | apply zx) | exact HK.out)⟩, ⟨by repeat (first | (with_reducible first | exact HB.out | apply zg | apply ze | apply zf | refine zh ?_ (za.ge HI0.out)) | exact HB.out)⟩⟩
    ·rw [if_neg c9] at H
     exact absurd H (by simp)
   ·rw [if_neg c7] at H
    have c7b0 : decide (0 < x4_1) = false := decide_eq_false c7
    clear c7
    replace H := Option.bind_eq_some_iff.mp H
    obtain ⟨⟨t131, t132, t133⟩, A140, H⟩ := H
    replace H : (if t131 = true then ((zCa.f s0_0 t132 t133 (([(⟨#[65]⟩ : ByteArray), (⟨#[123]⟩ : ByteArray), (⟨#[32]⟩ : ByteArray), (⟨#[97, 97, 97, 97, 97, 97, 97, 97, 97, 97, 97, 97, 97]⟩ : ByteArray)] : List ByteArray))).bind fun bt137 => (if x3_1.size + bt137.1.size ≤ 9223372036854775807 then (some (x3_1 ++ bt137.1, bt137.2.1, bt137.2.2)) else (none))) else (some (x3_1, t132, t133))) = some (r1, r2, r3) := H
    have A14 := zb.mk A140
    clear A140
    by_cases c15 : t131 = true
    ·subst c15
     have H1 : ((zCa.f s0_0 t132 t133 (([(⟨#[65]⟩ : ByteArray), (⟨#[123]⟩ : ByteArray), (⟨#[32]⟩ : ByteArray), (⟨#[97, 97, 97, 97, 97, 97, 97, 97, 97, 97, 97, 97, 97]⟩ : ByteArray)] : List ByteArray))).bind fun bt137 => (if x3_1.size + bt137.1.size ≤ 9223372036854775807 then (some (x3_1 ++ bt137.1, bt137.2.1, bt137.2.2)) else (none))) = some (r1, r2, r3) := by rw [if_pos rfl] at H; exact H
     clear H
     have H := H1
     clear H1
     obtain ⟨y134, hy134⟩ : ∃ y_ : List ByteArray, y_ = (([(⟨#[65]⟩ : ByteArray), (⟨#[123]⟩ : ByteArray), (⟨#[32]⟩ : ByteArray), (⟨#[97, 97, 97, 97, 97, 97, 97, 97, 97, 97, 97, 97, 97]⟩ : ByteArray)] : List ByteArray)) := ⟨_, rfl⟩
     replace H : ((zCa.f s0_0 t132 t133 y134).bind fun bt137 => (if x3_1.size + bt137.1.size ≤ 9223372036854775807 then (some (x3_1 ++ bt137.1, bt137.2.1, bt137.2.2)) else (none))) = some (r1, r2, r3) := by first | (rw [hy134]; with_reducible exact H) | (have H2_ := (Option.bind_some _ _).symm.trans H; rw [hy134]; with_reducible exact H2_) | (have H2_ := (Option.bind_some _ _).symm.trans H; with_reducible exact H2_) | with_reducible exact H | (rw [hy134]; exact H) | exact H
     have Ny134 := zb.mk hy134
     clear hy134
     replace H := Option.bind_eq_some_iff.mp H
     obtain ⟨⟨t137, t138, t139⟩, A160, H⟩ := H
     replace H : (if x3_1.size + t137.size ≤ 9223372036854775807 then (some (x3_1 ++ t137, t138, t139)) else (none)) = some (r1, r2, r3) := H
     have A16 := zb.mk A160
     clear A160
     by_cases c17 : x3_1.size + t137.size ≤ 9223372036854775807
     ·rw [if_pos c17] at H
      have c17b0 := eq_true c17
      have c17b1 : decide (x3_1.size + t137.size ≤ 9223372036854775807) = true := decide_eq_true c17
      try have c17b2 : (9223372036854775807 < x3_1.size + t137.size) = False := eq_false (Nat.not_lt.2 c17)
      simp only [Option.some.injEq, Prod.mk.injEq] at H
      obtain ⟨rfl, rfl, rfl⟩ := H
      go_wp2_with (first | ((with_reducible refine zH (f := 127) rfl ?_); refine zra (some 18) rfl rfl Tryz.func127 (by kernel_rfl) rfl #[.pointer (some ⟨g, 0, none⟩), .int .i64 50] rfl (by (try simp only [List.map_toArray, List.map_cons, List.map_nil]); first | done | rfl | (simp only [List.length_drop, List.length_take]; rfl)) ?_; (with_reducible refine (zM.calls g s0_0 x1001_1 x1002_1 50 true t132 t133 w0 _ ?side1 ?side2 A14.out).mono ?_); (case side1 => repeat (first | (with_reducible first | exact HI0.out | apply za.alloc | apply za.drewN | apply za.drew | apply za.zca | apply za.zba) | exact HI0.out)); (case side2 => repeat (first | (with_reducible first | exact HB.out | apply zg | apply ze | apply zf | refine zh ?_ (za.ge HI0.out)) | exact HB.out)); rintro e w18 ⟨rfl, hi, hb, hk⟩; refine ⟨_, rfl, ?_⟩; have n0_ := zb.mk (zn.trans (by repeat (first | (with_reducible first | exact HK.out | apply zn.set_ | apply zy | apply zF | apply zx) | exact HK.out)) hk (.inl rfl)); have n1_ := zb.mk (hb); have n2_ := zb.mk (hi); clear HK; clear HB; clear HI0; have HK := n0_; have HB := n1_; have HI0 := n2_; clear n0_ n1_ n2_; (try clear hb); (try clear hb2); (try clear hk); (try clear hi)) | ((with_reducible refine zoa (N := 21) rfl ?_); refine Kd.R_lit Kd.string _ 9 ?hg (N := 21) ?hd (xs := ([(⟨#[65]⟩ : ByteArray), (⟨#[123]⟩ : ByteArray), (⟨#[32]⟩ : ByteArray), (⟨#[97, 97, 97, 97, 97, 97, 97, 97, 97, 97, 97, 97, 97]⟩ : ByteArray)] : List ByteArray)) (inner := [.string (⟨#[65]⟩ : ByteArray), .string (⟨#[123]⟩ : ByteArray), .string (⟨#[32]⟩ : ByteArray), .string (⟨#[97, 97, 97, 97, 97, 97, 97, 97, 97, 97, 97, 97, 97]⟩ : ByteArray)]) (ok := fun _ => True) (okp := fun _ => True) ?hr ?hp (fun _ hk => hk) trivial (Below.refl _ _) (Nat.le_refl _) (by simp) ?_; (case hd => rfl); (case hg => rfl); (case hr => first | (go_simp; done) | (go_simp; rfl)); (case hp => exact (Reps.one (show Kd.M Kd.string _ _ _ (⟨#[65]⟩ : ByteArray) [.string (⟨#[65]⟩ : ByteArray)] from rfl) (Reps.one (show Kd.M Kd.string _ _ _ (⟨#[123]⟩ : ByteArray) [.string (⟨#[123]⟩ : ByteArray)] from rfl) (Reps.one (show Kd.M Kd.string _ _ _ (⟨#[32]⟩ : ByteArray) [.string (⟨#[32]⟩ : ByteArray)] from rfl) (Reps.one (show Kd.M Kd.string _ _ _ (⟨#[97, 97, 97, 97, 97, 97, 97, 97, 97, 97, 97, 97, 97]⟩ : ByteArray) [.string (⟨#[97, 97, 97, 97, 97, 97, 97, 97, 97, 97, 97, 97, 97]⟩ : ByteArray)] from rfl) (Reps.none _ _)))))); intro v135 w19 ho20 hb hg_ hnew_; clear hg_ hnew_; (first | rw [← Ny134.out] at ho20 | (simp only [Int.reduceToNat] at ho20; rw [← Ny134.out] at ho20)); have n0_ := zb.mk (Kd.zua ho20 (zYa (w := w) (g := g) (row := none) (by repeat (first | (with_reducible first | exact HK.out | apply zn.set_ | apply zy | apply zF | apply zx) | exact HK.out)))); have n1_ := zb.mk (za.below (by repeat (first | (with_reducible first | exact HI0.out | apply za.alloc | apply za.drewN | apply za.drew | apply za.zca | apply za.zba) | exact HI0.out)) hb); have n2_ := zb.mk (zn.trans (by repeat (first | (with_reducible first | exact HK.out | apply zn.set_ | apply zy | apply zF | apply zx) | exact HK.out)) (zn.of_below hb g none) (.inl rfl)); have n3_ := zb.mk (zw (by repeat (first | (with_reducible first | exact HB.out | apply zg | apply ze | apply zf | refine zh ?_ (za.ge HI0.out)) | exact HB.out)) hb); clear HI0; clear HK; clear HB; have HO136 := n0_; have HI0 := n1_; have HK := n2_; have HB := n3_; clear n0_ n1_ n2_ n3_; clear hb ho20; obtain ⟨Ao21, co21, eo21⟩ := Kd.zpa HO136.out; subst eo21) | ((with_reducible refine zH (f := 126) rfl ?_); refine zra (some 22) rfl rfl Tryz.func126 (by kernel_rfl) rfl #[.pointer (some ⟨g, 0, none⟩), .slice Ao21 y134.length co21] rfl (by (try simp only [List.map_toArray, List.map_cons, List.map_nil]); first | done | rfl | (simp only [List.length_drop, List.length_take]; rfl)) ?_; (with_reducible refine (zCa.calls g s0_0 t132 t133 _ _ y134 t137 t138 t139 w0 _ ?side1 ?side2 ?side3 ?side4 ?side5 A16.out).mono ?_); (case side1 => repeat (first | (with_reducible first | exact HI0.out | apply za.alloc | apply za.drewN | apply za.drew | apply za.zca | apply za.zba) | exact HI0.out)); (case side2 => repeat (first | (with_reducible first | exact HB.out | apply zg | apply ze | apply zf | refine zh ?_ (za.ge HI0.out)) | exact HB.out)); (case side3 => repeat (first | exact (Kd.zQ HO136.out).2.2 | (with_reducible refine Kd.zga ?_ _) | (with_reducible refine Kd.zia ?_ _) | (with_reducible refine Kd.zAa ?_))); (case side4 => exact (Kd.zQ HO136.out).2.1); (case side5 => exact far_slice (za.own_ne HI0.out HO136.out (by decide))); rintro e w22 ⟨rfl, hi, hb, hk⟩; refine ⟨_, rfl, ?_⟩; have n0_ := zb.mk (Kd.zZ (Kd.zGa (za.apart (show za w0 _ g s0_0 t132 t133 from by repeat (first | (with_reducible first | exact HI0.out | apply za.alloc | apply za.drewN | apply za.drew | apply za.zca | apply za.zba) | exact HI0.out)) (by (with_reducible repeat (first | apply Kd.zo | apply Kd.zq | apply Kd.zA)); exact HO136.out) (by decide)) hk (fun _ h => h.2)) (fun _ h => h.1)); have n1_ := zb.mk (zn.trans (by repeat (first | (with_reducible first | exact HK.out | apply zn.set_ | apply zy | apply zF | apply zx) | exact HK.out)) hk (.inl rfl)); have n2_ := zb.mk (hb); have n3_ := zb.mk (hi); clear HO136; clear HK; clear HB; clear HI0; have HO136 := n0_; have HK := n1_; have HB := n2_; have HI0 := n3_; clear n0_ n1_ n2_ n3_; (try clear hb); (try clear hb2); (try clear hk); (try clear hi)))
      go_ret
      exact ⟨by first | rfl | (simp [zC, zB] <;> rfl) | (simp [*, zC, zB] <;> rfl), by repeat (first | (with_reducible first | exact HI0.out | apply za.alloc | apply za.drewN | apply za.drew | apply za.zca | apply za.zba) | exact HI0.out), by repeat (first | (with_reducible first | exact HB.out | apply zg | apply ze | apply zf | refine zh ?_ (za.ge HI0.out)) | exact HB.out), by repeat (first | (with_reducible first | exact HK.out | apply zn.set_ | apply zy | apply zF | apply zx) | exact HK.out)⟩
     ·rw [if_neg c17] at H
      exact absurd H (by simp)
    ·replace c15 := Bool.eq_false_iff.mpr c15
     subst c15
     have H1 : (some (x3_1, t132, t133)) = some (r1, r2, r3) := by rw [if_neg (show ¬ (false = true) by decide)] at H; exact H
     clear H
     have H := H1
     clear H1
     simp only [Option.some.injEq, Prod.mk.injEq] at H
     obtain ⟨rfl, rfl, rfl⟩ := H
     go_wp2_with (first | ((with_reducible refine zH (f := 127) rfl ?_); refine zra (some 18) rfl rfl Tryz.func127 (by kernel_rfl) rfl #[.pointer (some ⟨g, 0, none⟩), .int .i64 50] rfl (by (try simp only [List.map_toArray, List.map_cons, List.map_nil]); first | done | rfl | (simp only [List.length_drop, List.length_take]; rfl)) ?_; (with_reducible refine (zM.calls g s0_0 x1001_1 x1002_1 50 false t132 t133 w0 _ ?side1 ?side2 A14.out).mono ?_); (case side1 => repeat (first | (with_reducible first | exact HI0.out | apply za.alloc | apply za.drewN | apply za.drew | apply za.zca | apply za.zba) | exact HI0.out)); (case side2 => repeat (first | (with_reducible first | exact HB.out | apply zg | apply ze | apply zf | refine zh ?_ (za.ge HI0.out)) | exact HB.out)); rintro e w23 ⟨rfl, hi, hb, hk⟩; refine ⟨_, rfl, ?_⟩; have n0_ := zb.mk (zn.trans (by repeat (first | (with_reducible first | exact HK.out | apply zn.set_ | apply zy | apply zF | apply zx) | exact HK.out)) hk (.inl rfl)); have n1_ := zb.mk (hb); have n2_ := zb.mk (hi); clear HK; clear HB; clear HI0; have HK := n0_; have HB := n1_; have HI0 := n2_; clear n0_ n1_ n2_; (try clear hb); (try clear hb2); (try clear hk); (try clear hi)))
     go_ret
     exact ⟨by first | rfl | (simp [zC, zB] <;> rfl) | (simp [*, zC, zB] <;> rfl), by repeat (first | (with_reducible first | exact HI0.out | apply za.alloc | apply za.drewN | apply za.drew | apply za.zca | apply za.zba) | exact HI0.out), by repeat (first | (with_reducible first | exact HB.out | apply zg | apply ze | apply zf | refine zh ?_ (za.ge HI0.out)) | exact HB.out), by repeat (first | (with_reducible first | exact HK.out | apply zn.set_ | apply zy | apply zF | apply zx) | exact HK.out)⟩
end Go.Proofs.YtfabennfhmlihaaGreatDoor.P
end
section
namespace Go.Proofs.YtfabennfhmlihaaGreatDoor.P
open Go.RowKit Go.Proofs.YtfabennfhmlihaaGreatDoorW.zJ Go.Proofs.YtfabennfhmlihaaGreatDoorW.zU Go.Proofs.YtfabennfhmlihaaGreatDoorW.PrintMore
set_option linter.unusedVariables false
set_option linter.unusedSimpArgs false
mutual
def zu.l0 : Nat → List ByteArray → Int → List Int → Int → Int → Option (List ByteArray × Int × Int)
 | 0, _, _, _, _, _ => none
 | k + 1, x3, x4, x1000, x1001, x1002 => if x4 > 0 then ((zsa.f k x1000 x1001 x1002).bind fun bt149 => (if (x3.length : Int) > 0 then ((zM.f x1000 bt149.2.1 bt149.2.2 3).bind fun bt152 => (zu.j1 k x3 x4 bt149.1 bt152.1 x1000 bt152.2.1 bt152.2.2)) else (zu.j1 k x3 x4 bt149.1 false x1000 bt149.2.1 bt149.2.2))) else ((zM.f x1000 x1001 x1002 40).bind fun bt180 => (if bt180.1 = true then (zu.l1 k x3 0 x1000 bt180.2.1 bt180.2.2) else (some (x3, bt180.2.1, bt180.2.2))))
def zu.j1 : Nat → List ByteArray → Int → ByteArray → Bool → List Int → Int → Int → Option (List ByteArray × Int × Int)
 | 0, _, _, _, _, _, _, _ => none
 | k + 1, x3, x4, x5, x23, x1000, x1001, x1002 => if x23 = true then ((zK.f x1000 x1001 x1002 (x3.length : Int)).bind fun bt155 => (if 0 ≤ bt155.1 then (if bt155.1 < (x3.length : Int) then ((zM.f x1000 bt155.2.1 bt155.2.2 2).bind fun bt159 => (if bt159.1 = true then (zu.j2 k x3 x4 (rdOf ByteArray.empty x3 bt155.1) (decide (((rdOf ByteArray.empty x3 bt155.1).size : Int) < 12)) x1000 bt159.2.1 bt159.2.2) else (zu.j2 k x3 x4 (rdOf ByteArray.empty x3 bt155.1) false x1000 bt159.2.1 bt159.2.2))) else (none)) else (none))) else (if x3.length < 8796093022208 then (zu.l0 k (x3 ++ [x5]) (wrap64 (x4 - 1)) x1000 x1001 x1002) else (none))
def zu.j2 : Nat → List ByteArray → Int → ByteArray → Bool → List Int → Int → Int → Option (List ByteArray × Int × Int)
 | 0, _, _, _, _, _, _, _ => none
 | k + 1, x3, x4, x5, x37, x1000, x1001, x1002 => if x37 = true then ((zCa.f x1000 x1001 x1002 (([(⟨#[97]⟩ : ByteArray), (⟨#[98]⟩ : ByteArray), (⟨#[99]⟩ : ByteArray)] : List ByteArray))).bind fun bt165 => (if x5.size + bt165.1.size ≤ 9223372036854775807 then (if x3.length < 8796093022208 then (zu.l0 k (x3 ++ [x5 ++ bt165.1]) (wrap64 (x4 - 1)) x1000 bt165.2.1 bt165.2.2) else (none)) else (none))) else (if (x5.size : Int) > 0 then (if 0 ≤ (wrap64 ((x5.size : Int) - 1)) then (if (wrap64 ((x5.size : Int) - 1)) ≤ (x5.size : Int) then (if x3.length < 8796093022208 then (zu.l0 k (x3 ++ [x5.extract 0 ((wrap64 ((x5.size : Int) - 1)) : Int).toNat]) (wrap64 (x4 - 1)) x1000 x1001 x1002) else (none)) else (none)) else (none)) else (if x3.length < 8796093022208 then (zu.l0 k (x3 ++ [x5]) (wrap64 (x4 - 1)) x1000 x1001 x1002) else (none)))
def zu.l1 : Nat → List ByteArray → Int → List Int → Int → Int → Option (List ByteArray × Int × Int)
 | 0, _, _, _, _, _ => none
 | k + 1, x3, x6, x1000, x1001, x1002 => if x6 < 41 then (if x3.length < 8796093022208 then (zu.l1 k (x3 ++ [strOfNums (([(wrap64 (97 + (Int.tmod x6 26))) % 256, (wrap64 (97 + (wrap64 (Int.tdiv x6 26)))) % 256] : List Int))]) (wrap64 (x6 + 1)) x1000 x1001 x1002) else (none)) else (some (x3, x1001, x1002))
end
def zu.f (k : Nat) (s0_0 : List Int) (s0_1 : Int) (s0_2 : Int) : Option (List ByteArray × Int × Int) := (zaa.f s0_0 s0_1 s0_2 (([4, 6, 2, 8, 1, 0, 12, 3] : List Int))).bind fun bt146 => (zu.l0 k (([] : List ByteArray)) bt146.1 s0_0 bt146.2.1 bt146.2.2)
set_option maxHeartbeats 8000000 in
set_option maxRecDepth 100000 in
theorem zu.calls (k : Nat) (g : Nat) (s0_0 : List Int) (s0_1 : Int) (s0_2 : Int) (r1 : List ByteArray) (r2 : Int) (r3 : Int) (w0 w : World) (hI : za w0 w g s0_0 s0_1 s0_2) (hB : Below w0.heap.size w0 w) (h : zu.f k s0_0 s0_1 s0_2 = some (r1, r2, r3)) :
  Calls Tryz.prog 179 #[.pointer (some ⟨g, 0, none⟩)] w fun e w' => ∃ v0_ : Value, e = .returned (v0_) ∧ Kd.R Kd.string 9 w' w.heap.size (fun _ => True) v0_ r1 ∧ za w0 w' g s0_0 r2 r3 ∧ Below w0.heap.size w0 w' ∧ zn w w' g none := by
 have HI0 := zb.mk hI
 have HK := zb.mk (zn.refl w g none)
 have HL := zb.mk hB.size
 clear hI
 have HW0 := zb.mk hB.size
 have HB := zb.mk hB
 clear hB
 have H : ((zaa.f s0_0 s0_1 s0_2 (([4, 6, 2, 8, 1, 0, 12, 3] : List Int))).bind fun bt146 => (zu.l0 k (([] : List ByteArray)) bt146.1 s0_0 bt146.2.1 bt146.2.2)) = some (r1, r2, r3) := h
 clear h
 obtain ⟨y140, hy140⟩ : ∃ y_ : List ByteArray, y_ = (([] : List ByteArray)) := ⟨_, rfl⟩
 replace H : ((zaa.f s0_0 s0_1 s0_2 (([4, 6, 2, 8, 1, 0, 12, 3] : List Int))).bind fun bt146 => (zu.l0 k y140 bt146.1 s0_0 bt146.2.1 bt146.2.2)) = some (r1, r2, r3) := by first | (rw [hy140]; with_reducible exact H) | (have H2_ := (Option.bind_some _ _).symm.trans H; rw [hy140]; with_reducible exact H2_) | (have H2_ := (Option.bind_some _ _).symm.trans H; with_reducible exact H2_) | with_reducible exact H | (rw [hy140]; exact H) | exact H
 have Ny140 := zb.mk hy140
 clear hy140
 obtain ⟨y143, hy143⟩ : ∃ y_ : List Int, y_ = (([4, 6, 2, 8, 1, 0, 12, 3] : List Int)) := ⟨_, rfl⟩
 replace H : ((zaa.f s0_0 s0_1 s0_2 y143).bind fun bt146 => (zu.l0 k y140 bt146.1 s0_0 bt146.2.1 bt146.2.2)) = some (r1, r2, r3) := by first | (rw [hy143]; with_reducible exact H) | (have H2_ := (Option.bind_some _ _).symm.trans H; rw [hy143]; with_reducible exact H2_) | (have H2_ := (Option.bind_some _ _).symm.trans H; with_reducible exact H2_) | with_reducible exact H | (rw [hy143]; exact H) | exact H
 have Ny143 := zb.mk hy143
 clear hy143
 replace H := Option.bind_eq_some_iff.mp H
 obtain ⟨⟨t146, t147, t148⟩, A20, H⟩ := H
 replace H : (zu.l0 k y140 t146 s0_0 t147 t148) = some (r1, r2, r3) := H
 have A2 := zb.mk A20
 clear A20
 have H' := zb.mk H
 clear H
 go_enter Tryz.func179, Tryz.ntmps179
 go_wp2_with (first | ((with_reducible refine zoa (N := 7) rfl ?_); (try (refine zOa (by rfl) ?_; dsimp only)); refine Kd.R_lit Kd.string _ 9 ?hg (N := 7) ?hd (xs := ([] : List ByteArray)) (inner := []) (ok := fun _ => True) (okp := fun _ => True) ?hr ?hp (fun _ hk => hk) trivial (Below.refl _ _) (Nat.le_refl _) (by simp) ?_; (case hd => rfl); (case hg => rfl); (case hr => first | (go_simp; done) | (go_simp; rfl)); (case hp => exact (Reps.none _ _)); intro v141 w3 ho4 hb hg_ hnew_; clear hg_ hnew_; (first | rw [← Ny140.out] at ho4 | (simp only [Int.reduceToNat] at ho4; rw [← Ny140.out] at ho4)); have n0_ := zb.mk (Kd.zua ho4 (zYa (w := w) (g := g) (row := none) (by repeat (first | (with_reducible first | exact HK.out | apply zn.set_ | apply zy | apply zF | apply zx) | exact HK.out)))); have n1_ := zb.mk (za.below (by repeat (first | (with_reducible first | exact HI0.out | apply za.alloc | apply za.drewN | apply za.drew | apply za.zca | apply za.zba) | exact HI0.out)) hb); have n2_ := zb.mk (zn.trans (by repeat (first | (with_reducible first | exact HK.out | apply zn.set_ | apply zy | apply zF | apply zx) | exact HK.out)) (zn.of_below hb g none) (.inl rfl)); have n3_ := zb.mk (zw (by repeat (first | (with_reducible first | exact HB.out | apply zg | apply ze | apply zf | refine zh ?_ (za.ge HI0.out)) | exact HB.out)) hb); clear HI0; clear HK; clear HB; have HO142 := n0_; have HI0 := n1_; have HK := n2_; have HB := n3_; clear n0_ n1_ n2_ n3_; clear hb ho4) | ((with_reducible refine zoa (N := 9) rfl ?_); (try (refine zOa (by rfl) ?_; dsimp only)); refine Kd.R_lit (Kd.int .i64) _ 3 ?hg (N := 9) ?hd (xs := ([4, 6, 2, 8, 1, 0, 12, 3] : List Int)) (inner := [.int .i64 4, .int .i64 6, .int .i64 2, .int .i64 8, .int .i64 1, .int .i64 0, .int .i64 12, .int .i64 3]) (ok := fun _ => True) (okp := fun _ => True) ?hr ?hp (fun _ hk => hk) trivial (Below.refl _ _) (Nat.le_refl _) (by simp) ?_; (case hd => rfl); (case hg => rfl); (case hr => first | (go_simp; done) | (go_simp; rfl)); (case hp => exact (Reps.one (show Kd.M (Kd.int .i64) _ _ _ 4 [.int .i64 4] from rfl) (Reps.one (show Kd.M (Kd.int .i64) _ _ _ 6 [.int .i64 6] from rfl) (Reps.one (show Kd.M (Kd.int .i64) _ _ _ 2 [.int .i64 2] from rfl) (Reps.one (show Kd.M (Kd.int .i64) _ _ _ 8 [.int .i64 8] from rfl) (Reps.one (show Kd.M (Kd.int .i64) _ _ _ 1 [.int .i64 1] from rfl) (Reps.one (show Kd.M (Kd.int .i64) _ _ _ 0 [.int .i64 0] from rfl) (Reps.one (show Kd.M (Kd.int .i64) _ _ _ 12 [.int .i64 12] from rfl) (Reps.one (show Kd.M (Kd.int .i64) _ _ _ 3 [.int .i64 3] from rfl) (Reps.none _ _)))))))))); intro v144 w5 ho6 hb hg_ hnew_; clear hg_ hnew_; (first | rw [← Ny143.out] at ho6 | (simp only [Int.reduceToNat] at ho6; rw [← Ny143.out] at ho6)); have n0_ := zb.mk (Kd.zta (by (with_reducible repeat (first | apply Kd.zo | apply Kd.zq | apply Kd.zA)); exact HO142.out) hb); have n1_ := zb.mk (Kd.zua ho6 (zYa (w := w) (g := g) (row := none) (by repeat (first | (with_reducible first | exact HK.out | apply zn.set_ | apply zy | apply zF | apply zx) | exact HK.out)))); have n2_ := zb.mk (za.below (by repeat (first | (with_reducible first | exact HI0.out | apply za.alloc | apply za.drewN | apply za.drew | apply za.zca | apply za.zba) | exact HI0.out)) hb); have n3_ := zb.mk (zn.trans (by repeat (first | (with_reducible first | exact HK.out | apply zn.set_ | apply zy | apply zF | apply zx) | exact HK.out)) (zn.of_below hb g none) (.inl rfl)); have n4_ := zb.mk (zw (by repeat (first | (with_reducible first | exact HB.out | apply zg | apply ze | apply zf | refine zh ?_ (za.ge HI0.out)) | exact HB.out)) hb); clear HO142; clear HI0; clear HK; clear HB; have HO142 := n0_; have HO145 := n1_; have HI0 := n2_; have HK := n3_; have HB := n4_; clear n0_ n1_ n2_ n3_ n4_; clear hb ho6; obtain ⟨Ao7, co7, eo7⟩ := Kd.zpa HO145.out; subst eo7) | ((with_reducible refine zH (f := 155) rfl ?_); refine zra (some 10) rfl rfl Tryz.func155 (by kernel_rfl) rfl #[.pointer (some ⟨g, 0, none⟩), .slice Ao7 y143.length co7] rfl (by (try simp only [List.map_toArray, List.map_cons, List.map_nil]); first | done | rfl | (simp only [List.length_drop, List.length_take]; rfl)) ?_; (with_reducible refine (zaa.calls g s0_0 s0_1 s0_2 _ _ y143 t146 t147 t148 w0 _ ?side1 ?side2 ?side3 ?side4 ?side5 A2.out).mono ?_); (case side1 => repeat (first | (with_reducible first | exact HI0.out | apply za.alloc | apply za.drewN | apply za.drew | apply za.zca | apply za.zba) | exact HI0.out)); (case side2 => repeat (first | (with_reducible first | exact HB.out | apply zg | apply ze | apply zf | refine zh ?_ (za.ge HI0.out)) | exact HB.out)); (case side3 => repeat (first | exact (Kd.zQ HO145.out).2.2 | (with_reducible refine Kd.zga ?_ _) | (with_reducible refine Kd.zia ?_ _) | (with_reducible refine Kd.zAa ?_))); (case side4 => exact (Kd.zQ HO145.out).2.1); (case side5 => exact far_slice (za.own_ne HI0.out HO145.out (by decide))); rintro e w8 ⟨rfl, hi, hb, hk⟩; refine ⟨_, rfl, ?_⟩; have n0_ := zb.mk (Kd.zZ (Kd.zGa (za.apart (show za w0 _ g s0_0 s0_1 s0_2 from by repeat (first | (with_reducible first | exact HI0.out | apply za.alloc | apply za.drewN | apply za.drew | apply za.zca | apply za.zba) | exact HI0.out)) (by (with_reducible repeat (first | apply Kd.zo | apply Kd.zq | apply Kd.zA)); exact HO142.out) (by decide)) hk (fun _ h => h.2)) (fun _ h => h.1)); have n1_ := zb.mk (Kd.zZ (Kd.zGa (za.apart (show za w0 _ g s0_0 s0_1 s0_2 from by repeat (first | (with_reducible first | exact HI0.out | apply za.alloc | apply za.drewN | apply za.drew | apply za.zca | apply za.zba) | exact HI0.out)) (by (with_reducible repeat (first | apply Kd.zo | apply Kd.zq | apply Kd.zA)); exact HO145.out) (by decide)) hk (fun _ h => h.2)) (fun _ h => h.1)); have n2_ := zb.mk (zn.trans (by repeat (first | (with_reducible first | exact HK.out | apply zn.set_ | apply zy | apply zF | apply zx) | exact HK.out)) hk (.inl rfl)); have n3_ := zb.mk (hb); have n4_ := zb.mk (hi); clear HO142; clear HO145; clear HK; clear HB; clear HI0; have HO142 := n0_; have HO145 := n1_; have HK := n2_; have HB := n3_; have HI0 := n4_; clear n0_ n1_ n2_ n3_ n4_; (try clear hb); (try clear hb2); (try clear hk); (try clear hi)))
 go_loopg [3, 4] k (fun kq v3 v4 w' => ∃ (x3_1 : List ByteArray) (x4_1 : Int) (x1001_1 : Int) (x1002_1 : Int), v4 = .int .i64 x4_1 ∧ zb (zu.l0 kq x3_1 x4_1 s0_0 x1001_1 x1002_1 = some (r1, r2, r3)) ∧ zb (kq ≤ k) ∧ zb (Kd.R Kd.string 9 w' w.heap.size (fun _ => True) v3 x3_1) ∧ zb (za w0 w' g s0_0 x1001_1 x1002_1) ∧ zb (zn w w' g none) ∧ zb (Below w0.heap.size w0 w'))
 case atStart => exact ⟨(y140), (t146), (t147), (t148), (by first | rfl | (simp; done) | (simp [*]; done)), H', ⟨Nat.le_refl _⟩, ⟨by (with_reducible repeat (first | apply Kd.zo | apply Kd.zq | apply Kd.zA)); exact HO142.out⟩, ⟨by repeat (first | (with_reducible first | exact HI0.out | apply za.alloc | apply za.drewN | apply za.drew | apply za.zca | apply za.zba) | exact HI0.out)⟩, ⟨by repeat (first | (with_reducible first | exact HK.out | apply zn.set_ | apply zy | apply zF | apply zx) | exact HK.out)⟩, ⟨by repeat (first | (with_reducible first | exact HB.out | apply zg | apply ze | apply zf | refine zh ?_ (za.ge HI0.out)) | exact HB.out)⟩⟩
 case round =>
  clear H'
  try clear c1
  try clear p2
  obtain ⟨x3_1, x4_1, x1001_1, x1002_1, rfl, HA, HK1, HO_3, HI0, HK, HB⟩ := hrel
  cases gk with
  | zero => exact absurd HA.out (by simp [zu.l0])
  | succ k1 =>
   have H := HA.out
   clear HA
   simp only [zu.l0] at H
   by_cases c9 : x4_1 > 0
   ·rw [if_pos c9] at H
    have c9b0 : decide (0 < x4_1) = true := decide_eq_true c9
    clear c9
    replace H := Option.bind_eq_some_iff.mp H
    obtain ⟨⟨t149, t150, t151⟩, A100, H⟩ := H
    replace H : (if (x3_1.length : Int) > 0 then ((zM.f s0_0 t150 t151 3).bind fun bt152 => (zu.j1 k1 x3_1 x4_1 t149 bt152.1 s0_0 bt152.2.1 bt152.2.2)) else (zu.j1 k1 x3_1 x4_1 t149 false s0_0 t150 t151)) = some (r1, r2, r3) := H
    have A10 := zb.mk A100
    clear A100
    have HC11 := zb.mk H
    clear H
    go_upto_region 6 with (first | ((with_reducible refine zH (f := 184) rfl ?_); refine zra (some 16) rfl rfl Tryz.func184 (by kernel_rfl) rfl #[.pointer (some ⟨g, 0, none⟩)] rfl (by (try simp only [List.map_toArray, List.map_cons, List.map_nil]); first | done | rfl | (simp only [List.length_drop, List.length_take]; rfl)) ?_; (with_reducible refine (zsa.calls k1 g s0_0 x1001_1 x1002_1 t149 t150 t151 w0 _ ?side1 ?side2 A10.out).mono ?_); (case side1 => repeat (first | (with_reducible first | exact HI0.out | apply za.alloc | apply za.drewN | apply za.drew | apply za.zca | apply za.zba) | exact HI0.out)); (case side2 => repeat (first | (with_reducible first | exact HB.out | apply zg | apply ze | apply zf | refine zh ?_ (za.ge HI0.out)) | exact HB.out)); rintro e w12 ⟨rfl, hi, hb, hk⟩; refine ⟨_, rfl, ?_⟩; have n0_ := zb.mk (Kd.zZ (Kd.zGa (za.apart (show za w0 _ g s0_0 x1001_1 x1002_1 from by repeat (first | (with_reducible first | exact HI0.out | apply za.alloc | apply za.drewN | apply za.drew | apply za.zca | apply za.zba) | exact HI0.out)) (by (with_reducible repeat (first | apply Kd.zo | apply Kd.zq | apply Kd.zA)); exact HO_3.out) (by decide)) hk (fun _ h => h.2)) (fun _ h => h.1)); have n1_ := zb.mk (zn.trans (by repeat (first | (with_reducible first | exact HK.out | apply zn.set_ | apply zy | apply zF | apply zx) | exact HK.out)) hk (.inl rfl)); have n2_ := zb.mk (hb); have n3_ := zb.mk (hi); clear HO_3; clear HK; clear HB; clear HI0; have HO_3 := n0_; have HK := n1_; have HB := n2_; have HI0 := n3_; clear n0_ n1_ n2_ n3_; (try clear hb); (try clear hb2); (try clear hk); (try clear hi)))
    (try simp only [Act.put, List.setIfInBounds_toArray, List.set_cons_zero, List.set_cons_succ])
    go_cut [23] (fun v23 wc => ∃ (kq : Nat) (x23_10 : Bool) (x1001_10 : Int) (x1002_10 : Int), v23 = .bool x23_10 ∧ zb (zu.j1 kq x3_1 x4_1 t149 x23_10 s0_0 x1001_10 x1002_10 = some (r1, r2, r3)) ∧ zb (kq ≤ k1) ∧ zb (Kd.R Kd.string 9 wc w.heap.size (fun _ => True) u3 x3_1) ∧ zb (za w0 wc g s0_0 x1001_10 x1002_10) ∧ zb (zn w wc g none) ∧ zb (Below w0.heap.size w0 wc))
    case first =>
     have H := HC11.out
     clear HC11
     by_cases c13 : (x3_1.length : Int) > 0
     ·rw [if_pos c13] at H
      have c13b0 : decide (0 < (x3_1.length : Int)) = true := decide_eq_true c13
      have c13b1 : decide (0 < x3_1.length) = true := decide_eq_true (by omega)
      clear c13
      (first | rw [c13b0] | (simp only [zva]; rw [c13b0]) | skip)
      replace H := Option.bind_eq_some_iff.mp H
      obtain ⟨⟨t152, t153, t154⟩, A140, H⟩ := H
      replace H : (zu.j1 k1 x3_1 x4_1 t149 t152 s0_0 t153 t154) = some (r1, r2, r3) := H
      have A14 := zb.mk A140
      clear A140
      have H' := zb.mk H
      clear H
      obtain ⟨Ao15, co15, eo15⟩ := Kd.zpa HO_3.out
      subst eo15
      go_wp2_with (first | (go_at_call 127; (with_reducible refine (zM.calls g s0_0 t150 t151 3 t152 t153 t154 w0 _ ?side1 ?side2 A14.out).mono ?_); (case side1 => repeat (first | (with_reducible first | exact HI0.out | apply za.alloc | apply za.drewN | apply za.drew | apply za.zca | apply za.zba) | exact HI0.out)); (case side2 => repeat (first | (with_reducible first | exact HB.out | apply zg | apply ze | apply zf | refine zh ?_ (za.ge HI0.out)) | exact HB.out)); rintro e w16 ⟨rfl, hi, hb, hk⟩; have n0_ := zb.mk (Kd.zZ (Kd.zGa (za.apart (show za w0 _ g s0_0 t150 t151 from by repeat (first | (with_reducible first | exact HI0.out | apply za.alloc | apply za.drewN | apply za.drew | apply za.zca | apply za.zba) | exact HI0.out)) (by (with_reducible repeat (first | apply Kd.zo | apply Kd.zq | apply Kd.zA)); exact HO_3.out) (by decide)) hk (fun _ h => h.2)) (fun _ h => h.1)); have n1_ := zb.mk (zn.trans (by repeat (first | (with_reducible first | exact HK.out | apply zn.set_ | apply zy | apply zF | apply zx) | exact HK.out)) hk (.inl rfl)); have n2_ := zb.mk (hb); have n3_ := zb.mk (hi); clear HO_3; clear HK; clear HB; clear HI0; have HO_3 := n0_; have HK := n1_; have HB := n2_; have HI0 := n3_; clear n0_ n1_ n2_ n3_; (try clear hb); (try clear hb2); (try clear hk); (try clear hi)))
      go_meet
      case rel => exact ⟨_, (t152), (t153), (t154), (by first | rfl | (simp; done) | (simp [*]; done)), H', ⟨by have := HK1.out; first | omega | exact Nat.le_refl _⟩, ⟨by (with_reducible repeat (first | apply Kd.zo | apply Kd.zq | apply Kd.zA)); exact HO_3.out⟩, ⟨by repeat (first | (with_reducible first | exact HI0.out | apply za.alloc | apply za.drewN | apply za.drew | apply za.zca | apply za.zba) | exact HI0.out)⟩, ⟨by repeat (first | (with_reducible first | exact HK.out | apply zn.set_ | apply zy | apply zF | apply zx) | exact HK.out)⟩, ⟨by repeat (first | (with_reducible first | exact HB.out | apply zg | apply ze | apply zf | refine zh ?_ (za.ge HI0.out)) | exact HB.out)⟩⟩
     ·rw [if_neg c13] at H
      have c13b0 : decide (0 < (x3_1.length : Int)) = false := decide_eq_false c13
      have c13b1 : decide (0 < x3_1.length) = false := decide_eq_false (by omega)
      clear c13
      (first | rw [c13b0] | (simp only [zva]; rw [c13b0]) | skip)
      have H' := zb.mk H
      clear H
      obtain ⟨Ao17, co17, eo17⟩ := Kd.zpa HO_3.out
      subst eo17
      go_wp2
      go_meet
      case rel => exact ⟨_, (false), (t150), (t151), (by first | rfl | (simp; done) | (simp [*]; done)), H', ⟨by have := HK1.out; first | omega | exact Nat.le_refl _⟩, ⟨by (with_reducible repeat (first | apply Kd.zo | apply Kd.zq | apply Kd.zA)); exact HO_3.out⟩, ⟨by repeat (first | (with_reducible first | exact HI0.out | apply za.alloc | apply za.drewN | apply za.drew | apply za.zca | apply za.zba) | exact HI0.out)⟩, ⟨by repeat (first | (with_reducible first | exact HK.out | apply zn.set_ | apply zy | apply zF | apply zx) | exact HK.out)⟩, ⟨by repeat (first | (with_reducible first | exact HB.out | apply zg | apply ze | apply zf | refine zh ?_ (za.ge HI0.out)) | exact HB.out)⟩⟩
    case rest =>
     clear HC11
     try clear c1
     try clear p2
     try clear c9
     try clear c9b0
     try clear c13
     try clear c13b0
     try clear c13b1
     try clear c15
     try clear c17
     try clear p2
     obtain ⟨kq, x23_10, x1001_10, x1002_10, rfl, HA, HJ10, HO_3, HI0, HK, HB⟩ := hcut
     cases kq with
     | zero => exact absurd HA.out (by simp [zu.j1])
     | succ kj10 =>
      have H := HA.out
      clear HA
      simp only [zu.j1] at H
      by_cases c18 : x23_10 = true
      ·subst c18
       have H1 : ((zK.f s0_0 x1001_10 x1002_10 (x3_1.length : Int)).bind fun bt155 => (if 0 ≤ bt155.1 then (if bt155.1 < (x3_1.length : Int) then ((zM.f s0_0 bt155.2.1 bt155.2.2 2).bind fun bt159 => (if bt159.1 = true then (zu.j2 kj10 x3_1 x4_1 (rdOf ByteArray.empty x3_1 bt155.1) (decide (((rdOf ByteArray.empty x3_1 bt155.1).size : Int) < 12)) s0_0 bt159.2.1 bt159.2.2) else (zu.j2 kj10 x3_1 x4_1 (rdOf ByteArray.empty x3_1 bt155.1) false s0_0 bt159.2.1 bt159.2.2))) else (none)) else (none))) = some (r1, r2, r3) := by rw [if_pos rfl] at H; exact H
       clear H
       have H := H1
       clear H1
       replace H := Option.bind_eq_some_iff.mp H
       obtain ⟨⟨t155, t156, t157⟩, A190, H⟩ := H
       replace H : (if 0 ≤ t155 then (if t155 < (x3_1.length : Int) then ((zM.f s0_0 t156 t157 2).bind fun bt159 => (if bt159.1 = true then (zu.j2 kj10 x3_1 x4_1 (rdOf ByteArray.empty x3_1 t155) (decide (((rdOf ByteArray.empty x3_1 t155).size : Int) < 12)) s0_0 bt159.2.1 bt159.2.2) else (zu.j2 kj10 x3_1 x4_1 (rdOf ByteArray.empty x3_1 t155) false s0_0 bt159.2.1 bt159.2.2))) else (none)) else (none)) = some (r1, r2, r3) := H
       have A19 := zb.mk A190
       clear A190
       by_cases c20 : 0 ≤ t155
       ·rw [if_pos c20] at H
        have c20b0 : decide (0 ≤ t155) = true := decide_eq_true c20
        clear c20
        by_cases c21 : t155 < (x3_1.length : Int)
        ·rw [if_pos c21] at H
         have c21b0 : decide (t155 < (x3_1.length : Int)) = true := decide_eq_true c21
         clear c21
         have HC22 := zb.mk H
         clear H
         obtain ⟨Ao23, co23, eo23⟩ := Kd.zpa HO_3.out
         subst eo23
         go_upto_region 8 with (first | ((with_reducible refine zH (f := 132) rfl ?_); refine zra (some 28) rfl rfl Tryz.func132 (by kernel_rfl) rfl #[.pointer (some ⟨g, 0, none⟩), .int .i64 (x3_1.length : Int)] rfl (by (try simp only [List.map_toArray, List.map_cons, List.map_nil]); first | done | rfl | (simp only [List.length_drop, List.length_take]; rfl)) ?_; (with_reducible refine (zK.calls g s0_0 x1001_10 x1002_10 (x3_1.length : Int) t155 t156 t157 w0 _ ?side1 ?side2 A19.out).mono ?_); (case side1 => repeat (first | (with_reducible first | exact HI0.out | apply za.alloc | apply za.drewN | apply za.drew | apply za.zca | apply za.zba) | exact HI0.out)); (case side2 => repeat (first | (with_reducible first | exact HB.out | apply zg | apply ze | apply zf | refine zh ?_ (za.ge HI0.out)) | exact HB.out)); rintro e w24 ⟨rfl, hi, hb, hk⟩; refine ⟨_, rfl, ?_⟩; have n0_ := zb.mk (Kd.zZ (Kd.zGa (za.apart (show za w0 _ g s0_0 x1001_10 x1002_10 from by repeat (first | (with_reducible first | exact HI0.out | apply za.alloc | apply za.drewN | apply za.drew | apply za.zca | apply za.zba) | exact HI0.out)) (by (with_reducible repeat (first | apply Kd.zo | apply Kd.zq | apply Kd.zA)); exact HO_3.out) (by decide)) hk (fun _ h => h.2)) (fun _ h => h.1)); have n1_ := zb.mk (zn.trans (by repeat (first | (with_reducible first | exact HK.out | apply zn.set_ | apply zy | apply zF | apply zx) | exact HK.out)) hk (.inl rfl)); have n2_ := zb.mk (hb); have n3_ := zb.mk (hi); clear HO_3; clear HK; clear HB; clear HI0; have HO_3 := n0_; have HK := n1_; have HB := n2_; have HI0 := n3_; clear n0_ n1_ n2_ n3_; (try clear hb); (try clear hb2); (try clear hk); (try clear hi); have p158 : 0 ≤ (t155 : Int) := of_decide_eq_true (by first | (with_reducible assumption) | assumption); have q158 : t155 < (x3_1.length : Int) := of_decide_eq_true (by first | (with_reducible assumption) | assumption); obtain ⟨ad158, e158, hx158_0⟩ := Kd.zza (Kd.zQ HO_3.out).2.2 t155 p158 q158; cases e158; replace p158 := eq_true p158; replace q158 := eq_true q158))
         (try simp only [Act.put, List.setIfInBounds_toArray, List.set_cons_zero, List.set_cons_succ])
         go_cut [37] (fun v37 wc => ∃ (kq : Nat) (x37_21 : Bool) (x1001_21 : Int) (x1002_21 : Int), v37 = .bool x37_21 ∧ zb (zu.j2 kq x3_1 x4_1 (rdOf ByteArray.empty x3_1 t155) x37_21 s0_0 x1001_21 x1002_21 = some (r1, r2, r3)) ∧ zb (kq ≤ kj10) ∧ zb (Kd.R Kd.string 9 wc w.heap.size (fun _ => True) (.slice (some ad158) x3_1.length co23) x3_1) ∧ zb (za w0 wc g s0_0 x1001_21 x1002_21) ∧ zb (zn w wc g none) ∧ zb (Below w0.heap.size w0 wc))
         case first =>
          have H := HC22.out
          clear HC22
          replace H := Option.bind_eq_some_iff.mp H
          obtain ⟨⟨t159, t160, t161⟩, A250, H⟩ := H
          replace H : (if t159 = true then (zu.j2 kj10 x3_1 x4_1 (rdOf ByteArray.empty x3_1 t155) (decide (((rdOf ByteArray.empty x3_1 t155).size : Int) < 12)) s0_0 t160 t161) else (zu.j2 kj10 x3_1 x4_1 (rdOf ByteArray.empty x3_1 t155) false s0_0 t160 t161)) = some (r1, r2, r3) := H
          have A25 := zb.mk A250
          clear A250
          by_cases c26 : t159 = true
          ·subst c26
           have H1 : (zu.j2 kj10 x3_1 x4_1 (rdOf ByteArray.empty x3_1 t155) (decide (((rdOf ByteArray.empty x3_1 t155).size : Int) < 12)) s0_0 t160 t161) = some (r1, r2, r3) := by rw [if_pos rfl] at H; exact H
           clear H
           have H := H1
           clear H1
           have H' := zb.mk H
           clear H
           go_wp2_with (first | ((with_reducible refine zH (f := 127) rfl ?_); refine zra (some 32) rfl rfl Tryz.func127 (by kernel_rfl) rfl #[.pointer (some ⟨g, 0, none⟩), .int .i64 2] rfl (by (try simp only [List.map_toArray, List.map_cons, List.map_nil]); first | done | rfl | (simp only [List.length_drop, List.length_take]; rfl)) ?_; (with_reducible refine (zM.calls g s0_0 t156 t157 2 true t160 t161 w0 _ ?side1 ?side2 A25.out).mono ?_); (case side1 => repeat (first | (with_reducible first | exact HI0.out | apply za.alloc | apply za.drewN | apply za.drew | apply za.zca | apply za.zba) | exact HI0.out)); (case side2 => repeat (first | (with_reducible first | exact HB.out | apply zg | apply ze | apply zf | refine zh ?_ (za.ge HI0.out)) | exact HB.out)); rintro e w27 ⟨rfl, hi, hb, hk⟩; refine ⟨_, rfl, ?_⟩; have n0_ := zb.mk (Kd.zZ (Kd.zGa (za.apart (show za w0 _ g s0_0 t156 t157 from by repeat (first | (with_reducible first | exact HI0.out | apply za.alloc | apply za.drewN | apply za.drew | apply za.zca | apply za.zba) | exact HI0.out)) (by (with_reducible repeat (first | apply Kd.zo | apply Kd.zq | apply Kd.zA)); exact HO_3.out) (by decide)) hk (fun _ h => h.2)) (fun _ h => h.1)); have n1_ := zb.mk (zn.trans (by repeat (first | (with_reducible first | exact HK.out | apply zn.set_ | apply zy | apply zF | apply zx) | exact HK.out)) hk (.inl rfl)); have n2_ := zb.mk (hb); have n3_ := zb.mk (hi); clear HO_3; clear HK; clear HB; clear HI0; have HO_3 := n0_; have HK := n1_; have HB := n2_; have HI0 := n3_; clear n0_ n1_ n2_ n3_; (try clear hb); (try clear hb2); (try clear hk); (try clear hi)))
           go_meet
           case rel => exact ⟨_, (decide (((rdOf ByteArray.empty x3_1 t155).size : Int) < 12)), (t160), (t161), (by first | rfl | (simp; done) | (simp [*]; done)), H', ⟨by have := HK1.out; have := HJ10.out; first | omega | exact Nat.le_refl _⟩, ⟨by (with_reducible repeat (first | apply Kd.zo | apply Kd.zq | apply Kd.zA)); exact HO_3.out⟩, ⟨by repeat (first | (with_reducible first | exact HI0.out | apply za.alloc | apply za.drewN | apply za.drew | apply za.zca | apply za.zba) | exact HI0.out)⟩, ⟨by repeat (first | (with_reducible first | exact HK.out | apply zn.set_ | apply zy | apply zF | apply zx) | exact HK.out)⟩, ⟨by repeat (first | (with_reducible first | exact HB.out | apply zg | apply ze | apply zf | refine zh ?_ (za.ge HI0.out)) | exact HB.out)⟩⟩
          ·replace c26 := Bool.eq_false_iff.mpr c26
           subst c26
           have H1 : (zu.j2 kj10 x3_1 x4_1 (rdOf ByteArray.empty x3_1 t155) false s0_0 t160 t161) = some (r1, r2, r3) := by rw [if_neg (show ¬ (false = true) by decide)] at H; exact H
           clear H
           have H := H1
           clear H1
           have H' := zb.mk H
           clear H
           go_wp2_with (first | ((with_reducible refine zH (f := 127) rfl ?_); refine zra (some 32) rfl rfl Tryz.func127 (by kernel_rfl) rfl #[.pointer (some ⟨g, 0, none⟩), .int .i64 2] rfl (by (try simp only [List.map_toArray, List.map_cons, List.map_nil]); first | done | rfl | (simp only [List.length_drop, List.length_take]; rfl)) ?_; (with_reducible refine (zM.calls g s0_0 t156 t157 2 false t160 t161 w0 _ ?side1 ?side2 A25.out).mono ?_); (case side1 => repeat (first | (with_reducible first | exact HI0.out | apply za.alloc | apply za.drewN | apply za.drew | apply za.zca | apply za.zba) | exact HI0.out)); (case side2 => repeat (first | (with_reducible first | exact HB.out | apply zg | apply ze | apply zf | refine zh ?_ (za.ge HI0.out)) | exact HB.out)); rintro e w28 ⟨rfl, hi, hb, hk⟩; refine ⟨_, rfl, ?_⟩; have n0_ := zb.mk (Kd.zZ (Kd.zGa (za.apart (show za w0 _ g s0_0 t156 t157 from by repeat (first | (with_reducible first | exact HI0.out | apply za.alloc | apply za.drewN | apply za.drew | apply za.zca | apply za.zba) | exact HI0.out)) (by (with_reducible repeat (first | apply Kd.zo | apply Kd.zq | apply Kd.zA)); exact HO_3.out) (by decide)) hk (fun _ h => h.2)) (fun _ h => h.1)); have n1_ := zb.mk (zn.trans (by repeat (first | (with_reducible first | exact HK.out | apply zn.set_ | apply zy | apply zF | apply zx) | exact HK.out)) hk (.inl rfl)); have n2_ := zb.mk (hb); have n3_ := zb.mk (hi); clear HO_3; clear HK; clear HB; clear HI0; have HO_3 := n0_; have HK := n1_; have HB := n2_; have HI0 := n3_; clear n0_ n1_ n2_ n3_; (try clear hb); (try clear hb2); (try clear hk); (try clear hi)))
           go_meet
           case rel => exact ⟨_, (false), (t160), (t161), (by first | rfl | (simp; done) | (simp [*]; done)), H', ⟨by have := HK1.out; have := HJ10.out; first | omega | exact Nat.le_refl _⟩, ⟨by (with_reducible repeat (first | apply Kd.zo | apply Kd.zq | apply Kd.zA)); exact HO_3.out⟩, ⟨by repeat (first | (with_reducible first | exact HI0.out | apply za.alloc | apply za.drewN | apply za.drew | apply za.zca | apply za.zba) | exact HI0.out)⟩, ⟨by repeat (first | (with_reducible first | exact HK.out | apply zn.set_ | apply zy | apply zF | apply zx) | exact HK.out)⟩, ⟨by repeat (first | (with_reducible first | exact HB.out | apply zg | apply ze | apply zf | refine zh ?_ (za.ge HI0.out)) | exact HB.out)⟩⟩
         case rest =>
          clear HC22
          try clear c1
          try clear p1
          try clear q1
          try clear hx1
          try clear c2
          try clear p2
          try clear c9
          try clear c9b0
          try clear c12
          try clear c13
          try clear c13b0
          try clear c13b1
          try clear c15
          try clear p15
          try clear q15
          try clear hx15
          try clear c17
          try clear c18
          try clear c20
          try clear c20b0
          try clear c21
          try clear c21b0
          try clear c26
          try clear hx158_0
          try clear p158
          try clear p2
          try clear q158
          obtain ⟨kq, x37_21, x1001_21, x1002_21, rfl, HA, HJ21, HO_3, HI0, HK, HB⟩ := hcut
          cases kq with
          | zero => exact absurd HA.out (by simp [zu.j2])
          | succ kj21 =>
           have H := HA.out
           clear HA
           simp only [zu.j2] at H
           by_cases c29 : x37_21 = true
           ·subst c29
            have H1 : ((zCa.f s0_0 x1001_21 x1002_21 (([(⟨#[97]⟩ : ByteArray), (⟨#[98]⟩ : ByteArray), (⟨#[99]⟩ : ByteArray)] : List ByteArray))).bind fun bt165 => (if (rdOf ByteArray.empty x3_1 t155).size + bt165.1.size ≤ 9223372036854775807 then (if x3_1.length < 8796093022208 then (zu.l0 kj21 (x3_1 ++ [(rdOf ByteArray.empty x3_1 t155) ++ bt165.1]) (wrap64 (x4_1 - 1)) s0_0 bt165.2.1 bt165.2.2) else (none)) else (none))) = some (r1, r2, r3) := by rw [if_pos rfl] at H; exact H
            clear H
            have H := H1
            clear H1
            obtain ⟨y162, hy162⟩ : ∃ y_ : List ByteArray, y_ = (([(⟨#[97]⟩ : ByteArray), (⟨#[98]⟩ : ByteArray), (⟨#[99]⟩ : ByteArray)] : List ByteArray)) := ⟨_, rfl⟩
            replace H : ((zCa.f s0_0 x1001_21 x1002_21 y162).bind fun bt165 => (if (rdOf ByteArray.empty x3_1 t155).size + bt165.1.size ≤ 9223372036854775807 then (if x3_1.length < 8796093022208 then (zu.l0 kj21 (x3_1 ++ [(rdOf ByteArray.empty x3_1 t155) ++ bt165.1]) (wrap64 (x4_1 - 1)) s0_0 bt165.2.1 bt165.2.2) else (none)) else (none))) = some (r1, r2, r3) := by first | (rw [hy162]; with_reducible exact H) | (have H2_ := (Option.bind_some _ _).symm.trans H; rw [hy162]; with_reducible exact H2_) | (have H2_ := (Option.bind_some _ _).symm.trans H; with_reducible exact H2_) | with_reducible exact H | (rw [hy162]; exact H) | exact H
            have Ny162 := zb.mk hy162
            clear hy162
            replace H := Option.bind_eq_some_iff.mp H
            obtain ⟨⟨t165, t166, t167⟩, A300, H⟩ := H
            replace H : (if (rdOf ByteArray.empty x3_1 t155).size + t165.size ≤ 9223372036854775807 then (if x3_1.length < 8796093022208 then (zu.l0 kj21 (x3_1 ++ [(rdOf ByteArray.empty x3_1 t155) ++ t165]) (wrap64 (x4_1 - 1)) s0_0 t166 t167) else (none)) else (none)) = some (r1, r2, r3) := H
            have A30 := zb.mk A300
            clear A300
            by_cases c31 : (rdOf ByteArray.empty x3_1 t155).size + t165.size ≤ 9223372036854775807
            ·rw [if_pos c31] at H
             have c31b0 := eq_true c31
             have c31b1 : decide ((rdOf ByteArray.empty x3_1 t155).size + t165.size ≤ 9223372036854775807) = true := decide_eq_true c31
             try have c31b2 : (9223372036854775807 < (rdOf ByteArray.empty x3_1 t155).size + t165.size) = False := eq_false (Nat.not_lt.2 c31)
             by_cases c32 : x3_1.length < 8796093022208
             ·rw [if_pos c32] at H
              have LMc32 := zb.mk c32
              clear c32
              obtain ⟨y168, hy168⟩ : ∃ y_ : List ByteArray, y_ = (x3_1 ++ [(rdOf ByteArray.empty x3_1 t155) ++ t165]) := ⟨_, rfl⟩
              replace H : (zu.l0 kj21 y168 (wrap64 (x4_1 - 1)) s0_0 t166 t167) = some (r1, r2, r3) := by first | (rw [hy168]; with_reducible exact H) | (have H2_ := (Option.bind_some _ _).symm.trans H; rw [hy168]; with_reducible exact H2_) | (have H2_ := (Option.bind_some _ _).symm.trans H; with_reducible exact H2_) | with_reducible exact H | (rw [hy168]; exact H) | exact H
              have Ny168 := zb.mk hy168
              clear hy168
              have H' := zb.mk H
              clear H
              go_wp2_with (first | ((with_reducible refine zoa (N := 40) rfl ?_); (try (refine zOa (by rfl) ?_; dsimp only)); refine Kd.R_lit Kd.string _ 9 ?hg (N := 40) ?hd (xs := ([(⟨#[97]⟩ : ByteArray), (⟨#[98]⟩ : ByteArray), (⟨#[99]⟩ : ByteArray)] : List ByteArray)) (inner := [.string (⟨#[97]⟩ : ByteArray), .string (⟨#[98]⟩ : ByteArray), .string (⟨#[99]⟩ : ByteArray)]) (ok := fun _ => True) (okp := fun _ => True) ?hr ?hp (fun _ hk => hk) trivial (Below.refl _ _) (Nat.le_refl _) (by simp) ?_; (case hd => rfl); (case hg => rfl); (case hr => first | (go_simp; done) | (go_simp; rfl)); (case hp => exact (Reps.one (show Kd.M Kd.string _ _ _ (⟨#[97]⟩ : ByteArray) [.string (⟨#[97]⟩ : ByteArray)] from rfl) (Reps.one (show Kd.M Kd.string _ _ _ (⟨#[98]⟩ : ByteArray) [.string (⟨#[98]⟩ : ByteArray)] from rfl) (Reps.one (show Kd.M Kd.string _ _ _ (⟨#[99]⟩ : ByteArray) [.string (⟨#[99]⟩ : ByteArray)] from rfl) (Reps.none _ _))))); intro v163 w33 ho34 hb hg_ hnew_; clear hg_ hnew_; (first | rw [← Ny162.out] at ho34 | (simp only [Int.reduceToNat] at ho34; rw [← Ny162.out] at ho34)); have n0_ := zb.mk (Kd.R_elder' (by (with_reducible repeat (first | apply Kd.zo | apply Kd.zq | apply Kd.zA)); exact HO_3.out) (Kd.R_base ho34) hb); have n1_ := zb.mk (Kd.zua (Kd.R_new' ho34 (Kd.R_lt (by (with_reducible repeat (first | apply Kd.zo | apply Kd.zq | apply Kd.zA)); exact HO_3.out))) (zYa (w := w) (g := g) (row := none) (by repeat (first | (with_reducible first | exact HK.out | apply zn.set_ | apply zy | apply zF | apply zx) | exact HK.out)))); have n2_ := zb.mk (za.below (by repeat (first | (with_reducible first | exact HI0.out | apply za.alloc | apply za.drewN | apply za.drew | apply za.zca | apply za.zba) | exact HI0.out)) hb); have n3_ := zb.mk (zn.trans (by repeat (first | (with_reducible first | exact HK.out | apply zn.set_ | apply zy | apply zF | apply zx) | exact HK.out)) (zn.of_below hb g none) (.inl rfl)); have n4_ := zb.mk (zw (by repeat (first | (with_reducible first | exact HB.out | apply zg | apply ze | apply zf | refine zh ?_ (za.ge HI0.out)) | exact HB.out)) hb); clear HO_3; clear HI0; clear HK; clear HB; have HO_3 := n0_; have HO164 := n1_; have HI0 := n2_; have HK := n3_; have HB := n4_; clear n0_ n1_ n2_ n3_ n4_; clear hb ho34; obtain ⟨Ao35, co35, eo35⟩ := Kd.zpa HO164.out; subst eo35) | ((with_reducible refine zH (f := 126) rfl ?_); refine zra (some 41) rfl rfl Tryz.func126 (by kernel_rfl) rfl #[.pointer (some ⟨g, 0, none⟩), .slice Ao35 y162.length co35] rfl (by (try simp only [List.map_toArray, List.map_cons, List.map_nil]); first | done | rfl | (simp only [List.length_drop, List.length_take]; rfl)) ?_; (with_reducible refine (zCa.calls g s0_0 x1001_21 x1002_21 _ _ y162 t165 t166 t167 w0 _ ?side1 ?side2 ?side3 ?side4 ?side5 A30.out).mono ?_); (case side1 => repeat (first | (with_reducible first | exact HI0.out | apply za.alloc | apply za.drewN | apply za.drew | apply za.zca | apply za.zba) | exact HI0.out)); (case side2 => repeat (first | (with_reducible first | exact HB.out | apply zg | apply ze | apply zf | refine zh ?_ (za.ge HI0.out)) | exact HB.out)); (case side3 => repeat (first | exact (Kd.zQ HO164.out).2.2 | (with_reducible refine Kd.zga ?_ _) | (with_reducible refine Kd.zia ?_ _) | (with_reducible refine Kd.zAa ?_))); (case side4 => exact (Kd.zQ HO164.out).2.1); (case side5 => exact far_slice (za.own_ne HI0.out HO164.out (by decide))); rintro e w36 ⟨rfl, hi, hb, hk⟩; refine ⟨_, rfl, ?_⟩; have n0_ := zb.mk (Kd.zZ (Kd.zGa (za.apart (show za w0 _ g s0_0 x1001_21 x1002_21 from by repeat (first | (with_reducible first | exact HI0.out | apply za.alloc | apply za.drewN | apply za.drew | apply za.zca | apply za.zba) | exact HI0.out)) (by (with_reducible repeat (first | apply Kd.zo | apply Kd.zq | apply Kd.zA)); exact HO_3.out) (by decide)) hk (fun _ h => h.2)) (fun _ h => h.1)); have n1_ := zb.mk (Kd.zZ (Kd.zGa (za.apart (show za w0 _ g s0_0 x1001_21 x1002_21 from by repeat (first | (with_reducible first | exact HI0.out | apply za.alloc | apply za.drewN | apply za.drew | apply za.zca | apply za.zba) | exact HI0.out)) (by (with_reducible repeat (first | apply Kd.zo | apply Kd.zq | apply Kd.zA)); exact HO164.out) (by decide)) hk (fun _ h => h.2)) (fun _ h => h.1)); have n2_ := zb.mk (zn.trans (by repeat (first | (with_reducible first | exact HK.out | apply zn.set_ | apply zy | apply zF | apply zx) | exact HK.out)) hk (.inl rfl)); have n3_ := zb.mk (hb); have n4_ := zb.mk (hi); clear HO_3; clear HO164; clear HK; clear HB; clear HI0; have HO_3 := n0_; have HO164 := n1_; have HK := n2_; have HB := n3_; have HI0 := n4_; clear n0_ n1_ n2_ n3_ n4_; (try clear hb); (try clear hb2); (try clear hk); (try clear hi)) | ((with_reducible refine zZa (b := .append) (xs := #[.tmp 51, .tmp 53]) rfl ?_); (try (refine zOa (by rfl) ?_; dsimp only)); at_builtin; refine Kd.R_append Kd.string w.heap.size rfl (.tmp 51) (.tmp 53) 31 9 (.string ⟨#[]⟩) 16 rfl Tryz.underlying31 info9 rfl (by decide) (by omega) (.slice (some ad158) x3_1.length co23) x3_1 ((rdOf ByteArray.empty x3_1 t155) ++ t165) [.string ((rdOf ByteArray.empty x3_1 t155) ++ t165)] (fun k_ => some k_ ≠ (.slice Ao35 y162.length co35 : Value).ownBlock) (fun _ => False) rfl rfl ?aP (fun _ hk => hk.elim) ?aF ?aO (Below.refl _ _) ?aS ?aL ?_; (case aP => exact rfl); (case aF => exact (fun k_ hk => Kd.fresh' (Kd.R_lt (by (with_reducible repeat (first | apply Kd.zo | apply Kd.zq | apply Kd.zA)); exact HO164.out)) k_ hk)); (case aO => exact (by (with_reducible repeat (first | apply Kd.zo | apply Kd.zq | apply Kd.zA)); exact Kd.zZ HO_3.out (fun _ hk => hk.2))); (case aS => exact (zYa (w := w) (g := g) (row := none) (by repeat (first | (with_reducible first | exact HK.out | apply zn.set_ | apply zy | apply zF | apply zx) | exact HK.out)))); (case aL => have := LMc32.out; omega); intro v169 w37 ho hb hg hat; rw [← Ny168.out] at ho; have n0_ := zb.mk (za.grown (by repeat (first | (with_reducible first | exact HI0.out | apply za.alloc | apply za.drewN | apply za.drew | apply za.zca | apply za.zba) | exact HI0.out)) hg (za.own_ne HI0.out HO_3.out (by decide))); have n1_ := zb.mk (Kd.R_after (ok := (fun _ => True)) (by (with_reducible repeat (first | apply Kd.zo | apply Kd.zq | apply Kd.zA)); exact HO164.out) hg hat); have n2_ := zb.mk (below_weaken (by repeat (first | (with_reducible first | exact HB.out | apply zg | apply ze | apply zf | refine zh ?_ (za.ge HI0.out)) | exact HB.out)) HL.out hb); have n3_ := zb.mk (zn.trans (by repeat (first | (with_reducible first | exact HK.out | apply zn.set_ | apply zy | apply zF | apply zx) | exact HK.out)) (zn.of_grown hg g) (Kd.R_base2 HO_3.out)); have n4_ := zb.mk (ho); clear HI0; clear HO164; clear HB; clear HK; clear HO_3; have HI0 := n0_; have HO164 := n1_; have HB := n2_; have HK := n3_; have HO170 := n4_; clear n0_ n1_ n2_ n3_ n4_; clear ho hb hg hat))
              go_roundg kj21
              case measure => have := HK1.out; have := HJ10.out; have := HJ21.out; omega
              case rel => exact ⟨(y168), (wrap64 (x4_1 - 1)), (t166), (t167), (by first | rfl | (simp; done) | (simp [*]; done)), H', ⟨by have := HK1.out; have := HJ10.out; have := HJ21.out; omega⟩, ⟨by (with_reducible repeat (first | apply Kd.zo | apply Kd.zq | apply Kd.zA)); exact Kd.zZ HO170.out (fun _ hk => trivial)⟩, ⟨by repeat (first | (with_reducible first | exact HI0.out | apply za.alloc | apply za.drewN | apply za.drew | apply za.zca | apply za.zba) | exact HI0.out)⟩, ⟨by repeat (first | (with_reducible first | exact HK.out | apply zn.set_ | apply zy | apply zF | apply zx) | exact HK.out)⟩, ⟨by repeat (first | (with_reducible first | exact HB.out | apply zg | apply ze | apply zf | refine zh ?_ (za.ge HI0.out)) | exact HB.out)⟩⟩
             ·rw [if_neg c32] at H
              exact absurd H (by simp)
            ·rw [if_neg c31] at H
             exact absurd H (by simp)
           ·replace c29 := Bool.eq_false_iff.mpr c29
            subst c29
            have H1 : (if ((rdOf ByteArray.empty x3_1 t155).size : Int) > 0 then (if 0 ≤ (wrap64 (((rdOf ByteArray.empty x3_1 t155).size : Int) - 1)) then (if (wrap64 (((rdOf ByteArray.empty x3_1 t155).size : Int) - 1)) ≤ ((rdOf ByteArray.empty x3_1 t155).size : Int) then (if x3_1.length < 8796093022208 then (zu.l0 kj21 (x3_1 ++ [(rdOf ByteArray.empty x3_1 t155).extract 0 ((wrap64 (((rdOf ByteArray.empty x3_1 t155).size : Int) - 1)) : Int).toNat]) (wrap64 (x4_1 - 1)) s0_0 x1001_21 x1002_21) else (none)) else (none)) else (none)) else (if x3_1.length < 8796093022208 then (zu.l0 kj21 (x3_1 ++ [(rdOf ByteArray.empty x3_1 t155)]) (wrap64 (x4_1 - 1)) s0_0 x1001_21 x1002_21) else (none))) = some (r1, r2, r3) := by rw [if_neg (show ¬ (false = true) by decide)] at H; exact H
            clear H
            have H := H1
            clear H1
            by_cases c38 : ((rdOf ByteArray.empty x3_1 t155).size : Int) > 0
            ·rw [if_pos c38] at H
             have c38b0 : decide (0 < ((rdOf ByteArray.empty x3_1 t155).size : Int)) = true := decide_eq_true c38
             have c38b1 : decide (0 < (rdOf ByteArray.empty x3_1 t155).size) = true := decide_eq_true (by omega)
             clear c38
             obtain ⟨ji39, hji39⟩ : ∃ j_ : Int, (wrap64 (((rdOf ByteArray.empty x3_1 t155).size : Int) - 1)) = j_ := ⟨_, rfl⟩
             replace H : (if 0 ≤ (ji39) then (if (ji39) ≤ ((rdOf ByteArray.empty x3_1 t155).size : Int) then (if x3_1.length < 8796093022208 then (zu.l0 kj21 (x3_1 ++ [(rdOf ByteArray.empty x3_1 t155).extract 0 ((ji39) : Int).toNat]) (wrap64 (x4_1 - 1)) s0_0 x1001_21 x1002_21) else (none)) else (none)) else (none)) = some (r1, r2, r3) := by first | (rw [hji39] at H; exact H) | (simp only [hji39] at H ⊢; exact H)
             have hji39w : (IntKind.i64.wrap (((rdOf ByteArray.empty x3_1 t155).size : Int) - 1)) = ji39 := (zva _).trans hji39
             by_cases c40 : 0 ≤ (ji39)
             ·rw [if_pos c40] at H
              have c40b0 := eq_true c40
              have c40b1 : decide (0 ≤ (ji39)) = true := decide_eq_true c40
              clear c40
              by_cases c41 : (ji39) ≤ ((rdOf ByteArray.empty x3_1 t155).size : Int)
              ·rw [if_pos c41] at H
               have c41b0 := eq_true c41
               have c41b1 : decide ((ji39) ≤ ((rdOf ByteArray.empty x3_1 t155).size : Int)) = true := decide_eq_true c41
               clear c41
               by_cases c42 : x3_1.length < 8796093022208
               ·rw [if_pos c42] at H
                have LMc42 := zb.mk c42
                clear c42
                obtain ⟨y171, hy171⟩ : ∃ y_ : List ByteArray, y_ = (x3_1 ++ [(rdOf ByteArray.empty x3_1 t155).extract 0 ((ji39) : Int).toNat]) := ⟨_, rfl⟩
                replace H : (zu.l0 kj21 y171 (wrap64 (x4_1 - 1)) s0_0 x1001_21 x1002_21) = some (r1, r2, r3) := by first | (rw [hy171]; with_reducible exact H) | (have H2_ := (Option.bind_some _ _).symm.trans H; rw [hy171]; with_reducible exact H2_) | (have H2_ := (Option.bind_some _ _).symm.trans H; with_reducible exact H2_) | with_reducible exact H | (rw [hy171]; exact H) | exact H
                have Ny171 := zb.mk hy171
                clear hy171
                have H' := zb.mk H
                clear H
                go_wp2_with (first | ((with_reducible refine zZa (b := .append) (xs := #[.tmp 51, .tmp 53]) rfl ?_); (try (refine zOa (by rfl) ?_; dsimp only)); at_builtin; refine Kd.R_append Kd.string w.heap.size rfl (.tmp 51) (.tmp 53) 31 9 (.string ⟨#[]⟩) 16 rfl Tryz.underlying31 info9 rfl (by decide) (by omega) (.slice (some ad158) x3_1.length co23) x3_1 ((rdOf ByteArray.empty x3_1 t155).extract 0 ((ji39) : Int).toNat) [.string ((rdOf ByteArray.empty x3_1 t155).extract 0 ((ji39) : Int).toNat)] (fun _ => True) (fun _ => False) rfl rfl ?aP (fun _ hk => hk.elim) ?aF ?aO (Below.refl _ _) ?aS ?aL ?_; (case aP => exact rfl); (case aF => exact (fun _ _ => trivial)); (case aO => exact (by (with_reducible repeat (first | apply Kd.zo | apply Kd.zq | apply Kd.zA)); exact HO_3.out)); (case aS => exact (zYa (w := w) (g := g) (row := none) (by repeat (first | (with_reducible first | exact HK.out | apply zn.set_ | apply zy | apply zF | apply zx) | exact HK.out)))); (case aL => have := LMc42.out; omega); intro v172 w43 ho hb hg hat; rw [← Ny171.out] at ho; have n0_ := zb.mk (za.grown (by repeat (first | (with_reducible first | exact HI0.out | apply za.alloc | apply za.drewN | apply za.drew | apply za.zca | apply za.zba) | exact HI0.out)) hg (za.own_ne HI0.out HO_3.out (by decide))); have n1_ := zb.mk (below_weaken (by repeat (first | (with_reducible first | exact HB.out | apply zg | apply ze | apply zf | refine zh ?_ (za.ge HI0.out)) | exact HB.out)) HL.out hb); have n2_ := zb.mk (zn.trans (by repeat (first | (with_reducible first | exact HK.out | apply zn.set_ | apply zy | apply zF | apply zx) | exact HK.out)) (zn.of_grown hg g) (Kd.R_base2 HO_3.out)); have n3_ := zb.mk (ho); clear HI0; clear HB; clear HK; clear HO_3; have HI0 := n0_; have HB := n1_; have HK := n2_; have HO173 := n3_; clear n0_ n1_ n2_ n3_; clear ho hb hg hat))
                go_roundg kj21
                case measure => have := HK1.out; have := HJ10.out; have := HJ21.out; omega
                case rel => exact ⟨(y171), (wrap64 (x4_1 - 1)), (x1001_21), (x1002_21), (by first | rfl | (simp; done) | (simp [*]; done)), H', ⟨by have := HK1.out; have := HJ10.out; have := HJ21.out; omega⟩, ⟨by (with_reducible repeat (first | apply Kd.zo | apply Kd.zq | apply Kd.zA)); exact HO173.out⟩, ⟨by repeat (first | (with_reducible first | exact HI0.out | apply za.alloc | apply za.drewN | apply za.drew | apply za.zca | apply za.zba) | exact HI0.out)⟩, ⟨by repeat (first | (with_reducible first | exact HK.out | apply zn.set_ | apply zy | apply zF | apply zx) | exact HK.out)⟩, ⟨by repeat (first | (with_reducible first | exact HB.out | apply zg | apply ze | apply zf | refine zh ?_ (za.ge HI0.out)) | exact HB.out)⟩⟩
               ·rw [if_neg c42] at H
                exact absurd H (by simp)
              ·rw [if_neg c41] at H
               exact absurd H (by simp)
             ·rw [if_neg c40] at H
              exact absurd H (by simp)
            ·rw [if_neg c38] at H
             have c38b0 : decide (0 < ((rdOf ByteArray.empty x3_1 t155).size : Int)) = false := decide_eq_false c38
             have c38b1 : decide (0 < (rdOf ByteArray.empty x3_1 t155).size) = false := decide_eq_false (by omega)
             clear c38
             by_cases c44 : x3_1.length < 8796093022208
             ·rw [if_pos c44] at H
              have LMc44 := zb.mk c44
              clear c44
              obtain ⟨y174, hy174⟩ : ∃ y_ : List ByteArray, y_ = (x3_1 ++ [(rdOf ByteArray.empty x3_1 t155)]) := ⟨_, rfl⟩
              replace H : (zu.l0 kj21 y174 (wrap64 (x4_1 - 1)) s0_0 x1001_21 x1002_21) = some (r1, r2, r3) := by first | (rw [hy174]; with_reducible exact H) | (have H2_ := (Option.bind_some _ _).symm.trans H; rw [hy174]; with_reducible exact H2_) | (have H2_ := (Option.bind_some _ _).symm.trans H; with_reducible exact H2_) | with_reducible exact H | (rw [hy174]; exact H) | exact H
              have Ny174 := zb.mk hy174
              clear hy174
              have H' := zb.mk H
              clear H
              go_wp2_with (first | ((with_reducible refine zZa (b := .append) (xs := #[.tmp 51, .tmp 53]) rfl ?_); (try (refine zOa (by rfl) ?_; dsimp only)); at_builtin; refine Kd.R_append Kd.string w.heap.size rfl (.tmp 51) (.tmp 53) 31 9 (.string ⟨#[]⟩) 16 rfl Tryz.underlying31 info9 rfl (by decide) (by omega) (.slice (some ad158) x3_1.length co23) x3_1 (rdOf ByteArray.empty x3_1 t155) [.string (rdOf ByteArray.empty x3_1 t155)] (fun _ => True) (fun _ => False) rfl rfl ?aP (fun _ hk => hk.elim) ?aF ?aO (Below.refl _ _) ?aS ?aL ?_; (case aP => exact rfl); (case aF => exact (fun _ _ => trivial)); (case aO => exact (by (with_reducible repeat (first | apply Kd.zo | apply Kd.zq | apply Kd.zA)); exact HO_3.out)); (case aS => exact (zYa (w := w) (g := g) (row := none) (by repeat (first | (with_reducible first | exact HK.out | apply zn.set_ | apply zy | apply zF | apply zx) | exact HK.out)))); (case aL => have := LMc44.out; omega); intro v175 w45 ho hb hg hat; rw [← Ny174.out] at ho; have n0_ := zb.mk (za.grown (by repeat (first | (with_reducible first | exact HI0.out | apply za.alloc | apply za.drewN | apply za.drew | apply za.zca | apply za.zba) | exact HI0.out)) hg (za.own_ne HI0.out HO_3.out (by decide))); have n1_ := zb.mk (below_weaken (by repeat (first | (with_reducible first | exact HB.out | apply zg | apply ze | apply zf | refine zh ?_ (za.ge HI0.out)) | exact HB.out)) HL.out hb); have n2_ := zb.mk (zn.trans (by repeat (first | (with_reducible first | exact HK.out | apply zn.set_ | apply zy | apply zF | apply zx) | exact HK.out)) (zn.of_grown hg g) (Kd.R_base2 HO_3.out)); have n3_ := zb.mk (ho); clear HI0; clear HB; clear HK; clear HO_3; have HI0 := n0_; have HB := n1_; have HK := n2_; have HO176 := n3_; clear n0_ n1_ n2_ n3_; clear ho hb hg hat))
              go_roundg kj21
              case measure => have := HK1.out; have := HJ10.out; have := HJ21.out; omega
              case rel => exact ⟨(y174), (wrap64 (x4_1 - 1)), (x1001_21), (x1002_21), (by first | rfl | (simp; done) | (simp [*]; done)), H', ⟨by have := HK1.out; have := HJ10.out; have := HJ21.out; omega⟩, ⟨by (with_reducible repeat (first | apply Kd.zo | apply Kd.zq | apply Kd.zA)); exact HO176.out⟩, ⟨by repeat (first | (with_reducible first | exact HI0.out | apply za.alloc | apply za.drewN | apply za.drew | apply za.zca | apply za.zba) | exact HI0.out)⟩, ⟨by repeat (first | (with_reducible first | exact HK.out | apply zn.set_ | apply zy | apply zF | apply zx) | exact HK.out)⟩, ⟨by repeat (first | (with_reducible first | exact HB.out | apply zg | apply ze | apply zf | refine zh ?_ (za.ge HI0.out)) | exact HB.out)⟩⟩
             ·rw [if_neg c44] at H
              exact absurd H (by simp)
        ·rw [if_neg c21] at H
         exact absurd H (by simp)
       ·rw [if_neg c20] at H
        exact absurd H (by simp)
      ·replace c18 := Bool.eq_false_iff.mpr c18
       subst c18
       have H1 : (if x3_1.length < 8796093022208 then (zu.l0 kj10 (x3_1 ++ [t149]) (wrap64 (x4_1 - 1)) s0_0 x1001_10 x1002_10) else (none)) = some (r1, r2, r3) := by rw [if_neg (show ¬ (false = true) by decide)] at H; exact H
       clear H
       have H := H1
       clear H1
       by_cases c46 : x3_1.length < 8796093022208
       ·rw [if_pos c46] at H
        have LMc46 := zb.mk c46
        clear c46
        obtain ⟨y177, hy177⟩ : ∃ y_ : List ByteArray, y_ = (x3_1 ++ [t149]) := ⟨_, rfl⟩
        replace H : (zu.l0 kj10 y177 (wrap64 (x4_1 - 1)) s0_0 x1001_10 x1002_10) = some (r1, r2, r3) := by first | (rw [hy177]; with_reducible exact H) | (have H2_ := (Option.bind_some _ _).symm.trans H; rw [hy177]; with_reducible exact H2_) | (have H2_ := (Option.bind_some _ _).symm.trans H; with_reducible exact H2_) | with_reducible exact H | (rw [hy177]; exact H) | exact H
        have Ny177 := zb.mk hy177
        clear hy177
        have H' := zb.mk H
        clear H
        go_wp2_with (first | ((with_reducible refine zZa (b := .append) (xs := #[.tmp 51, .tmp 53]) rfl ?_); (try (refine zOa (by rfl) ?_; dsimp only)); at_builtin; refine Kd.R_append Kd.string w.heap.size rfl (.tmp 51) (.tmp 53) 31 9 (.string ⟨#[]⟩) 16 rfl Tryz.underlying31 info9 rfl (by decide) (by omega) u3 x3_1 t149 [.string t149] (fun _ => True) (fun _ => False) rfl rfl ?aP (fun _ hk => hk.elim) ?aF ?aO (Below.refl _ _) ?aS ?aL ?_; (case aP => exact rfl); (case aF => exact (fun _ _ => trivial)); (case aO => exact (by (with_reducible repeat (first | apply Kd.zo | apply Kd.zq | apply Kd.zA)); exact HO_3.out)); (case aS => exact (zYa (w := w) (g := g) (row := none) (by repeat (first | (with_reducible first | exact HK.out | apply zn.set_ | apply zy | apply zF | apply zx) | exact HK.out)))); (case aL => have := LMc46.out; omega); intro v178 w47 ho hb hg hat; rw [← Ny177.out] at ho; have n0_ := zb.mk (za.grown (by repeat (first | (with_reducible first | exact HI0.out | apply za.alloc | apply za.drewN | apply za.drew | apply za.zca | apply za.zba) | exact HI0.out)) hg (za.own_ne HI0.out HO_3.out (by decide))); have n1_ := zb.mk (below_weaken (by repeat (first | (with_reducible first | exact HB.out | apply zg | apply ze | apply zf | refine zh ?_ (za.ge HI0.out)) | exact HB.out)) HL.out hb); have n2_ := zb.mk (zn.trans (by repeat (first | (with_reducible first | exact HK.out | apply zn.set_ | apply zy | apply zF | apply zx) | exact HK.out)) (zn.of_grown hg g) (Kd.R_base2 HO_3.out)); have n3_ := zb.mk (ho); clear HI0; clear HB; clear HK; clear HO_3; have HI0 := n0_; have HB := n1_; have HK := n2_; have HO179 := n3_; clear n0_ n1_ n2_ n3_; clear ho hb hg hat))
        go_roundg kj10
        case measure => have := HK1.out; have := HJ10.out; omega
        case rel => exact ⟨(y177), (wrap64 (x4_1 - 1)), (x1001_10), (x1002_10), (by first | rfl | (simp; done) | (simp [*]; done)), H', ⟨by have := HK1.out; have := HJ10.out; omega⟩, ⟨by (with_reducible repeat (first | apply Kd.zo | apply Kd.zq | apply Kd.zA)); exact HO179.out⟩, ⟨by repeat (first | (with_reducible first | exact HI0.out | apply za.alloc | apply za.drewN | apply za.drew | apply za.zca | apply za.zba) | exact HI0.out)⟩, ⟨by repeat (first | (with_reducible first | exact HK.out | apply zn.set_ | apply zy | apply zF | apply zx) | exact HK.out)⟩, ⟨by repeat (first | (with_reducible first | exact HB.out | apply zg | apply ze | apply zf | refine zh ?_ (za.ge HI0.out)) | exact HB.out)⟩⟩
       ·rw [if_neg c46] at H
        exact absurd H (by simp)
   ·rw [if_neg c9] at H
    have c9b0 : decide (0 < x4_1) = false := decide_eq_false c9
    clear c9
    replace H := Option.bind_eq_some_iff.mp H
    obtain ⟨⟨t180, t181, t182⟩, A480, H⟩ := H
    replace H : (if t180 = true then (zu.l1 k1 x3_1 0 s0_0 t181 t182) else (some (x3_1, t181, t182))) = some (r1, r2, r3) := H
    have A48 := zb.mk A480
    clear A480
    by_cases c49 : t180 = true
    ·subst c49
     have H1 : (zu.l1 k1 x3_1 0 s0_0 t181 t182) = some (r1, r2, r3) := by rw [if_pos rfl] at H; exact H
     clear H
     have H := H1
     clear H1
     have H' := zb.mk H
     clear H
     go_wp2_with (first | ((with_reducible refine zH (f := 127) rfl ?_); refine zra (some 56) rfl rfl Tryz.func127 (by kernel_rfl) rfl #[.pointer (some ⟨g, 0, none⟩), .int .i64 40] rfl (by (try simp only [List.map_toArray, List.map_cons, List.map_nil]); first | done | rfl | (simp only [List.length_drop, List.length_take]; rfl)) ?_; (with_reducible refine (zM.calls g s0_0 x1001_1 x1002_1 40 true t181 t182 w0 _ ?side1 ?side2 A48.out).mono ?_); (case side1 => repeat (first | (with_reducible first | exact HI0.out | apply za.alloc | apply za.drewN | apply za.drew | apply za.zca | apply za.zba) | exact HI0.out)); (case side2 => repeat (first | (with_reducible first | exact HB.out | apply zg | apply ze | apply zf | refine zh ?_ (za.ge HI0.out)) | exact HB.out)); rintro e w50 ⟨rfl, hi, hb, hk⟩; refine ⟨_, rfl, ?_⟩; have n0_ := zb.mk (Kd.zZ (Kd.zGa (za.apart (show za w0 _ g s0_0 x1001_1 x1002_1 from by repeat (first | (with_reducible first | exact HI0.out | apply za.alloc | apply za.drewN | apply za.drew | apply za.zca | apply za.zba) | exact HI0.out)) (by (with_reducible repeat (first | apply Kd.zo | apply Kd.zq | apply Kd.zA)); exact HO_3.out) (by decide)) hk (fun _ h => h.2)) (fun _ h => h.1)); have n1_ := zb.mk (zn.trans (by repeat (first | (with_reducible first | exact HK.out | apply zn.set_ | apply zy | apply zF | apply zx) | exact HK.out)) hk (.inl rfl)); have n2_ := zb.mk (hb); have n3_ := zb.mk (hi); clear HO_3; clear HK; clear HB; clear HI0; have HO_3 := n0_; have HK := n1_; have HB := n2_; have HI0 := n3_; clear n0_ n1_ n2_ n3_; (try clear hb); (try clear hb2); (try clear hk); (try clear hi)))
     go_loopg [3, 6] k1 (fun kq v3 v6 w' => ∃ (x3_2 : List ByteArray) (x6_2 : Int), v6 = .int .i64 x6_2 ∧ zb (zu.l1 kq x3_2 x6_2 s0_0 t181 t182 = some (r1, r2, r3)) ∧ zb (kq ≤ k1) ∧ zb (Kd.R Kd.string 9 w' w.heap.size (fun _ => True) v3 x3_2) ∧ zb (za w0 w' g s0_0 t181 t182) ∧ zb (zn w w' g none) ∧ zb (Below w0.heap.size w0 w'))
     case atStart => exact ⟨(x3_1), (0), (by first | rfl | (simp; done) | (simp [*]; done)), H', ⟨Nat.le_refl _⟩, ⟨by (with_reducible repeat (first | apply Kd.zo | apply Kd.zq | apply Kd.zA)); exact HO_3.out⟩, ⟨by repeat (first | (with_reducible first | exact HI0.out | apply za.alloc | apply za.drewN | apply za.drew | apply za.zca | apply za.zba) | exact HI0.out)⟩, ⟨by repeat (first | (with_reducible first | exact HK.out | apply zn.set_ | apply zy | apply zF | apply zx) | exact HK.out)⟩, ⟨by repeat (first | (with_reducible first | exact HB.out | apply zg | apply ze | apply zf | refine zh ?_ (za.ge HI0.out)) | exact HB.out)⟩⟩
     case round =>
      clear H'
      try clear c1
      try clear p1
      try clear q1
      try clear hx1
      try clear c2
      try clear p2
      try clear c3
      try clear c4
      try clear p6
      try clear c9
      try clear c9b0
      try clear c12
      try clear c13
      try clear c13b0
      try clear c13b1
      try clear c15
      try clear p15
      try clear q15
      try clear hx15
      try clear c17
      try clear c18
      try clear c20
      try clear c20b0
      try clear c21
      try clear c21b0
      try clear c26
      try clear c29
      try clear c31
      try clear c31b0
      try clear c31b1
      try clear c31b2
      try clear c32
      try clear c38
      try clear c38b0
      try clear c38b1
      try clear c40
      try clear c40b0
      try clear c40b1
      try clear c41
      try clear c41b0
      try clear c41b1
      try clear c42
      try clear c44
      try clear c46
      try clear c49
      try clear hx158_0
      try clear p1
      try clear p15
      try clear p158
      try clear p2
      try clear q1
      try clear q15
      try clear q158
      obtain ⟨x3_2, x6_2, rfl, HA, HK2, HO_3, HI0, HK, HB⟩ := hrel
      cases gk with
      | zero => exact absurd HA.out (by simp [zu.l1])
      | succ k2 =>
       have H := HA.out
       clear HA
       simp only [zu.l1] at H
       by_cases c51 : x6_2 < 41
       ·rw [if_pos c51] at H
        have c51b0 : decide (x6_2 < 41) = true := decide_eq_true c51
        clear c51
        obtain ⟨y183, hy183⟩ : ∃ y_ : List Int, y_ = (([(wrap64 (97 + (Int.tmod x6_2 26))) % 256, (wrap64 (97 + (wrap64 (Int.tdiv x6_2 26)))) % 256] : List Int)) := ⟨_, rfl⟩
        replace H : (if x3_2.length < 8796093022208 then (zu.l1 k2 (x3_2 ++ [strOfNums y183]) (wrap64 (x6_2 + 1)) s0_0 t181 t182) else (none)) = some (r1, r2, r3) := by first | (rw [hy183]; with_reducible exact H) | (have H2_ := (Option.bind_some _ _).symm.trans H; rw [hy183]; with_reducible exact H2_) | (have H2_ := (Option.bind_some _ _).symm.trans H; with_reducible exact H2_) | with_reducible exact H | (rw [hy183]; exact H) | exact H
        have Ny183 := zb.mk hy183
        clear hy183
        by_cases c52 : x3_2.length < 8796093022208
        ·rw [if_pos c52] at H
         have LMc52 := zb.mk c52
         clear c52
         obtain ⟨y186, hy186⟩ : ∃ y_ : List ByteArray, y_ = (x3_2 ++ [strOfNums y183]) := ⟨_, rfl⟩
         replace H : (zu.l1 k2 y186 (wrap64 (x6_2 + 1)) s0_0 t181 t182) = some (r1, r2, r3) := by first | (rw [hy186]; with_reducible exact H) | (have H2_ := (Option.bind_some _ _).symm.trans H; rw [hy186]; with_reducible exact H2_) | (have H2_ := (Option.bind_some _ _).symm.trans H; with_reducible exact H2_) | with_reducible exact H | (rw [hy186]; exact H) | exact H
         have Ny186 := zb.mk hy186
         clear hy186
         have H' := zb.mk H
         clear H
         go_wp2_with (first | ((with_reducible refine zoa (N := 70) rfl ?_); (try (refine zOa (by rfl) ?_; dsimp only)); refine Kd.R_lit (Kd.int .u8) _ 5 ?hg (N := 70) ?hd (xs := ([(wrap64 (97 + (Int.tmod x6_2 26))) % 256, (wrap64 (97 + (wrap64 (Int.tdiv x6_2 26)))) % 256] : List Int)) (inner := [.int .u8 ((wrap64 (97 + (Int.tmod x6_2 26))) % 256), .int .u8 ((wrap64 (97 + (wrap64 (Int.tdiv x6_2 26)))) % 256)]) (ok := fun _ => True) (okp := fun _ => True) ?hr ?hp (fun _ hk => hk) trivial (Below.refl _ _) (Nat.le_refl _) (by simp) ?_; (case hd => rfl); (case hg => rfl); (case hr => first | (go_simp; done) | (go_simp; rfl)); (case hp => exact (Reps.one (show Kd.M (Kd.int .u8) _ _ _ ((wrap64 (97 + (Int.tmod x6_2 26))) % 256) [.int .u8 ((wrap64 (97 + (Int.tmod x6_2 26))) % 256)] from rfl) (Reps.one (show Kd.M (Kd.int .u8) _ _ _ ((wrap64 (97 + (wrap64 (Int.tdiv x6_2 26)))) % 256) [.int .u8 ((wrap64 (97 + (wrap64 (Int.tdiv x6_2 26)))) % 256)] from rfl) (Reps.none _ _)))); intro v184 w53 ho54 hb hg_ hnew_; clear hg_ hnew_; (first | rw [← Ny183.out] at ho54 | (simp only [Int.reduceToNat] at ho54; rw [← Ny183.out] at ho54)); have n0_ := zb.mk (Kd.zta (by (with_reducible repeat (first | apply Kd.zo | apply Kd.zq | apply Kd.zA)); exact HO_3.out) hb); have n1_ := zb.mk (Kd.zua ho54 (zYa (w := w) (g := g) (row := none) (by repeat (first | (with_reducible first | exact HK.out | apply zn.set_ | apply zy | apply zF | apply zx) | exact HK.out)))); have n2_ := zb.mk (za.below (by repeat (first | (with_reducible first | exact HI0.out | apply za.alloc | apply za.drewN | apply za.drew | apply za.zca | apply za.zba) | exact HI0.out)) hb); have n3_ := zb.mk (zn.trans (by repeat (first | (with_reducible first | exact HK.out | apply zn.set_ | apply zy | apply zF | apply zx) | exact HK.out)) (zn.of_below hb g none) (.inl rfl)); have n4_ := zb.mk (zw (by repeat (first | (with_reducible first | exact HB.out | apply zg | apply ze | apply zf | refine zh ?_ (za.ge HI0.out)) | exact HB.out)) hb); clear HO_3; clear HI0; clear HK; clear HB; have HO_3 := n0_; have HO185 := n1_; have HI0 := n2_; have HK := n3_; have HB := n4_; clear n0_ n1_ n2_ n3_ n4_; clear hb ho54; have hcv55 := own_string (P := Tryz.prog) Tryz.underlying22 Tryz.underlying5 Tryz.underlying9 (Kd.own_of_R HO185.out)) | ((with_reducible refine zZa (b := .append) (xs := #[.tmp 61, .tmp 72]) rfl ?_); (try (refine zOa (by rfl) ?_; dsimp only)); at_builtin; refine Kd.R_append Kd.string w.heap.size rfl (.tmp 61) (.tmp 72) 31 9 (.string ⟨#[]⟩) 16 rfl Tryz.underlying31 info9 rfl (by decide) (by omega) u3 x3_2 (strOfNums y183) [.string (strOfNums y183)] (fun _ => True) (fun _ => False) rfl rfl ?aP (fun _ hk => hk.elim) ?aF ?aO (Below.refl _ _) ?aS ?aL ?_; (case aP => exact rfl); (case aF => exact (fun _ _ => trivial)); (case aO => exact (by (with_reducible repeat (first | apply Kd.zo | apply Kd.zq | apply Kd.zA)); exact HO_3.out)); (case aS => exact (zYa (w := w) (g := g) (row := none) (by repeat (first | (with_reducible first | exact HK.out | apply zn.set_ | apply zy | apply zF | apply zx) | exact HK.out)))); (case aL => have := LMc52.out; omega); intro v187 w56 ho hb hg hat; rw [← Ny186.out] at ho; have n0_ := zb.mk (za.grown (by repeat (first | (with_reducible first | exact HI0.out | apply za.alloc | apply za.drewN | apply za.drew | apply za.zca | apply za.zba) | exact HI0.out)) hg (za.own_ne HI0.out HO_3.out (by decide))); have n1_ := zb.mk (Kd.R_over' (by (with_reducible repeat (first | apply Kd.zo | apply Kd.zq | apply Kd.zA)); exact HO185.out) (Kd.R_typed (by (with_reducible repeat (first | apply Kd.zo | apply Kd.zq | apply Kd.zA)); exact HO_3.out)) (by decide) hg); have n2_ := zb.mk (below_weaken (by repeat (first | (with_reducible first | exact HB.out | apply zg | apply ze | apply zf | refine zh ?_ (za.ge HI0.out)) | exact HB.out)) HL.out hb); have n3_ := zb.mk (zn.trans (by repeat (first | (with_reducible first | exact HK.out | apply zn.set_ | apply zy | apply zF | apply zx) | exact HK.out)) (zn.of_grown hg g) (Kd.R_base2 HO_3.out)); have n4_ := zb.mk (ho); clear HI0; clear HO185; clear HB; clear HK; clear HO_3; have HI0 := n0_; have HO185 := n1_; have HB := n2_; have HK := n3_; have HO188 := n4_; clear n0_ n1_ n2_ n3_ n4_; clear ho hb hg hat))
         go_roundg k2
         case measure => have := HK1.out; have := HK2.out; omega
         case rel => exact ⟨(y186), (wrap64 (x6_2 + 1)), (by first | rfl | (simp; done) | (simp [*]; done)), H', ⟨by have := HK1.out; have := HK2.out; omega⟩, ⟨by (with_reducible repeat (first | apply Kd.zo | apply Kd.zq | apply Kd.zA)); exact HO188.out⟩, ⟨by repeat (first | (with_reducible first | exact HI0.out | apply za.alloc | apply za.drewN | apply za.drew | apply za.zca | apply za.zba) | exact HI0.out)⟩, ⟨by repeat (first | (with_reducible first | exact HK.out | apply zn.set_ | apply zy | apply zF | apply zx) | exact HK.out)⟩, ⟨by repeat (first | (with_reducible first | exact HB.out | apply zg | apply ze | apply zf | refine zh ?_ (za.ge HI0.out)) | exact HB.out)⟩⟩
        ·rw [if_neg c52] at H
         exact absurd H (by simp)
       ·rw [if_neg c51] at H
        have c51b0 : decide (x6_2 < 41) = false := decide_eq_false c51
        clear c51
        simp only [Option.some.injEq, Prod.mk.injEq] at H
        obtain ⟨rfl, rfl, rfl⟩ := H
        go_wp2
        go_ret
        exact ⟨_, by first | rfl | (simp [zC, zB] <;> rfl) | (simp [*, zC, zB] <;> rfl), by (with_reducible repeat (first | apply Kd.zo | apply Kd.zq | apply Kd.zA)); exact HO_3.out, by repeat (first | (with_reducible first | exact HI0.out | apply za.alloc | apply za.drewN | apply za.drew | apply za.zca | apply za.zba) | exact HI0.out), by repeat (first | (with_reducible first | exact HB.out | apply zg | apply ze | apply zf | refine zh ?_ (za.ge HI0.out)) | exact HB.out), by repeat (first | (with_reducible first | exact HK.out | apply zn.set_ | apply zy | apply zF | apply zx) | exact HK.out)⟩
    ·replace c49 := Bool.eq_false_iff.mpr c49
     subst c49
     have H1 : (some (x3_1, t181, t182)) = some (r1, r2, r3) := by rw [if_neg (show ¬ (false = true) by decide)] at H; exact H
     clear H
     have H := H1
     clear H1
     simp only [Option.some.injEq, Prod.mk.injEq] at H
     obtain ⟨rfl, rfl, rfl⟩ := H
     go_wp2_with (first | ((with_reducible refine zH (f := 127) rfl ?_); refine zra (some 56) rfl rfl Tryz.func127 (by kernel_rfl) rfl #[.pointer (some ⟨g, 0, none⟩), .int .i64 40] rfl (by (try simp only [List.map_toArray, List.map_cons, List.map_nil]); first | done | rfl | (simp only [List.length_drop, List.length_take]; rfl)) ?_; (with_reducible refine (zM.calls g s0_0 x1001_1 x1002_1 40 false t181 t182 w0 _ ?side1 ?side2 A48.out).mono ?_); (case side1 => repeat (first | (with_reducible first | exact HI0.out | apply za.alloc | apply za.drewN | apply za.drew | apply za.zca | apply za.zba) | exact HI0.out)); (case side2 => repeat (first | (with_reducible first | exact HB.out | apply zg | apply ze | apply zf | refine zh ?_ (za.ge HI0.out)) | exact HB.out)); rintro e w57 ⟨rfl, hi, hb, hk⟩; refine ⟨_, rfl, ?_⟩; have n0_ := zb.mk (Kd.zZ (Kd.zGa (za.apart (show za w0 _ g s0_0 x1001_1 x1002_1 from by repeat (first | (with_reducible first | exact HI0.out | apply za.alloc | apply za.drewN | apply za.drew | apply za.zca | apply za.zba) | exact HI0.out)) (by (with_reducible repeat (first | apply Kd.zo | apply Kd.zq | apply Kd.zA)); exact HO_3.out) (by decide)) hk (fun _ h => h.2)) (fun _ h => h.1)); have n1_ := zb.mk (zn.trans (by repeat (first | (with_reducible first | exact HK.out | apply zn.set_ | apply zy | apply zF | apply zx) | exact HK.out)) hk (.inl rfl)); have n2_ := zb.mk (hb); have n3_ := zb.mk (hi); clear HO_3; clear HK; clear HB; clear HI0; have HO_3 := n0_; have HK := n1_; have HB := n2_; have HI0 := n3_; clear n0_ n1_ n2_ n3_; (try clear hb); (try clear hb2); (try clear hk); (try clear hi)))
     go_ret
     exact ⟨_, by first | rfl | (simp [zC, zB] <;> rfl) | (simp [*, zC, zB] <;> rfl), by (with_reducible repeat (first | apply Kd.zo | apply Kd.zq | apply Kd.zA)); exact HO_3.out, by repeat (first | (with_reducible first | exact HI0.out | apply za.alloc | apply za.drewN | apply za.drew | apply za.zca | apply za.zba) | exact HI0.out), by repeat (first | (with_reducible first | exact HB.out | apply zg | apply ze | apply zf | refine zh ?_ (za.ge HI0.out)) | exact HB.out), by repeat (first | (with_reducible first | exact HK.out | apply zn.set_ | apply zy | apply zF | apply zx) | exact HK.out)⟩
end Go.Proofs.YtfabennfhmlihaaGreatDoor.P
end
section
namespace Go.Proofs.YtfabennfhmlihaaGreatDoor.P
open Go Go.RowKit Go.Proofs.YtfabennfhmlihaaGreatDoorW.zJ Go.Proofs.YtfabennfhmlihaaGreatDoorW.zU Go.Proofs.YtfabennfhmlihaaGreatDoorW.PrintMore
set_option linter.unusedVariables false
/-- A code: bytes. -/
def Bytes (c : List Int) : Prop := (∀ x ∈ c, 0 ≤ x ∧ x ≤ 255) ∧ c.length ≤ 4611686018427387904
theorem rd_bytes {c : List Int} (hc : Bytes c) (i : Int) : 0 ≤ rd c i ∧ rd c i ≤ 255 := by
  unfold rd
  rw [List.getD_eq_getElem?_getD]
  rcases h : c[i.toNat]? with _ | x
  · simp
  · exact hc.1 x (List.mem_of_getElem? h)
theorem and_255 (x : Int) : 0 ≤ Go.bits .and .u64 x 255 ∧ Go.bits .and .u64 x 255 ≤ 255 := by
  have h : (BitVec.ofInt 64 x &&& BitVec.ofInt 64 255).toNat ≤ 255 := by
    rw [BitVec.toNat_and]
    exact Nat.le_trans Nat.and_le_right (by decide)
  have e : Go.bits .and .u64 x 255 = IntKind.u64.wrap (((BitVec.ofInt 64 x &&& BitVec.ofInt 64 255).toNat : Nat) : Int) := rfl
  rw [e]
  generalize (BitVec.ofInt 64 x &&& BitVec.ofInt 64 255).toNat = n at h ⊢
  simp only [IntKind.wrap, IntKind.bits, IntKind.signed]
  simp
  omega
theorem next_ok {c : List Int} (hc : Bytes c) (a s : Int) (h0 : 0 ≤ a) (h1 : a ≤ 4611686018427387904) :
    ∃ r s', zgb.f c a s = some (r, a + 1, s') ∧ 0 ≤ r ∧ r ≤ 255 := by
  have hw : wrap64 (a + 1) = a + 1 := zSa (by omega) (by omega)
  have hr := rd_bytes hc a
  have hwr : wrap64 (rd c a) = rd c a := zSa (by omega) (by omega)
  unfold zgb.f
  rw [hw]
  by_cases h : a < (c.length : Int)
  · rw [if_pos h, if_pos h0, if_pos (by omega)]
    exact ⟨_, _, rfl, by rw [hwr]; exact hr.1, by rw [hwr]; exact hr.2⟩
  · rw [if_neg h, if_neg (by omega)]
    have hb := and_255 (IntKind.u64.wrap ((IntKind.u64.wrap ((IntKind.u64.wrap (s * 6364136223846793005)))) + 462197) / 1099511627776)
    refine ⟨_, _, rfl, ?_, ?_⟩
    · rw [zSa (by omega) (by omega)]; exact hb.1
    · rw [zSa (by omega) (by omega)]; exact hb.2
theorem pick_ok {c : List Int} (hc : Bytes c) (a s n : Int) (h0 : 0 ≤ a) (h1 : a ≤ 4611686018427387000) (hn : 1 ≤ n) :
    ∃ r a' s', zK.f c a s n = some (r, a', s') ∧ (0 ≤ r ∧ r < n) ∧ (a ≤ a' ∧ a' ≤ a + 2) := by
  unfold zK.f
  by_cases h : n ≤ 1
  · rw [if_pos h]
    exact ⟨_, _, _, rfl, ⟨by omega, by omega⟩, by omega, by omega⟩
  · rw [if_neg h]
    obtain ⟨r, s', e, hr0, hr1⟩ := next_ok hc a s h0 (by omega)
    rw [e, Option.bind_some]
    dsimp only
    by_cases h2 : n > 200
    · rw [if_pos h2]
      obtain ⟨r2, s2, e2, hq0, hq1⟩ := next_ok hc (a + 1) s' (by omega) (by omega)
      rw [e2, Option.bind_some, if_neg (by omega)]
      have hw1 : wrap64 (r * 256) = r * 256 := zSa (by omega) (by omega)
      have hw2 : wrap64 (r * 256 + r2) = r * 256 + r2 := zSa (by omega) (by omega)
      dsimp only
      rw [hw1, hw2]
      refine ⟨_, _, _, rfl, ⟨Int.tmod_nonneg _ (by omega), Int.tmod_lt_of_pos _ (by omega)⟩, by omega, by omega⟩
    · rw [if_neg h2, if_neg (by omega)]
      exact ⟨_, _, _, rfl, ⟨Int.tmod_nonneg _ (by omega), Int.tmod_lt_of_pos _ (by omega)⟩, by omega, by omega⟩
theorem one_ok {c : List Int} (hc : Bytes c) (a s n : Int) (h0 : 0 ≤ a) (h1 : a ≤ 4611686018427387000) (hn : 1 ≤ n) :
    ∃ (r : Bool) (a' s' : Int), zM.f c a s n = some (r, a', s') ∧ (a ≤ a' ∧ a' ≤ a + 2) := by
  obtain ⟨r, a', s', e, _, h⟩ := pick_ok hc a s n h0 h1 hn
  unfold zM.f
  rw [e, Option.bind_some]
  exact ⟨_, _, _, rfl, h⟩
theorem of_ok {c : List Int} (hc : Bytes c) (a s : Int) (l : List ByteArray) (h0 : 0 ≤ a) (h1 : a ≤ 4611686018427387000) (hl : 1 ≤ l.length) :
    ∃ r a' s', zCa.f c a s l = some (r, a', s') ∧ r ∈ l ∧ (a ≤ a' ∧ a' ≤ a + 2) := by
  obtain ⟨r, a', s', e, hr, h⟩ := pick_ok hc a s (l.length : Int) h0 h1 (by omega)
  unfold zCa.f
  rw [e, Option.bind_some]
  dsimp only
  rw [if_pos hr.1, if_pos hr.2]
  refine ⟨_, _, _, rfl, ?_, h⟩
  unfold rdOf
  rw [List.getD_eq_getElem?_getD, List.getElem?_eq_getElem (by omega)]
  exact List.getElem_mem _
theorem among_ok {c : List Int} (hc : Bytes c) (a s : Int) (l : List Int) (h0 : 0 ≤ a) (h1 : a ≤ 4611686018427387000) (hl : 1 ≤ l.length) :
    ∃ r a' s', zaa.f c a s l = some (r, a', s') ∧ r ∈ l ∧ (a ≤ a' ∧ a' ≤ a + 2) := by
  obtain ⟨r, a', s', e, hr, h⟩ := pick_ok hc a s (l.length : Int) h0 h1 (by omega)
  unfold zaa.f
  rw [e, Option.bind_some]
  dsimp only
  rw [if_pos hr.1, if_pos hr.2]
  refine ⟨_, _, _, rfl, ?_, h⟩
  unfold rd
  rw [List.getD_eq_getElem?_getD, List.getElem?_eq_getElem (by omega)]
  exact List.getElem_mem _
/-- A draw with rounds. -/
def Dr {α : Type} (f : Nat → Option (α × Int × Int)) (a m : Int) (p : α → Prop) : Prop :=
  ∃ r a' s', Ev f (r, a', s') ∧ p r ∧ (a ≤ a' ∧ a' ≤ a + m)
theorem drawWord_l0 {c : List Int} (hc : Bytes c) (n : Nat) : ∀ (w : ByteArray) (a s : Int), 0 ≤ a → a ≤ 4611686018427380000 - 2 * n → w.size ≤ 1000 - n → n ≤ 100 →
    Dr (fun k => zsa.l0 k w (n : Int) c a s) a (2 * n + 4) (fun r => r.size ≤ w.size + n + 13) := by
  induction n with
  | zero =>
    intro w a s h0 h1 hw hn
    obtain ⟨b, a1, s1, e1, ha1⟩ := one_ok hc a s 50 h0 (by omega) (by omega)
    cases b with
    | false =>
      refine ⟨w, a1, s1, Ev.succ ?_, by omega, by omega, by omega⟩
      simp only [zsa.l0, e1, Option.bind_some]
      exact Ev.neg (by omega) (Ev.neg (by simp) (Ev.const rfl))
    | true =>
      obtain ⟨t, a2, s2, e2, ht, ha2⟩ := of_ok hc a1 s1 ([(⟨#[65]⟩ : ByteArray), ⟨#[123]⟩, ⟨#[32]⟩, ⟨#[97, 97, 97, 97, 97, 97, 97, 97, 97, 97, 97, 97, 97]⟩]) (by omega) (by omega) (by simp)
      have hts : t.size ≤ 13 := by
        simp only [List.mem_cons, List.not_mem_nil, or_false] at ht
        rcases ht with rfl | rfl | rfl | rfl <;> decide
      refine ⟨w ++ t, a2, s2, Ev.succ ?_, by show (w ++ t).size ≤ _; rw [ByteArray.size_append]; omega, by omega, by omega⟩
      simp only [zsa.l0, e1, e2, Option.bind_some]
      exact Ev.neg (by omega) (Ev.pos (by simp) (Ev.pos (by omega) (Ev.const rfl)))
  | succ n ih =>
    intro w a s h0 h1 hw hn
    obtain ⟨t, a2, s2, e2, ht, ha2⟩ := of_ok hc a s ([(⟨#[97]⟩ : ByteArray), ⟨#[98]⟩, ⟨#[97]⟩, ⟨#[99]⟩, ⟨#[98]⟩, ⟨#[122]⟩]) h0 (by omega) (by simp)
    have hts : t.size = 1 := by
      simp only [List.mem_cons, List.not_mem_nil, or_false] at ht
      rcases ht with rfl | rfl | rfl | rfl | rfl | rfl <;> decide
    obtain ⟨r, a', s', hr, hp, ha⟩ := ih (w ++ t) a2 s2 (by omega) (by omega) (by rw [ByteArray.size_append]; omega) (by omega)
    refine ⟨r, a', s', Ev.succ ?_, by rw [ByteArray.size_append] at hp; show r.size ≤ _; omega, by omega, by omega⟩
    simp only [zsa.l0, e2, Option.bind_some]
    refine Ev.pos (by omega) (Ev.pos (by omega) ?_)
    rw [zSa (by omega) (by omega), show ((n + 1 : Nat) : Int) - 1 = (n : Int) by omega]
    exact hr
theorem word_ok {c : List Int} (hc : Bytes c) (a s : Int) (h0 : 0 ≤ a) (h1 : a ≤ 4611686018427370000) :
    Dr (fun k => zsa.f k c a s) a 40 (fun r => r.size ≤ 25) := by
  obtain ⟨n, a1, s1, e1, hn, ha1⟩ := among_ok hc a s [3, 2, 4, 1, 5, 0, 3, 12] h0 (by omega) (by simp)
  have hn2 : 0 ≤ n ∧ n ≤ 12 := by
    simp only [List.mem_cons, List.not_mem_nil, or_false] at hn
    omega
  obtain ⟨m, rfl⟩ : ∃ m : Nat, n = m := ⟨n.toNat, by omega⟩
  obtain ⟨r, a', s', hr, hp, ha⟩ := drawWord_l0 hc m ⟨#[]⟩ a1 s1 (by omega) (by omega) (by show 0 ≤ _; omega) (by omega)
  refine ⟨r, a', s', ?_, by have : (⟨#[]⟩ : ByteArray).size = 0 := rfl; show r.size ≤ _; omega, by omega, by omega⟩
  unfold zsa.f
  simp only [e1, Option.bind_some]
  exact hr
/-- Texts that are not long. -/
def Short (l : List ByteArray) : Prop := ∀ b ∈ l, b.size ≤ 25
theorem Short.snoc {l : List ByteArray} {b : ByteArray} (h : Short l) (hb : b.size ≤ 25) : Short (l ++ [b]) := by
  intro x hx
  rcases List.mem_append.1 hx with hx | hx
  · exact h x hx
  · rw [List.mem_singleton.1 hx]; exact hb
theorem drawWords_l1 (c : List Int) (a s : Int) (n : Nat) : ∀ (i : Nat) (out : List ByteArray), 41 - i = n → i ≤ 41 → out.length + n ≤ 1000 → Short out →
    ∃ r, Ev (fun k => zu.l1 k out (i : Int) c a s) (r, a, s) ∧ r.length ≤ out.length + n ∧ Short r := by
  induction n with
  | zero =>
    intro i out hm hi hl hs
    refine ⟨out, Ev.succ ?_, by omega, hs⟩
    simp only [zu.l1]
    exact Ev.neg (by omega) (Ev.const rfl)
  | succ n ih =>
    intro i out hm hi hl hs
    obtain ⟨b, hb⟩ : ∃ b, b = strOfNums [(wrap64 (97 + (Int.tmod (i : Int) 26))) % 256, (wrap64 (97 + (wrap64 (Int.tdiv (i : Int) 26)))) % 256] := ⟨_, rfl⟩
    have hbs : b.size ≤ 25 := by rw [hb, tx_str, zMa]; simp
    obtain ⟨r, hr, h1, h2⟩ := ih (i + 1) (out ++ [b]) (by omega) (by omega) (by rw [List.length_append, List.length_singleton]; omega) (hs.snoc hbs)
    refine ⟨r, Ev.succ ?_, by rw [List.length_append, List.length_singleton] at h1; omega, h2⟩
    simp only [zu.l1]
    refine Ev.pos (by omega) (Ev.pos (by omega) ?_)
    rw [← hb, zSa (by omega) (by omega)]
    simpa using hr
theorem drawWords_l0 {c : List Int} (hc : Bytes c) (n : Nat) : ∀ (out : List ByteArray) (a s : Int), 0 ≤ a → a ≤ 4611686018427360000 - 50 * n → out.length ≤ 100 - n → n ≤ 50 → Short out →
    Dr (fun k => zu.l0 k out (n : Int) c a s) a (50 * n + 2) (fun r => r.length ≤ out.length + n + 41 ∧ Short r) := by
  induction n with
  | zero =>
    intro out a s h0 h1 hl hn hs
    obtain ⟨b, a1, s1, e1, ha1⟩ := one_ok hc a s 40 h0 (by omega) (by omega)
    cases b with
    | false =>
      refine ⟨out, a1, s1, Ev.succ ?_, ⟨by omega, hs⟩, by omega, by omega⟩
      simp only [zu.l0, e1, Option.bind_some]
      exact Ev.neg (by omega) (Ev.neg (by simp) (Ev.const rfl))
    | true =>
      obtain ⟨r, hr, h2, h3⟩ := drawWords_l1 c a1 s1 41 0 out rfl (by omega) (by omega) hs
      refine ⟨r, a1, s1, Ev.succ ?_, ⟨by omega, h3⟩, by omega, by omega⟩
      simp only [zu.l0, e1, Option.bind_some]
      exact Ev.neg (by omega) (Ev.pos (by simp) hr)
  | succ n ih =>
    intro out a s h0 h1 hl hn hs
    obtain ⟨w, a1, s1, hw, hws, ha1⟩ := word_ok hc a s h0 (by omega)
    -- what is put, and on
    have put : ∀ (b : ByteArray) (a2 s2 : Int), a ≤ a2 → a2 ≤ a + 48 → b.size ≤ 25 → ∃ r a' s', Ev (fun k => zu.l0 k (out ++ [b]) (wrap64 (((n + 1 : Nat) : Int) - 1)) c a2 s2) (r, a', s') ∧ (r.length ≤ out.length + (n + 1) + 41 ∧ Short r) ∧ (a ≤ a' ∧ a' ≤ a + (50 * (n + 1 : Nat) + 2)) := by
      intro b a2 s2 h2 h3 hb
      obtain ⟨r, a', s', hr, hp, ha⟩ := ih (out ++ [b]) a2 s2 (by omega) (by omega) (by rw [List.length_append, List.length_singleton]; omega) (by omega) (hs.snoc hb)
      refine ⟨r, a', s', ?_, ⟨by have := hp.1; rw [List.length_append, List.length_singleton] at this; omega, hp.2⟩, by omega, by omega⟩
      rw [zSa (by omega) (by omega), show ((n + 1 : Nat) : Int) - 1 = (n : Int) by omega]
      exact hr
    have go1 : ∀ (b : Bool) (a2 s2 : Int), (b = true → 0 < out.length) → a ≤ a2 → a2 ≤ a + 42 → ∃ r a' s', Ev (fun k => zu.j1 k out ((n + 1 : Nat) : Int) w b c a2 s2) (r, a', s') ∧ (r.length ≤ out.length + (n + 1) + 41 ∧ Short r) ∧ (a ≤ a' ∧ a' ≤ a + (50 * (n + 1 : Nat) + 2)) := by
      intro b a2 s2 hb h2 h3
      cases b with
      | false =>
        obtain ⟨r, a', s', hr, hp, ha⟩ := put w a2 s2 h2 (by omega) hws
        refine ⟨r, a', s', Ev.succ ?_, hp, ha⟩
        simp only [zu.j1]
        exact Ev.neg (by simp) (Ev.pos (by omega) hr)
      | true =>
        have hol := hb rfl
        obtain ⟨q, a3, s3, e3, hq, ha3⟩ := pick_ok hc a2 s2 (out.length : Int) (by omega) (by omega) (by omega)
        obtain ⟨y, a4, s4, e4, ha4⟩ := one_ok hc a3 s3 2 (by omega) (by omega) (by omega)
        obtain ⟨v, hv⟩ : ∃ v, v = rdOf ByteArray.empty out q := ⟨_, rfl⟩
        have hvs : v.size ≤ 25 := hs v (by
          rw [hv]; unfold rdOf
          rw [List.getD_eq_getElem?_getD, List.getElem?_eq_getElem (by omega)]; exact List.getElem_mem _)
        have go2 : ∀ (d : Bool), (d = true → v.size < 12) → ∃ r a' s', Ev (fun k => zu.j2 k out ((n + 1 : Nat) : Int) v d c a4 s4) (r, a', s') ∧ (r.length ≤ out.length + (n + 1) + 41 ∧ Short r) ∧ (a ≤ a' ∧ a' ≤ a + (50 * (n + 1 : Nat) + 2)) := by
          intro d hd
          cases d with
          | true =>
            have hd := hd rfl
            obtain ⟨t, a5, s5, e5, ht, ha5⟩ := of_ok hc a4 s4 ([(⟨#[97]⟩ : ByteArray), ⟨#[98]⟩, ⟨#[99]⟩]) (by omega) (by omega) (by simp)
            have hts : t.size = 1 := by
              simp only [List.mem_cons, List.not_mem_nil, or_false] at ht
              rcases ht with rfl | rfl | rfl <;> decide
            obtain ⟨r, a', s', hr, hp, ha⟩ := put (v ++ t) a5 s5 (by omega) (by omega) (by rw [ByteArray.size_append]; omega)
            refine ⟨r, a', s', Ev.succ ?_, hp, ha⟩
            simp only [zu.j2, e5, Option.bind_some]
            exact Ev.pos (by simp) (Ev.pos (by omega) (Ev.pos (by omega) hr))
          | false =>
            by_cases hv0 : (v.size : Int) > 0
            · obtain ⟨r, a', s', hr, hp, ha⟩ := put (v.extract 0 ((wrap64 ((v.size : Int) - 1)) : Int).toNat) a4 s4 (by omega) (by omega) (by
                rw [zSa (by omega) (by omega), ByteArray.size_extract]; omega)
              refine ⟨r, a', s', Ev.succ ?_, hp, ha⟩
              simp only [zu.j2]
              refine Ev.neg (by simp) (Ev.pos hv0 (Ev.pos ?_ (Ev.pos ?_ (Ev.pos (by omega) hr))))
              · rw [zSa (by omega) (by omega)]; omega
              · rw [zSa (by omega) (by omega)]; omega
            · obtain ⟨r, a', s', hr, hp, ha⟩ := put v a4 s4 (by omega) (by omega) hvs
              refine ⟨r, a', s', Ev.succ ?_, hp, ha⟩
              simp only [zu.j2]
              exact Ev.neg (by simp) (Ev.neg hv0 (Ev.pos (by omega) hr))
        cases y with
        | true =>
          obtain ⟨r, a', s', hr, hp, ha⟩ := go2 (decide ((v.size : Int) < 12)) (fun h => by have := of_decide_eq_true h; omega)
          refine ⟨r, a', s', Ev.succ ?_, hp, ha⟩
          simp only [zu.j1, e3, e4, Option.bind_some, ← hv]
          exact Ev.pos (by simp) (Ev.pos hq.1 (Ev.pos hq.2 (Ev.pos (by simp) hr)))
        | false =>
          obtain ⟨r, a', s', hr, hp, ha⟩ := go2 false (fun h => by cases h)
          refine ⟨r, a', s', Ev.succ ?_, hp, ha⟩
          simp only [zu.j1, e3, e4, Option.bind_some, ← hv]
          exact Ev.pos (by simp) (Ev.pos hq.1 (Ev.pos hq.2 (Ev.neg (by simp) hr)))
    by_cases ho : (out.length : Int) > 0
    · obtain ⟨b, a2, s2, e2, ha2⟩ := one_ok hc a1 s1 3 (by omega) (by omega) (by omega)
      obtain ⟨r, a', s', hr, hp, ha⟩ := go1 b a2 s2 (fun _ => by omega) (by omega) (by omega)
      refine ⟨r, a', s', Ev.succ ?_, hp, ha⟩
      simp only [zu.l0]
      refine Ev.pos (by omega) (Ev.bind hw (Ev.pos ho ?_))
      simp only [e2, Option.bind_some]
      exact hr
    · obtain ⟨r, a', s', hr, hp, ha⟩ := go1 false a1 s1 (fun h => by cases h) (by omega) (by omega)
      refine ⟨r, a', s', Ev.succ ?_, hp, ha⟩
      simp only [zu.l0]
      exact Ev.pos (by omega) (Ev.bind hw (Ev.neg ho hr))
theorem words_ok {c : List Int} (hc : Bytes c) (a s : Int) (h0 : 0 ≤ a) (h1 : a ≤ 4611686018427350000) :
    Dr (fun k => zu.f k c a s) a 700 (fun r => r.length ≤ 100 ∧ Short r) := by
  obtain ⟨n, a1, s1, e1, hn, ha1⟩ := among_ok hc a s [4, 6, 2, 8, 1, 0, 12, 3] h0 (by omega) (by simp)
  have hn2 : 0 ≤ n ∧ n ≤ 12 := by
    simp only [List.mem_cons, List.not_mem_nil, or_false] at hn
    omega
  obtain ⟨m, rfl⟩ : ∃ m : Nat, n = m := ⟨n.toNat, by omega⟩
  obtain ⟨r, a', s', hr, hp, ha⟩ := drawWords_l0 hc m [] a1 s1 (by omega) (by omega) (by show 0 ≤ _; omega) (by omega) (fun _ h => by simp at h)
  refine ⟨r, a', s', ?_, ⟨by have := hp.1; simp at this; omega, hp.2⟩, by omega, by omega⟩
  unfold zu.f
  simp only [e1, Option.bind_some]
  exact hr
end Go.Proofs.YtfabennfhmlihaaGreatDoor.P
end
section
namespace Go.Proofs.YtfabennfhmlihaaGreatDoor.P
open Go.RowKit Go.Proofs.YtfabennfhmlihaaGreatDoorW.zJ Go.Proofs.YtfabennfhmlihaaGreatDoorW.zU Go.Proofs.YtfabennfhmlihaaGreatDoorW.PrintMore
set_option linter.unusedVariables false
set_option linter.unusedSimpArgs false
def spec_l1In.f (a0 : Int) (a1 : Int) (a2 : Int) : Option (Bool) := if a0 ≥ a1 then (some (decide (a0 ≤ a2))) else (some false)
set_option maxHeartbeats 8000000 in
set_option maxRecDepth 100000 in
theorem spec_l1In.calls (a0 : Int) (a1 : Int) (a2 : Int) (r : Bool) (w : World) (h : spec_l1In.f a0 a1 a2 = some r) :
  Calls Tryz.prog 137 #[.int .i64 a0, .int .i64 a1, .int .i64 a2] w fun e w' => e = .returned (.bool r) ∧ zX w w' := by
 have H : (if a0 ≥ a1 then (some (decide (a0 ≤ a2))) else (some false)) = some r := h
 clear h
 by_cases c4 : a0 ≥ a1
 ·rw [if_pos c4] at H
  have c4b0 : decide (a1 ≤ a0) = true := decide_eq_true c4
  clear c4
  obtain rfl := Option.some.inj H
  go_enter Tryz.func137, Tryz.ntmps137
  go_wp2
  go_ret
  exact ⟨by first | rfl | (simp; done) | (simp [*]; done), by repeat (first | exact zX.refl _ | apply zX.step)⟩
 ·rw [if_neg c4] at H
  have c4b0 : decide (a1 ≤ a0) = false := decide_eq_false c4
  clear c4
  obtain rfl := Option.some.inj H
  go_enter Tryz.func137, Tryz.ntmps137
  go_wp2
  go_ret
  exact ⟨by first | rfl | (simp; done) | (simp [*]; done), by repeat (first | exact zX.refl _ | apply zX.step)⟩
end Go.Proofs.YtfabennfhmlihaaGreatDoor.P
end
section
namespace Go.Proofs.YtfabennfhmlihaaGreatDoor.P
open Go.RowKit Go.Proofs.YtfabennfhmlihaaGreatDoorW.zJ Go.Proofs.YtfabennfhmlihaaGreatDoorW.zU Go.Proofs.YtfabennfhmlihaaGreatDoorW.PrintMore
set_option linter.unusedVariables false
set_option linter.unusedSimpArgs false
mutual
def zma.l0 : Nat → Int → ByteArray → List (zL) → Option (ByteArray)
 | 0, _, _, _ => none
 | k + 1, x1, x5, x252000 => if x1 > 0 then (zma.j1 k x1 x5 (decide ((x5.size : Int) ≤ 12)) x252000) else (zma.j1 k x1 x5 false x252000)
def zma.j1 : Nat → Int → ByteArray → Bool → List (zL) → Option (ByteArray)
 | 0, _, _, _, _ => none
 | k + 1, x1, x5, x13, x252000 => if x13 = true then (if 0 ≤ x1 then (if x1 < (x252000.length : Int) then ((spec_l1In.f ((zl x252000 x1).f0) 0 25).bind fun t254 => (if t254 = true then (if ((zl x252000 x1).f1) ≥ x1 then (some (⟨#[63]⟩ : ByteArray)) else ((some (([(wrap64 (97 + ((zl x252000 x1).f0))) % 256] : List Int) : List Int)).bind fun y255 => (if (strOfNums y255).size + x5.size ≤ 9223372036854775807 then (zma.l0 k ((zl x252000 x1).f1) ((strOfNums y255) ++ x5) x252000) else (none)))) else (some (⟨#[63]⟩ : ByteArray)))) else (none)) else (none)) else (if x1 = 0 then (some x5) else (some (⟨#[63]⟩ : ByteArray)))
end
def zma.f (k : Nat) (l0_0 : List (zL)) (a1 : Int) : Option (ByteArray) := zma.l0 k a1 (⟨#[]⟩ : ByteArray) l0_0
set_option maxHeartbeats 8000000 in
set_option maxRecDepth 100000 in
theorem zma.calls (k : Nat) (A0_0 : Option Addr) (c0_0 : Nat) (l0_0 : List (zL)) (a1 : Int) (r : ByteArray) (w : World) (hr0_0 : Kd.C zXa w A0_0 l0_0.length l0_0) (hc0_0 : l0_0.length ≤ c0_0) (h : zma.f k l0_0 a1 = some r) :
  Calls Tryz.prog 170 #[.agg #[.slice A0_0 l0_0.length c0_0], .int .i64 a1] w fun e w' => e = .returned (.string r) ∧ Below w.heap.size w w' := by
 have hu26 := Tryz.underlying26
 have hu73 := Tryz.underlying73
 have HR0_0 := zb.mk hr0_0
 have HC0_0 := zb.mk hc0_0
 clear hr0_0 hc0_0
 have HB := zb.mk (Below.refl w.heap.size w)
 have H : (zma.l0 k a1 (⟨#[]⟩ : ByteArray) l0_0) = some r := h
 clear h
 have H' := zb.mk H
 clear H
 go_enter Tryz.func170, Tryz.ntmps170
 go_wp2_with (first | ((with_reducible refine zoa (N := 2) rfl ?_); (try (refine zOa (by rfl) ?_; dsimp only)); refine zEa ?hg (N := 2) ?hd (cs := #[.slice A0_0 l0_0.length c0_0]) (t := 26) ?hr ?_; (case hd => rfl); (case hg => rfl); (case hr => first | (go_simp; done) | (go_simp; rfl)); intro gb251 hg w3 hbox hb; have n0_ := zb.mk (zw (by repeat (first | (with_reducible first | exact HB.out | apply zg | apply ze | apply zf) | exact HB.out)) hb); have n1_ := zb.mk (hbox); have n2_ := zb.mk ((by rw [hg]; exact (zt (by repeat (first | (with_reducible first | exact HB.out | apply zg | apply ze | apply zf) | exact HB.out))) : w.heap.size ≤ gb251)); have n3_ := zb.mk ((by rw [hg]; exact (zt (by repeat (first | (with_reducible first | exact HB.out | apply zg | apply ze | apply zf) | exact HB.out))) : w.heap.size ≤ gb251)); clear HB; have HB := n0_; have BK251 := n1_; have GW251 := n2_; have GE251 := n3_; clear n0_ n1_ n2_ n3_; clear hb hbox hg))
 go_loopg [1, 5] k (fun kq v1 v5 w' => ∃ (x1_1 : Int) (x5_1 : ByteArray), v1 = .int .i64 x1_1 ∧ v5 = .string x5_1 ∧ zb (zma.l0 kq x1_1 x5_1 l0_0 = some r) ∧ zb (kq ≤ k) ∧ zb (w'.heap[gb251]? = some (.cells #[(.slice A0_0 l0_0.length c0_0)] 26 (0, 0))) ∧ zb (Below w.heap.size w w'))
 case atStart => exact ⟨(a1), ((⟨#[]⟩ : ByteArray)), (by first | rfl | (simp; done) | (simp [*]; done)), (by first | rfl | (simp; done) | (simp [*]; done)), H', ⟨Nat.le_refl _⟩, ⟨by (with_reducible repeat (first | refine zk ?_ _ | refine zm ?_ | refine zi ?_ _)); exact BK251.out⟩, ⟨by repeat (first | (with_reducible first | exact HB.out | apply zg | apply ze | apply zf | refine zh ?_ GE251.out) | exact HB.out)⟩⟩
 case round =>
  clear H'
  try clear c1
  try clear p2
  obtain ⟨x1_1, x5_1, rfl, rfl, HA, HK1, BK251, HB⟩ := hrel
  cases gk with
  | zero => exact absurd HA.out (by simp [zma.l0])
  | succ k1 =>
   have H := HA.out
   clear HA
   simp only [zma.l0] at H
   have HC4 := zb.mk H
   clear H
   go_upto_region 2 with (fail)
   go_cut [13] (fun v13 wc => ∃ (kq : Nat) (x13_3 : Bool), v13 = .bool x13_3 ∧ zb (zma.j1 kq x1_1 x5_1 x13_3 l0_0 = some r) ∧ zb (kq ≤ k1) ∧ zb (wc.heap[gb251]? = some (.cells #[(.slice A0_0 l0_0.length c0_0)] 26 (0, 0))) ∧ zb (Below w.heap.size w wc))
   case first =>
    have H := HC4.out
    clear HC4
    by_cases c5 : x1_1 > 0
    ·rw [if_pos c5] at H
     have c5b0 : decide (0 < x1_1) = true := decide_eq_true c5
     clear c5
     (first | rw [c5b0] | (simp only [zva]; rw [c5b0]) | skip)
     have H' := zb.mk H
     clear H
     go_wp2
     go_meet
     case rel => exact ⟨_, (decide ((x5_1.size : Int) ≤ 12)), (by first | rfl | (simp; done) | (simp [*]; done)), H', ⟨by have := HK1.out; first | omega | exact Nat.le_refl _⟩, ⟨by (with_reducible repeat (first | refine zk ?_ _ | refine zm ?_ | refine zi ?_ _)); exact BK251.out⟩, ⟨by repeat (first | (with_reducible first | exact HB.out | apply zg | apply ze | apply zf | refine zh ?_ GE251.out) | exact HB.out)⟩⟩
    ·rw [if_neg c5] at H
     have c5b0 : decide (0 < x1_1) = false := decide_eq_false c5
     clear c5
     (first | rw [c5b0] | (simp only [zva]; rw [c5b0]) | skip)
     have H' := zb.mk H
     clear H
     go_wp2
     go_meet
     case rel => exact ⟨_, (false), (by first | rfl | (simp; done) | (simp [*]; done)), H', ⟨by have := HK1.out; first | omega | exact Nat.le_refl _⟩, ⟨by (with_reducible repeat (first | refine zk ?_ _ | refine zm ?_ | refine zi ?_ _)); exact BK251.out⟩, ⟨by repeat (first | (with_reducible first | exact HB.out | apply zg | apply ze | apply zf | refine zh ?_ GE251.out) | exact HB.out)⟩⟩
   case rest =>
    clear HC4
    try clear c1
    try clear p2
    try clear c5
    try clear c5b0
    try clear p2
    obtain ⟨kq, x13_3, rfl, HA, HJ3, BK251, HB⟩ := hcut
    cases kq with
    | zero => exact absurd HA.out (by simp [zma.j1])
    | succ kj3 =>
     have H := HA.out
     clear HA
     simp only [zma.j1] at H
     by_cases c6 : x13_3 = true
     ·subst c6
      have H1 : (if 0 ≤ x1_1 then (if x1_1 < (l0_0.length : Int) then ((spec_l1In.f ((zl l0_0 x1_1).f0) 0 25).bind fun t254 => (if t254 = true then (if ((zl l0_0 x1_1).f1) ≥ x1_1 then (some (⟨#[63]⟩ : ByteArray)) else ((some (([(wrap64 (97 + ((zl l0_0 x1_1).f0))) % 256] : List Int) : List Int)).bind fun y255 => (if (strOfNums y255).size + x5_1.size ≤ 9223372036854775807 then (zma.l0 kj3 ((zl l0_0 x1_1).f1) ((strOfNums y255) ++ x5_1) l0_0) else (none)))) else (some (⟨#[63]⟩ : ByteArray)))) else (none)) else (none)) = some r := by rw [if_pos rfl] at H; exact H
      clear H
      have H := H1
      clear H1
      by_cases c7 : 0 ≤ x1_1
      ·rw [if_pos c7] at H
       have c7b0 : decide (0 ≤ x1_1) = true := decide_eq_true c7
       clear c7
       by_cases c8 : x1_1 < (l0_0.length : Int)
       ·rw [if_pos c8] at H
        have c8b0 : decide (x1_1 < (l0_0.length : Int)) = true := decide_eq_true c8
        clear c8
        replace H := Option.bind_eq_some_iff.mp H
        obtain ⟨t254, A90, H⟩ := H
        replace H : (if t254 = true then (if ((zl l0_0 x1_1).f1) ≥ x1_1 then (some (⟨#[63]⟩ : ByteArray)) else ((some (([(wrap64 (97 + ((zl l0_0 x1_1).f0))) % 256] : List Int) : List Int)).bind fun y255 => (if (strOfNums y255).size + x5_1.size ≤ 9223372036854775807 then (zma.l0 kj3 ((zl l0_0 x1_1).f1) ((strOfNums y255) ++ x5_1) l0_0) else (none)))) else (some (⟨#[63]⟩ : ByteArray))) = some r := H
        have A9 := zb.mk A90
        clear A90
        by_cases c10 : t254 = true
        ·subst c10
         have H1 : (if ((zl l0_0 x1_1).f1) ≥ x1_1 then (some (⟨#[63]⟩ : ByteArray)) else ((some (([(wrap64 (97 + ((zl l0_0 x1_1).f0))) % 256] : List Int) : List Int)).bind fun y255 => (if (strOfNums y255).size + x5_1.size ≤ 9223372036854775807 then (zma.l0 kj3 ((zl l0_0 x1_1).f1) ((strOfNums y255) ++ x5_1) l0_0) else (none)))) = some r := by rw [if_pos rfl] at H; exact H
         clear H
         have H := H1
         clear H1
         by_cases c11 : ((zl l0_0 x1_1).f1) ≥ x1_1
         ·rw [if_pos c11] at H
          have c11b0 : decide (x1_1 ≤ ((zl l0_0 x1_1).f1)) = true := decide_eq_true c11
          clear c11
          obtain rfl := Option.some.inj H
          have hcz12_0 : wc.cell? ⟨gb251, 0, none⟩ = some (.slice A0_0 l0_0.length c0_0) := (zD BK251.out 0).trans rfl
          have hfz12_0 := zz BK251.out 0
          have p252 : 0 ≤ (x1_1 : Int) := of_decide_eq_true (by first | (with_reducible assumption) | assumption)
          have q252 : x1_1 < (l0_0.length : Int) := of_decide_eq_true (by first | (with_reducible assumption) | assumption)
          obtain ⟨ad252, e252, hx252_0, hx252_1, hx252_2⟩ := at_T_Node HR0_0.out x1_1 p252 q252
          cases e252
          replace hx252_0 := (HB.out.cell (World.block_lt_of_cell? w _ hx252_0)).trans hx252_0
          replace hx252_1 := (HB.out.cell (World.block_lt_of_cell? w _ hx252_1)).trans hx252_1
          replace hx252_2 := (HB.out.cell (World.block_lt_of_cell? w _ hx252_2)).trans hx252_2
          replace p252 := eq_true p252
          replace q252 := eq_true q252
          go_wp2_with (first | ((with_reducible refine zoa (N := 6) rfl ?_); (try (refine zOa (by rfl) ?_; dsimp only)); refine zEa ?hg (N := 6) ?hd (cs := #[.int .i64 0, .int .i64 0, .bool false]) (t := 73) ?hr ?_; (case hd => rfl); (case hg => rfl); (case hr => first | (go_simp; done) | (go_simp; rfl)); intro gb253 hg w13 hbox hb; have n0_ := zb.mk (zG (g := gb251) (o := .cells #[.slice (some ad252) l0_0.length c0_0] 26 (0, 0)) (by (with_reducible repeat (first | refine zk ?_ _ | refine zm ?_ | refine zi ?_ _)); exact BK251.out) hb); have n1_ := zb.mk (zw (by repeat (first | (with_reducible first | exact HB.out | apply zg | apply ze | apply zf | refine zh ?_ GE251.out) | exact HB.out)) hb); have n2_ := zb.mk (hbox); have n3_ := zb.mk ((by rw [hg]; exact (zt (by repeat (first | (with_reducible first | exact HB.out | apply zg | apply ze | apply zf | refine zh ?_ GE251.out) | exact HB.out))) : w.heap.size ≤ gb253)); have n4_ := zb.mk ((by rw [hg]; exact (zt (by repeat (first | (with_reducible first | exact HB.out | apply zg | apply ze | apply zf | refine zh ?_ GE251.out) | exact HB.out))) : w.heap.size ≤ gb253)); have n5_ := zb.mk ((by rw [hg]; exact Nat.ne_of_lt (blk_lt (g := gb251) (o := .cells #[.slice (some ad252) l0_0.length c0_0] 26 (0, 0)) (by (with_reducible repeat (first | refine zk ?_ _ | refine zm ?_ | refine zi ?_ _)); exact BK251.out)) : gb251 ≠ gb253)); have n6_ := zb.mk ((by rw [hg]; exact Nat.ne_of_gt (blk_lt (g := gb251) (o := .cells #[.slice (some ad252) l0_0.length c0_0] 26 (0, 0)) (by (with_reducible repeat (first | refine zk ?_ _ | refine zm ?_ | refine zi ?_ _)); exact BK251.out)) : gb253 ≠ gb251)); clear BK251; clear HB; have BK251 := n0_; have HB := n1_; have BK253 := n2_; have GW253 := n3_; have GE253 := n4_; have NB251_253 := n5_; have NB253_251 := n6_; clear n0_ n1_ n2_ n3_ n4_ n5_ n6_; clear hb hbox hg; have hnb14 := NB253_251.out; have hnc14 := NB251_253.out; have hcz15_0 : w13.cell? ⟨gb253, 0, none⟩ = some (.int .i64 0) := (zD BK253.out 0).trans rfl; have hcz15_1 : w13.cell? ⟨gb253, 1, none⟩ = some (.int .i64 0) := (zD BK253.out 1).trans rfl; have hcz15_2 : w13.cell? ⟨gb253, 2, none⟩ = some (.bool false) := (zD BK253.out 2).trans rfl; have hfz15_0 := zz BK253.out 0; have hfz15_1 := zz BK253.out 1; have hfz15_2 := zz BK253.out 2) | ((with_reducible refine zH (f := 137) rfl ?_); refine zra (some 21) rfl rfl Tryz.func137 (by kernel_rfl) rfl #[.int .i64 ((zl l0_0 x1_1).f0), .int .i64 0, .int .i64 25] rfl (by (try simp only [List.map_toArray, List.map_cons, List.map_nil]); first | done | rfl | (simp only [List.length_drop, List.length_take]; rfl)) ?_; (with_reducible refine (spec_l1In.calls ((zl l0_0 x1_1).f0) 0 25 true _ A9.out).mono ?_); rintro e w' ⟨rfl, ⟨nd, rfl⟩⟩; refine ⟨_, rfl, ?_⟩))
          go_ret
          exact ⟨by first | rfl | (simp [zC, zB] <;> rfl) | (simp [*, zC, zB] <;> rfl), by repeat (first | (with_reducible first | exact HB.out | apply zg | apply ze | apply zf | refine zh ?_ GE251.out | refine zh ?_ GE253.out) | exact HB.out)⟩
         ·rw [if_neg c11] at H
          have c11b0 : decide (x1_1 ≤ ((zl l0_0 x1_1).f1)) = false := decide_eq_false c11
          clear c11
          obtain ⟨y255, hy255⟩ : ∃ y_ : List Int, y_ = (([(wrap64 (97 + ((zl l0_0 x1_1).f0))) % 256] : List Int)) := ⟨_, rfl⟩
          replace H : (if (strOfNums y255).size + x5_1.size ≤ 9223372036854775807 then (zma.l0 kj3 ((zl l0_0 x1_1).f1) ((strOfNums y255) ++ x5_1) l0_0) else (none)) = some r := by first | (rw [hy255]; with_reducible exact H) | (have H2_ := (Option.bind_some _ _).symm.trans H; rw [hy255]; with_reducible exact H2_) | (have H2_ := (Option.bind_some _ _).symm.trans H; with_reducible exact H2_) | with_reducible exact H | (rw [hy255]; exact H) | exact H
          have Ny255 := zb.mk hy255
          clear hy255
          by_cases c16 : (strOfNums y255).size + x5_1.size ≤ 9223372036854775807
          ·rw [if_pos c16] at H
           have c16b0 := eq_true c16
           have c16b1 : decide ((strOfNums y255).size + x5_1.size ≤ 9223372036854775807) = true := decide_eq_true c16
           try have c16b2 : (9223372036854775807 < (strOfNums y255).size + x5_1.size) = False := eq_false (Nat.not_lt.2 c16)
           have H' := zb.mk H
           clear H
           have hcz17_0 : wc.cell? ⟨gb251, 0, none⟩ = some (.slice A0_0 l0_0.length c0_0) := (zD BK251.out 0).trans rfl
           have hfz17_0 := zz BK251.out 0
           have p252 : 0 ≤ (x1_1 : Int) := of_decide_eq_true (by first | (with_reducible assumption) | assumption)
           have q252 : x1_1 < (l0_0.length : Int) := of_decide_eq_true (by first | (with_reducible assumption) | assumption)
           obtain ⟨ad252, e252, hx252_0, hx252_1, hx252_2⟩ := at_T_Node HR0_0.out x1_1 p252 q252
           cases e252
           replace hx252_0 := (HB.out.cell (World.block_lt_of_cell? w _ hx252_0)).trans hx252_0
           replace hx252_1 := (HB.out.cell (World.block_lt_of_cell? w _ hx252_1)).trans hx252_1
           replace hx252_2 := (HB.out.cell (World.block_lt_of_cell? w _ hx252_2)).trans hx252_2
           replace p252 := eq_true p252
           replace q252 := eq_true q252
           go_wp2_with (first | ((with_reducible refine zoa (N := 6) rfl ?_); (try (refine zOa (by rfl) ?_; dsimp only)); refine zEa ?hg (N := 6) ?hd (cs := #[.int .i64 0, .int .i64 0, .bool false]) (t := 73) ?hr ?_; (case hd => rfl); (case hg => rfl); (case hr => first | (go_simp; done) | (go_simp; rfl)); intro gb253 hg w18 hbox hb; have n0_ := zb.mk (zG (g := gb251) (o := .cells #[.slice (some ad252) l0_0.length c0_0] 26 (0, 0)) (by (with_reducible repeat (first | refine zk ?_ _ | refine zm ?_ | refine zi ?_ _)); exact BK251.out) hb); have n1_ := zb.mk (zw (by repeat (first | (with_reducible first | exact HB.out | apply zg | apply ze | apply zf | refine zh ?_ GE251.out) | exact HB.out)) hb); have n2_ := zb.mk (hbox); have n3_ := zb.mk ((by rw [hg]; exact (zt (by repeat (first | (with_reducible first | exact HB.out | apply zg | apply ze | apply zf | refine zh ?_ GE251.out) | exact HB.out))) : w.heap.size ≤ gb253)); have n4_ := zb.mk ((by rw [hg]; exact (zt (by repeat (first | (with_reducible first | exact HB.out | apply zg | apply ze | apply zf | refine zh ?_ GE251.out) | exact HB.out))) : w.heap.size ≤ gb253)); have n5_ := zb.mk ((by rw [hg]; exact Nat.ne_of_lt (blk_lt (g := gb251) (o := .cells #[.slice (some ad252) l0_0.length c0_0] 26 (0, 0)) (by (with_reducible repeat (first | refine zk ?_ _ | refine zm ?_ | refine zi ?_ _)); exact BK251.out)) : gb251 ≠ gb253)); have n6_ := zb.mk ((by rw [hg]; exact Nat.ne_of_gt (blk_lt (g := gb251) (o := .cells #[.slice (some ad252) l0_0.length c0_0] 26 (0, 0)) (by (with_reducible repeat (first | refine zk ?_ _ | refine zm ?_ | refine zi ?_ _)); exact BK251.out)) : gb253 ≠ gb251)); clear BK251; clear HB; have BK251 := n0_; have HB := n1_; have BK253 := n2_; have GW253 := n3_; have GE253 := n4_; have NB251_253 := n5_; have NB253_251 := n6_; clear n0_ n1_ n2_ n3_ n4_ n5_ n6_; clear hb hbox hg; have hnb19 := NB253_251.out; have hnc19 := NB251_253.out; have hcz20_0 : w18.cell? ⟨gb253, 0, none⟩ = some (.int .i64 0) := (zD BK253.out 0).trans rfl; have hcz20_1 : w18.cell? ⟨gb253, 1, none⟩ = some (.int .i64 0) := (zD BK253.out 1).trans rfl; have hcz20_2 : w18.cell? ⟨gb253, 2, none⟩ = some (.bool false) := (zD BK253.out 2).trans rfl; have hfz20_0 := zz BK253.out 0; have hfz20_1 := zz BK253.out 1; have hfz20_2 := zz BK253.out 2) | ((with_reducible refine zH (f := 137) rfl ?_); refine zra (some 21) rfl rfl Tryz.func137 (by kernel_rfl) rfl #[.int .i64 ((zl l0_0 x1_1).f0), .int .i64 0, .int .i64 25] rfl (by (try simp only [List.map_toArray, List.map_cons, List.map_nil]); first | done | rfl | (simp only [List.length_drop, List.length_take]; rfl)) ?_; (with_reducible refine (spec_l1In.calls ((zl l0_0 x1_1).f0) 0 25 true _ A9.out).mono ?_); rintro e w' ⟨rfl, ⟨nd, rfl⟩⟩; refine ⟨_, rfl, ?_⟩) | ((with_reducible refine zoa (N := 33) rfl ?_); (try (refine zOa (by rfl) ?_; dsimp only)); refine Kd.R_lit (Kd.int .u8) _ 5 ?hg (N := 33) ?hd (xs := ([(wrap64 (97 + ((zl l0_0 x1_1).f0))) % 256] : List Int)) (inner := [.int .u8 ((wrap64 (97 + ((zl l0_0 x1_1).f0))) % 256)]) (ok := fun _ => True) (okp := fun _ => True) ?hr ?hp (fun _ hk => hk) trivial (Below.refl _ _) (Nat.le_refl _) (by simp) ?_; (case hd => rfl); (case hg => rfl); (case hr => first | (go_simp; done) | (go_simp; rfl)); (case hp => exact (Reps.one (show Kd.M (Kd.int .u8) _ _ _ ((wrap64 (97 + ((zl l0_0 x1_1).f0))) % 256) [.int .u8 ((wrap64 (97 + ((zl l0_0 x1_1).f0))) % 256)] from rfl) (Reps.none _ _))); intro v256 w21 ho22 hb hg_ hnew_; clear hg_ hnew_; (first | rw [← Ny255.out] at ho22 | (simp only [Int.reduceToNat] at ho22; rw [← Ny255.out] at ho22)); have n0_ := zb.mk (Kd.zua ho22 (zt (by repeat (first | (with_reducible first | exact HB.out | apply zg | apply ze | apply zf | refine zh ?_ GE251.out | refine zh ?_ GE253.out) | exact HB.out)))); have n1_ := zb.mk (zG (g := gb251) (o := .cells #[.slice (some ad252) l0_0.length c0_0] 26 (0, 0)) (by (with_reducible repeat (first | refine zk ?_ _ | refine zm ?_ | refine zi ?_ _)); refine blk_far ?_ NB251_253.out _; (with_reducible repeat (first | refine zk ?_ _ | refine zm ?_ | refine zi ?_ _)); refine blk_far ?_ NB251_253.out _; (with_reducible repeat (first | refine zk ?_ _ | refine zm ?_ | refine zi ?_ _)); refine blk_far ?_ NB251_253.out _; (with_reducible repeat (first | refine zk ?_ _ | refine zm ?_ | refine zi ?_ _)); exact BK251.out) hb); have n2_ := zb.mk (zG (g := gb253) (o := .cells #[.int .i64 ((zl l0_0 x1_1).f0), .int .i64 ((zl l0_0 x1_1).f1), .bool ((zl l0_0 x1_1).f2)] 73 (0, 0)) (by (with_reducible repeat (first | refine zk ?_ _ | refine zm ?_ | refine zi ?_ _)); refine blk_put (cs := #[.int .i64 ((zl l0_0 x1_1).f0), .int .i64 ((zl l0_0 x1_1).f1), .bool false]) ?_ 2 _ rfl; (with_reducible repeat (first | refine zk ?_ _ | refine zm ?_ | refine zi ?_ _)); refine blk_put (cs := #[.int .i64 ((zl l0_0 x1_1).f0), .int .i64 0, .bool false]) ?_ 1 _ rfl; (with_reducible repeat (first | refine zk ?_ _ | refine zm ?_ | refine zi ?_ _)); refine blk_put (cs := #[.int .i64 0, .int .i64 0, .bool false]) ?_ 0 _ rfl; (with_reducible repeat (first | refine zk ?_ _ | refine zm ?_ | refine zi ?_ _)); exact BK253.out) hb); have n3_ := zb.mk (zw (by repeat (first | (with_reducible first | exact HB.out | apply zg | apply ze | apply zf | refine zh ?_ GE251.out | refine zh ?_ GE253.out) | exact HB.out)) hb); clear BK251; clear BK253; clear HB; have HO257 := n0_; have BK251 := n1_; have BK253 := n2_; have HB := n3_; clear n0_ n1_ n2_ n3_; clear hb ho22; have hcv23 := own_string (P := Tryz.prog) Tryz.underlying22 Tryz.underlying5 Tryz.underlying9 (Kd.own_of_R HO257.out); have hcz24_0 : w21.cell? ⟨gb253, 0, none⟩ = some (.int .i64 ((zl l0_0 x1_1).f0)) := (zD BK253.out 0).trans rfl; have hcz24_1 : w21.cell? ⟨gb253, 1, none⟩ = some (.int .i64 ((zl l0_0 x1_1).f1)) := (zD BK253.out 1).trans rfl; have hcz24_2 : w21.cell? ⟨gb253, 2, none⟩ = some (.bool ((zl l0_0 x1_1).f2)) := (zD BK253.out 2).trans rfl; have hfz24_0 := zz BK253.out 0; have hfz24_1 := zz BK253.out 1; have hfz24_2 := zz BK253.out 2))
           go_roundg kj3
           case measure => have := HK1.out; have := HJ3.out; omega
           case rel => exact ⟨((zl l0_0 x1_1).f1), ((strOfNums y255) ++ x5_1), (by first | rfl | (simp; done) | (simp [*]; done)), (by first | rfl | (simp; done) | (simp [*]; done)), H', ⟨by have := HK1.out; have := HJ3.out; omega⟩, ⟨by (with_reducible repeat (first | refine zk ?_ _ | refine zm ?_ | refine zi ?_ _)); exact BK251.out⟩, ⟨by repeat (first | (with_reducible first | exact HB.out | apply zg | apply ze | apply zf | refine zh ?_ GE251.out | refine zh ?_ GE253.out) | exact HB.out)⟩⟩
          ·rw [if_neg c16] at H
           exact absurd H (by simp)
        ·replace c10 := Bool.eq_false_iff.mpr c10
         subst c10
         have H1 : (some (⟨#[63]⟩ : ByteArray)) = some r := by rw [if_neg (show ¬ (false = true) by decide)] at H; exact H
         clear H
         have H := H1
         clear H1
         obtain rfl := Option.some.inj H
         have hcz25_0 : wc.cell? ⟨gb251, 0, none⟩ = some (.slice A0_0 l0_0.length c0_0) := (zD BK251.out 0).trans rfl
         have hfz25_0 := zz BK251.out 0
         have p252 : 0 ≤ (x1_1 : Int) := of_decide_eq_true (by first | (with_reducible assumption) | assumption)
         have q252 : x1_1 < (l0_0.length : Int) := of_decide_eq_true (by first | (with_reducible assumption) | assumption)
         obtain ⟨ad252, e252, hx252_0, hx252_1, hx252_2⟩ := at_T_Node HR0_0.out x1_1 p252 q252
         cases e252
         replace hx252_0 := (HB.out.cell (World.block_lt_of_cell? w _ hx252_0)).trans hx252_0
         replace hx252_1 := (HB.out.cell (World.block_lt_of_cell? w _ hx252_1)).trans hx252_1
         replace hx252_2 := (HB.out.cell (World.block_lt_of_cell? w _ hx252_2)).trans hx252_2
         replace p252 := eq_true p252
         replace q252 := eq_true q252
         go_wp2_with (first | ((with_reducible refine zoa (N := 6) rfl ?_); (try (refine zOa (by rfl) ?_; dsimp only)); refine zEa ?hg (N := 6) ?hd (cs := #[.int .i64 0, .int .i64 0, .bool false]) (t := 73) ?hr ?_; (case hd => rfl); (case hg => rfl); (case hr => first | (go_simp; done) | (go_simp; rfl)); intro gb253 hg w26 hbox hb; have n0_ := zb.mk (zG (g := gb251) (o := .cells #[.slice (some ad252) l0_0.length c0_0] 26 (0, 0)) (by (with_reducible repeat (first | refine zk ?_ _ | refine zm ?_ | refine zi ?_ _)); exact BK251.out) hb); have n1_ := zb.mk (zw (by repeat (first | (with_reducible first | exact HB.out | apply zg | apply ze | apply zf | refine zh ?_ GE251.out) | exact HB.out)) hb); have n2_ := zb.mk (hbox); have n3_ := zb.mk ((by rw [hg]; exact (zt (by repeat (first | (with_reducible first | exact HB.out | apply zg | apply ze | apply zf | refine zh ?_ GE251.out) | exact HB.out))) : w.heap.size ≤ gb253)); have n4_ := zb.mk ((by rw [hg]; exact (zt (by repeat (first | (with_reducible first | exact HB.out | apply zg | apply ze | apply zf | refine zh ?_ GE251.out) | exact HB.out))) : w.heap.size ≤ gb253)); have n5_ := zb.mk ((by rw [hg]; exact Nat.ne_of_lt (blk_lt (g := gb251) (o := .cells #[.slice (some ad252) l0_0.length c0_0] 26 (0, 0)) (by (with_reducible repeat (first | refine zk ?_ _ | refine zm ?_ | refine zi ?_ _)); exact BK251.out)) : gb251 ≠ gb253)); have n6_ := zb.mk ((by rw [hg]; exact Nat.ne_of_gt (blk_lt (g := gb251) (o := .cells #[.slice (some ad252) l0_0.length c0_0] 26 (0, 0)) (by (with_reducible repeat (first | refine zk ?_ _ | refine zm ?_ | refine zi ?_ _)); exact BK251.out)) : gb253 ≠ gb251)); clear BK251; clear HB; have BK251 := n0_; have HB := n1_; have BK253 := n2_; have GW253 := n3_; have GE253 := n4_; have NB251_253 := n5_; have NB253_251 := n6_; clear n0_ n1_ n2_ n3_ n4_ n5_ n6_; clear hb hbox hg; have hnb27 := NB253_251.out; have hnc27 := NB251_253.out; have hcz28_0 : w26.cell? ⟨gb253, 0, none⟩ = some (.int .i64 0) := (zD BK253.out 0).trans rfl; have hcz28_1 : w26.cell? ⟨gb253, 1, none⟩ = some (.int .i64 0) := (zD BK253.out 1).trans rfl; have hcz28_2 : w26.cell? ⟨gb253, 2, none⟩ = some (.bool false) := (zD BK253.out 2).trans rfl; have hfz28_0 := zz BK253.out 0; have hfz28_1 := zz BK253.out 1; have hfz28_2 := zz BK253.out 2) | ((with_reducible refine zH (f := 137) rfl ?_); refine zra (some 21) rfl rfl Tryz.func137 (by kernel_rfl) rfl #[.int .i64 ((zl l0_0 x1_1).f0), .int .i64 0, .int .i64 25] rfl (by (try simp only [List.map_toArray, List.map_cons, List.map_nil]); first | done | rfl | (simp only [List.length_drop, List.length_take]; rfl)) ?_; (with_reducible refine (spec_l1In.calls ((zl l0_0 x1_1).f0) 0 25 false _ A9.out).mono ?_); rintro e w' ⟨rfl, ⟨nd, rfl⟩⟩; refine ⟨_, rfl, ?_⟩))
         go_ret
         exact ⟨by first | rfl | (simp [zC, zB] <;> rfl) | (simp [*, zC, zB] <;> rfl), by repeat (first | (with_reducible first | exact HB.out | apply zg | apply ze | apply zf | refine zh ?_ GE251.out | refine zh ?_ GE253.out) | exact HB.out)⟩
       ·rw [if_neg c8] at H
        exact absurd H (by simp)
      ·rw [if_neg c7] at H
       exact absurd H (by simp)
     ·replace c6 := Bool.eq_false_iff.mpr c6
      subst c6
      have H1 : (if x1_1 = 0 then (some x5_1) else (some (⟨#[63]⟩ : ByteArray))) = some r := by rw [if_neg (show ¬ (false = true) by decide)] at H; exact H
      clear H
      have H := H1
      clear H1
      by_cases c29 : x1_1 = 0
      ·rw [if_pos c29] at H
       have c29b0 : (x1_1 == 0) = true := beq_iff_eq.mpr c29
       have c29b1 : (x1_1 != 0) = false := bne_eq_false_iff_eq.mpr c29
       clear c29
       obtain rfl := Option.some.inj H
       go_wp2
       go_ret
       exact ⟨by first | rfl | (simp [zC, zB] <;> rfl) | (simp [*, zC, zB] <;> rfl), by repeat (first | (with_reducible first | exact HB.out | apply zg | apply ze | apply zf | refine zh ?_ GE251.out) | exact HB.out)⟩
      ·rw [if_neg c29] at H
       have c29b0 : (x1_1 == 0) = false := beq_eq_false_iff_ne.mpr c29
       have c29b1 : (x1_1 != 0) = true := bne_iff_ne.mpr c29
       obtain rfl := Option.some.inj H
       go_wp2
       go_ret
       exact ⟨by first | rfl | (simp [zC, zB] <;> rfl) | (simp [*, zC, zB] <;> rfl), by repeat (first | (with_reducible first | exact HB.out | apply zg | apply ze | apply zf | refine zh ?_ GE251.out) | exact HB.out)⟩
end Go.Proofs.YtfabennfhmlihaaGreatDoor.P
end
section
namespace Go.Proofs.YtfabennfhmlihaaGreatDoor.P
open Go.RowKit Go.Proofs.YtfabennfhmlihaaGreatDoorW.zJ Go.Proofs.YtfabennfhmlihaaGreatDoorW.zU Go.Proofs.YtfabennfhmlihaaGreatDoorW.PrintMore
set_option linter.unusedVariables false
set_option linter.unusedSimpArgs false
def zW.l0 : Nat → List ByteArray → Int → List (zL) → Option (List ByteArray)
 | 0, _, _, _ => none
 | k + 1, x3, x4, x259000 => if x4 < (x259000.length : Int) then (if 0 ≤ x4 then (if (zl x259000 x4).f2 = true then ((zma.f k x259000 x4).bind fun t263 => (if x3.length < 8796093022208 then (zW.l0 k (x3 ++ [t263]) (wrap64 (x4 + 1)) x259000) else (none))) else (zW.l0 k x3 (wrap64 (x4 + 1)) x259000)) else (none)) else (some x3)
def zW.f (k : Nat) (l0_0 : List (zL)) : Option (List ByteArray) := zW.l0 k (([] : List ByteArray)) 0 l0_0
set_option maxHeartbeats 8000000 in
set_option maxRecDepth 100000 in
theorem zW.calls (k : Nat) (A0_0 : Option Addr) (c0_0 : Nat) (l0_0 : List (zL)) (r : List ByteArray) (w : World) (hr0_0 : Kd.C zXa w A0_0 l0_0.length l0_0) (hc0_0 : l0_0.length ≤ c0_0) (h : zW.f k l0_0 = some r) :
  Calls Tryz.prog 120 #[.agg #[.slice A0_0 l0_0.length c0_0]] w fun e w' => ∃ v0_ : Value, e = .returned (v0_) ∧ Kd.R Kd.string 9 w' w.heap.size (fun _ => True) v0_ r ∧ Below w.heap.size w w' := by
 have hu26 := Tryz.underlying26
 have HR0_0 := zb.mk hr0_0
 have HC0_0 := zb.mk hc0_0
 clear hr0_0 hc0_0
 have HB := zb.mk (Below.refl w.heap.size w)
 have H : (zW.l0 k (([] : List ByteArray)) 0 l0_0) = some r := h
 clear h
 obtain ⟨y259, hy259⟩ : ∃ y_ : List ByteArray, y_ = (([] : List ByteArray)) := ⟨_, rfl⟩
 replace H : (zW.l0 k y259 0 l0_0) = some r := by first | (rw [hy259]; with_reducible exact H) | (have H2_ := (Option.bind_some _ _).symm.trans H; rw [hy259]; with_reducible exact H2_) | (have H2_ := (Option.bind_some _ _).symm.trans H; with_reducible exact H2_) | with_reducible exact H | (rw [hy259]; exact H) | exact H
 have Ny259 := zb.mk hy259
 clear hy259
 have H' := zb.mk H
 clear H
 go_enter Tryz.func120, Tryz.ntmps120
 go_wp2_with (first | ((with_reducible refine zoa (N := 1) rfl ?_); refine zEa ?hg (N := 1) ?hd (cs := #[.slice A0_0 l0_0.length c0_0]) (t := 26) ?hr ?_; (case hd => rfl); (case hg => rfl); (case hr => first | (go_simp; done) | (go_simp; rfl)); intro gb258 hg w2 hbox hb; have n0_ := zb.mk (zw (by repeat (first | (with_reducible first | exact HB.out | apply zg | apply ze | apply zf) | exact HB.out)) hb); have n1_ := zb.mk (hbox); have n2_ := zb.mk ((by rw [hg]; exact (zt (by repeat (first | (with_reducible first | exact HB.out | apply zg | apply ze | apply zf) | exact HB.out))) : w.heap.size ≤ gb258)); have n3_ := zb.mk ((by rw [hg]; exact (zt (by repeat (first | (with_reducible first | exact HB.out | apply zg | apply ze | apply zf) | exact HB.out))) : w.heap.size ≤ gb258)); clear HB; have HB := n0_; have BK258 := n1_; have GW258 := n2_; have GE258 := n3_; clear n0_ n1_ n2_ n3_; clear hb hbox hg) | ((with_reducible refine zoa (N := 5) rfl ?_); refine Kd.R_lit Kd.string _ 9 ?hg (N := 5) ?hd (xs := ([] : List ByteArray)) (inner := []) (ok := fun _ => True) (okp := fun _ => True) ?hr ?hp (fun _ hk => hk) trivial (Below.refl _ _) (Nat.le_refl _) (by simp) ?_; (case hd => rfl); (case hg => rfl); (case hr => first | (go_simp; done) | (go_simp; rfl)); (case hp => exact (Reps.none _ _)); intro v260 w3 ho4 hb hg_ hnew_; clear hg_ hnew_; (first | rw [← Ny259.out] at ho4 | (simp only [Int.reduceToNat] at ho4; rw [← Ny259.out] at ho4)); have n0_ := zb.mk (Kd.zua ho4 (zt (by repeat (first | (with_reducible first | exact HB.out | apply zg | apply ze | apply zf | refine zh ?_ GE258.out) | exact HB.out)))); have n1_ := zb.mk (zG (g := gb258) (o := .cells #[.slice A0_0 l0_0.length c0_0] 26 (0, 0)) (by (with_reducible repeat (first | refine zk ?_ _ | refine zm ?_ | refine zi ?_ _)); exact BK258.out) hb); have n2_ := zb.mk (zw (by repeat (first | (with_reducible first | exact HB.out | apply zg | apply ze | apply zf | refine zh ?_ GE258.out) | exact HB.out)) hb); clear BK258; clear HB; have HO261 := n0_; have BK258 := n1_; have HB := n2_; clear n0_ n1_ n2_; clear hb ho4))
 go_loopg [3, 4] k (fun kq v3 v4 w' => ∃ (x3_1 : List ByteArray) (x4_1 : Int), v4 = .int .i64 x4_1 ∧ zb (zW.l0 kq x3_1 x4_1 l0_0 = some r) ∧ zb (kq ≤ k) ∧ zb (Kd.R Kd.string 9 w' w.heap.size (fun _ => True) v3 x3_1) ∧ zb (w'.heap[gb258]? = some (.cells #[(.slice A0_0 l0_0.length c0_0)] 26 (0, 0))) ∧ zb (Below w.heap.size w w'))
 case atStart => exact ⟨(y259), (0), (by first | rfl | (simp; done) | (simp [*]; done)), H', ⟨Nat.le_refl _⟩, ⟨by (with_reducible repeat (first | apply Kd.zo | apply Kd.zq | apply Kd.zA)); exact HO261.out⟩, ⟨by (with_reducible repeat (first | refine zk ?_ _ | refine zm ?_ | refine zi ?_ _)); exact BK258.out⟩, ⟨by repeat (first | (with_reducible first | exact HB.out | apply zg | apply ze | apply zf | refine zh ?_ GE258.out) | exact HB.out)⟩⟩
 case round =>
  clear H'
  try clear c1
  try clear p2
  obtain ⟨x3_1, x4_1, rfl, HA, HK1, HO_3, BK258, HB⟩ := hrel
  cases gk with
  | zero => exact absurd HA.out (by simp [zW.l0])
  | succ k1 =>
   have H := HA.out
   clear HA
   simp only [zW.l0] at H
   by_cases c5 : x4_1 < (l0_0.length : Int)
   ·rw [if_pos c5] at H
    have c5b0 : decide (x4_1 < (l0_0.length : Int)) = true := decide_eq_true c5
    clear c5
    by_cases c6 : 0 ≤ x4_1
    ·rw [if_pos c6] at H
     have c6b0 : decide (0 ≤ x4_1) = true := decide_eq_true c6
     clear c6
     obtain ⟨bq7, hbq7⟩ : ∃ b_ : Bool, b_ = ((zl l0_0 x4_1).f2) := ⟨_, rfl⟩
     replace H : (if bq7 = true then ((zma.f k1 l0_0 x4_1).bind fun t263 => (if x3_1.length < 8796093022208 then (zW.l0 k1 (x3_1 ++ [t263]) (wrap64 (x4_1 + 1)) l0_0) else (none))) else (zW.l0 k1 x3_1 (wrap64 (x4_1 + 1)) l0_0)) = some r := by rw [← hbq7] at H; exact H
     have Nbq7 := zb.mk hbq7
     clear hbq7
     by_cases c8 : bq7 = true
     ·subst c8
      have H1 : ((zma.f k1 l0_0 x4_1).bind fun t263 => (if x3_1.length < 8796093022208 then (zW.l0 k1 (x3_1 ++ [t263]) (wrap64 (x4_1 + 1)) l0_0) else (none))) = some r := by rw [if_pos rfl] at H; exact H
      clear H
      have H := H1
      clear H1
      replace H := Option.bind_eq_some_iff.mp H
      obtain ⟨t263, A90, H⟩ := H
      replace H : (if x3_1.length < 8796093022208 then (zW.l0 k1 (x3_1 ++ [t263]) (wrap64 (x4_1 + 1)) l0_0) else (none)) = some r := H
      have A9 := zb.mk A90
      clear A90
      by_cases c10 : x3_1.length < 8796093022208
      ·rw [if_pos c10] at H
       have LMc10 := zb.mk c10
       clear c10
       obtain ⟨y264, hy264⟩ : ∃ y_ : List ByteArray, y_ = (x3_1 ++ [t263]) := ⟨_, rfl⟩
       replace H : (zW.l0 k1 y264 (wrap64 (x4_1 + 1)) l0_0) = some r := by first | (rw [hy264]; with_reducible exact H) | (have H2_ := (Option.bind_some _ _).symm.trans H; rw [hy264]; with_reducible exact H2_) | (have H2_ := (Option.bind_some _ _).symm.trans H; with_reducible exact H2_) | with_reducible exact H | (rw [hy264]; exact H) | exact H
       have Ny264 := zb.mk hy264
       clear hy264
       have H' := zb.mk H
       clear H
       have hcz11_0 : wr.cell? ⟨gb258, 0, none⟩ = some (.slice A0_0 l0_0.length c0_0) := (zD BK258.out 0).trans rfl
       have hfz11_0 := zz BK258.out 0
       have p262 : 0 ≤ (x4_1 : Int) := of_decide_eq_true (by first | (with_reducible assumption) | assumption)
       have q262 : x4_1 < (l0_0.length : Int) := of_decide_eq_true (by first | (with_reducible assumption) | assumption)
       obtain ⟨ad262, e262, hx262_0, hx262_1, hx262_2⟩ := at_T_Node HR0_0.out x4_1 p262 q262
       (try rw [← Nbq7.out] at hx262_2)
       cases e262
       replace hx262_0 := (HB.out.cell (World.block_lt_of_cell? w _ hx262_0)).trans hx262_0
       replace hx262_1 := (HB.out.cell (World.block_lt_of_cell? w _ hx262_1)).trans hx262_1
       replace hx262_2 := (HB.out.cell (World.block_lt_of_cell? w _ hx262_2)).trans hx262_2
       replace p262 := eq_true p262
       replace q262 := eq_true q262
       go_wp2_with (first | ((with_reducible refine zH (f := 170) rfl ?_); refine zra (some 22) rfl rfl Tryz.func170 (by kernel_rfl) rfl #[.agg #[.slice (some ad262) l0_0.length c0_0], .int .i64 x4_1] rfl (by (try simp only [List.map_toArray, List.map_cons, List.map_nil]); first | done | rfl | (simp only [List.length_drop, List.length_take]; rfl)) ?_; (with_reducible refine (zma.calls k1 _ _ l0_0 x4_1 t263 _ ?side1 ?side2 A9.out).mono ?_); (case side1 => repeat (first | exact (Kd.zV HR0_0.out HB.out) | (with_reducible refine Kd.zga ?_ _) | (with_reducible refine Kd.zia ?_ _) | (with_reducible refine Kd.zAa ?_))); (case side2 => exact HC0_0.out); rintro e w12 ⟨rfl, hb⟩; refine ⟨_, rfl, ?_⟩; have n0_ := zb.mk (Kd.zta (by (with_reducible repeat (first | apply Kd.zo | apply Kd.zq | apply Kd.zA)); exact HO_3.out) hb); have n1_ := zb.mk (zG (g := gb258) (o := .cells #[.slice (some ad262) l0_0.length c0_0] 26 (0, 0)) (by (with_reducible repeat (first | refine zk ?_ _ | refine zm ?_ | refine zi ?_ _)); exact BK258.out) hb); have n2_ := zb.mk (zw (by repeat (first | (with_reducible first | exact HB.out | apply zg | apply ze | apply zf | refine zh ?_ GE258.out) | exact HB.out)) hb); clear HO_3; clear BK258; clear HB; have HO_3 := n0_; have BK258 := n1_; have HB := n2_; clear n0_ n1_ n2_; (try clear hb); (try clear hb2); (try clear hk); (try clear hi)) | ((with_reducible refine zZa (b := .append) (xs := #[.tmp 19, .tmp 23]) rfl ?_); at_builtin; refine Kd.R_append Kd.string (w0 := w) w.heap.size rfl (.tmp 19) (.tmp 23) 31 9 (.string ⟨#[]⟩) 16 rfl Tryz.underlying31 info9 rfl (by decide) (by omega) u3 x3_1 t263 [.string t263] (fun _ => True) (fun _ => False) rfl rfl ?aP (fun _ hk => hk.elim) ?aF ?aO ?aB ?aS ?aL ?_; (case aP => exact rfl); (case aB => exact (by repeat (first | (with_reducible first | exact HB.out | apply zg | apply ze | apply zf | refine zh ?_ GE258.out) | exact HB.out))); (case aF => exact (fun _ _ => trivial)); (case aO => exact (by (with_reducible repeat (first | apply Kd.zo | apply Kd.zq | apply Kd.zA)); exact HO_3.out)); (case aS => exact (zt (by repeat (first | (with_reducible first | exact HB.out | apply zg | apply ze | apply zf | refine zh ?_ GE258.out) | exact HB.out)))); (case aL => have := LMc10.out; omega); intro v265 w13 ho hb hg hat; rw [← Ny264.out] at ho; have n0_ := zb.mk (blk_grown (g := gb258) (o := .cells #[.slice (some ad262) l0_0.length c0_0] 26 (0, 0)) (by (with_reducible repeat (first | refine zk ?_ _ | refine zm ?_ | refine zi ?_ _)); exact BK258.out) hg (Kd.R_ne HO_3.out BK258.out (by decide))); have n1_ := zb.mk (hb); have n2_ := zb.mk (ho); clear BK258; clear HB; clear HO_3; have BK258 := n0_; have HB := n1_; have HO266 := n2_; clear n0_ n1_ n2_; clear ho hb hg hat))
       go_roundg k1
       case measure => have := HK1.out; omega
       case rel => exact ⟨(y264), (wrap64 (x4_1 + 1)), (by first | rfl | (simp; done) | (simp [*]; done)), H', ⟨by have := HK1.out; omega⟩, ⟨by (with_reducible repeat (first | apply Kd.zo | apply Kd.zq | apply Kd.zA)); exact HO266.out⟩, ⟨by (with_reducible repeat (first | refine zk ?_ _ | refine zm ?_ | refine zi ?_ _)); exact BK258.out⟩, ⟨by repeat (first | (with_reducible first | exact HB.out | apply zg | apply ze | apply zf | refine zh ?_ GE258.out) | exact HB.out)⟩⟩
      ·rw [if_neg c10] at H
       exact absurd H (by simp)
     ·replace c8 := Bool.eq_false_iff.mpr c8
      subst c8
      have H1 : (zW.l0 k1 x3_1 (wrap64 (x4_1 + 1)) l0_0) = some r := by rw [if_neg (show ¬ (false = true) by decide)] at H; exact H
      clear H
      have H := H1
      clear H1
      have H' := zb.mk H
      clear H
      have hcz14_0 : wr.cell? ⟨gb258, 0, none⟩ = some (.slice A0_0 l0_0.length c0_0) := (zD BK258.out 0).trans rfl
      have hfz14_0 := zz BK258.out 0
      have p262 : 0 ≤ (x4_1 : Int) := of_decide_eq_true (by first | (with_reducible assumption) | assumption)
      have q262 : x4_1 < (l0_0.length : Int) := of_decide_eq_true (by first | (with_reducible assumption) | assumption)
      obtain ⟨ad262, e262, hx262_0, hx262_1, hx262_2⟩ := at_T_Node HR0_0.out x4_1 p262 q262
      (try rw [← Nbq7.out] at hx262_2)
      cases e262
      replace hx262_0 := (HB.out.cell (World.block_lt_of_cell? w _ hx262_0)).trans hx262_0
      replace hx262_1 := (HB.out.cell (World.block_lt_of_cell? w _ hx262_1)).trans hx262_1
      replace hx262_2 := (HB.out.cell (World.block_lt_of_cell? w _ hx262_2)).trans hx262_2
      replace p262 := eq_true p262
      replace q262 := eq_true q262
      go_wp2
      go_roundg k1
      case measure => have := HK1.out; omega
      case rel => exact ⟨(x3_1), (wrap64 (x4_1 + 1)), (by first | rfl | (simp; done) | (simp [*]; done)), H', ⟨by have := HK1.out; omega⟩, ⟨by (with_reducible repeat (first | apply Kd.zo | apply Kd.zq | apply Kd.zA)); exact HO_3.out⟩, ⟨by (with_reducible repeat (first | refine zk ?_ _ | refine zm ?_ | refine zi ?_ _)); exact BK258.out⟩, ⟨by repeat (first | (with_reducible first | exact HB.out | apply zg | apply ze | apply zf | refine zh ?_ GE258.out) | exact HB.out)⟩⟩
    ·rw [if_neg c6] at H
     exact absurd H (by simp)
   ·rw [if_neg c5] at H
    have c5b0 : decide (x4_1 < (l0_0.length : Int)) = false := decide_eq_false c5
    clear c5
    obtain rfl := Option.some.inj H
    have hcz15_0 : wr.cell? ⟨gb258, 0, none⟩ = some (.slice A0_0 l0_0.length c0_0) := (zD BK258.out 0).trans rfl
    have hfz15_0 := zz BK258.out 0
    go_wp2
    go_ret
    exact ⟨_, by first | rfl | (simp [zC, zB] <;> rfl) | (simp [*, zC, zB] <;> rfl), by (with_reducible repeat (first | apply Kd.zo | apply Kd.zq | apply Kd.zA)); exact HO_3.out, by repeat (first | (with_reducible first | exact HB.out | apply zg | apply ze | apply zf | refine zh ?_ GE258.out) | exact HB.out)⟩
end Go.Proofs.YtfabennfhmlihaaGreatDoor.P
end
section
namespace Go.Proofs.YtfabennfhmlihaaGreatDoor.P
open Go.RowKit Go.Proofs.YtfabennfhmlihaaGreatDoorW.zJ Go.Proofs.YtfabennfhmlihaaGreatDoorW.zU Go.Proofs.YtfabennfhmlihaaGreatDoorW.PrintMore
set_option linter.unusedVariables false
set_option linter.unusedSimpArgs false
mutual
def zqa.l0 : Nat → ByteArray → Int → Option (Bool)
 | 0, _, _ => none
 | k + 1, x0, x3 => if x3 < (x0.size : Int) then (zqa.j1 k x0 x3 (decide (x3 ≤ 12))) else (zqa.j1 k x0 x3 false)
def zqa.j1 : Nat → ByteArray → Int → Bool → Option (Bool)
 | 0, _, _, _ => none
 | k + 1, x0, x3, x11 => if x11 = true then (if 0 ≤ x3 then (if x3 < (x0.size : Int) then (if (bt x0 x3) < 97 then (some false) else (if (bt x0 x3) > 122 then (some false) else (zqa.l0 k x0 (wrap64 (x3 + 1))))) else (none)) else (none)) else (some (decide ((x0.size : Int) ≤ 12)))
end
def zqa.f (k : Nat) (a0 : ByteArray) : Option (Bool) := zqa.l0 k a0 0
set_option maxHeartbeats 8000000 in
set_option maxRecDepth 100000 in
theorem zqa.calls (k : Nat) (a0 : ByteArray) (r : Bool) (w : World) (h : zqa.f k a0 = some r) :
  Calls Tryz.prog 122 #[.string a0] w fun e w' => e = .returned (.bool r) ∧ zX w w' := by
 have H : (zqa.l0 k a0 0) = some r := h
 clear h
 have H' := zb.mk H
 clear H
 go_enter Tryz.func122, Tryz.ntmps122
 go_wp2
 go_loopg [3] k (fun kq v3 w' => ∃ (x3_1 : Int), v3 = .int .i64 x3_1 ∧ zb (zqa.l0 kq a0 x3_1 = some r) ∧ zb (kq ≤ k) ∧ zX w w')
 case atStart => exact ⟨(0), (by first | rfl | (simp; done) | (simp [*]; done)), H', ⟨Nat.le_refl _⟩, by repeat (first | exact zX.refl _ | apply zX.step)⟩
 case round =>
  clear H'
  try clear c1
  obtain ⟨x3_1, rfl, HA, HK1, ⟨m1, rfl⟩⟩ := hrel
  cases gk with
  | zero => exact absurd HA.out (by simp [zqa.l0])
  | succ k1 =>
   have H := HA.out
   clear HA
   simp only [zqa.l0] at H
   have HC2 := zb.mk H
   clear H
   go_upto_region 2 with (fail)
   go_cut [11] (fun v11 wc => ∃ (kq : Nat) (x11_1 : Bool), v11 = .bool x11_1 ∧ zb (zqa.j1 kq a0 x3_1 x11_1 = some r) ∧ zb (kq ≤ k1) ∧ zX w wc)
   case first =>
    have H := HC2.out
    clear HC2
    by_cases c3 : x3_1 < (a0.size : Int)
    ·rw [if_pos c3] at H
     have c3b0 : decide (x3_1 < (a0.size : Int)) = true := decide_eq_true c3
     clear c3
     (first | rw [c3b0] | (simp only [zva]; rw [c3b0]) | skip)
     have H' := zb.mk H
     clear H
     go_wp2
     go_meet
     case rel => exact ⟨_, (decide (x3_1 ≤ 12)), (by first | rfl | (simp; done) | (simp [*]; done)), H', ⟨by have := HK1.out; first | omega | exact Nat.le_refl _⟩, by repeat (first | exact zX.refl _ | apply zX.step)⟩
    ·rw [if_neg c3] at H
     have c3b0 : decide (x3_1 < (a0.size : Int)) = false := decide_eq_false c3
     clear c3
     (first | rw [c3b0] | (simp only [zva]; rw [c3b0]) | skip)
     have H' := zb.mk H
     clear H
     go_wp2
     go_meet
     case rel => exact ⟨_, (false), (by first | rfl | (simp; done) | (simp [*]; done)), H', ⟨by have := HK1.out; first | omega | exact Nat.le_refl _⟩, by repeat (first | exact zX.refl _ | apply zX.step)⟩
   case rest =>
    clear HC2
    try clear c1
    try clear p2
    try clear c3
    try clear c3b0
    obtain ⟨kq, x11_1, rfl, HA, HJ1, ⟨mc1, rfl⟩⟩ := hcut
    cases kq with
    | zero => exact absurd HA.out (by simp [zqa.j1])
    | succ kj1 =>
     have H := HA.out
     clear HA
     simp only [zqa.j1] at H
     by_cases c4 : x11_1 = true
     ·subst c4
      have H1 : (if 0 ≤ x3_1 then (if x3_1 < (a0.size : Int) then (if (bt a0 x3_1) < 97 then (some false) else (if (bt a0 x3_1) > 122 then (some false) else (zqa.l0 kj1 a0 (wrap64 (x3_1 + 1))))) else (none)) else (none)) = some r := by rw [if_pos rfl] at H; exact H
      clear H
      have H := H1
      clear H1
      by_cases c5 : 0 ≤ x3_1
      ·rw [if_pos c5] at H
       have c5b0 : decide (0 ≤ x3_1) = true := decide_eq_true c5
       clear c5
       by_cases c6 : x3_1 < (a0.size : Int)
       ·rw [if_pos c6] at H
        have c6b0 : decide (x3_1 < (a0.size : Int)) = true := decide_eq_true c6
        clear c6
        by_cases c8 : (bt a0 x3_1) < 97
        ·rw [if_pos c8] at H
         have c8b0 : decide ((bt a0 x3_1) < 97) = true := decide_eq_true c8
         clear c8
         obtain rfl := Option.some.inj H
         have p7 : 0 ≤ (x3_1 : Int) := of_decide_eq_true (by first | (with_reducible assumption) | assumption)
         have q7 : x3_1 < (a0.size : Int) := of_decide_eq_true (by first | (with_reducible assumption) | assumption)
         have hx7 := bt_at a0 x3_1
         replace p7 := eq_true p7
         replace q7 := eq_true q7
         go_wp2
         go_ret
         exact ⟨by first | rfl | (simp; done) | (simp [*]; done), by repeat (first | exact zX.refl _ | apply zX.step)⟩
        ·rw [if_neg c8] at H
         have c8b0 : decide ((bt a0 x3_1) < 97) = false := decide_eq_false c8
         clear c8
         by_cases c10 : (bt a0 x3_1) > 122
         ·rw [if_pos c10] at H
          have c10b0 : decide (122 < (bt a0 x3_1)) = true := decide_eq_true c10
          clear c10
          obtain rfl := Option.some.inj H
          have p7 : 0 ≤ (x3_1 : Int) := of_decide_eq_true (by first | (with_reducible assumption) | assumption)
          have q7 : x3_1 < (a0.size : Int) := of_decide_eq_true (by first | (with_reducible assumption) | assumption)
          have hx7 := bt_at a0 x3_1
          replace p7 := eq_true p7
          replace q7 := eq_true q7
          have p9 : 0 ≤ (x3_1 : Int) := of_decide_eq_true (by first | (with_reducible assumption) | assumption)
          have q9 : x3_1 < (a0.size : Int) := of_decide_eq_true (by first | (with_reducible assumption) | assumption)
          have hx9 := bt_at a0 x3_1
          replace p9 := eq_true p9
          replace q9 := eq_true q9
          go_wp2
          go_ret
          exact ⟨by first | rfl | (simp; done) | (simp [*]; done), by repeat (first | exact zX.refl _ | apply zX.step)⟩
         ·rw [if_neg c10] at H
          have c10b0 : decide (122 < (bt a0 x3_1)) = false := decide_eq_false c10
          clear c10
          have H' := zb.mk H
          clear H
          have p7 : 0 ≤ (x3_1 : Int) := of_decide_eq_true (by first | (with_reducible assumption) | assumption)
          have q7 : x3_1 < (a0.size : Int) := of_decide_eq_true (by first | (with_reducible assumption) | assumption)
          have hx7 := bt_at a0 x3_1
          replace p7 := eq_true p7
          replace q7 := eq_true q7
          have p9 : 0 ≤ (x3_1 : Int) := of_decide_eq_true (by first | (with_reducible assumption) | assumption)
          have q9 : x3_1 < (a0.size : Int) := of_decide_eq_true (by first | (with_reducible assumption) | assumption)
          have hx9 := bt_at a0 x3_1
          replace p9 := eq_true p9
          replace q9 := eq_true q9
          go_wp2
          go_roundg kj1
          case measure => have := HK1.out; have := HJ1.out; omega
          case rel => exact ⟨(wrap64 (x3_1 + 1)), (by first | rfl | (simp; done) | (simp [*]; done)), H', ⟨by have := HK1.out; have := HJ1.out; omega⟩, by repeat (first | exact zX.refl _ | apply zX.step)⟩
       ·rw [if_neg c6] at H
        exact absurd H (by simp)
      ·rw [if_neg c5] at H
       exact absurd H (by simp)
     ·replace c4 := Bool.eq_false_iff.mpr c4
      subst c4
      have H1 : (some (decide ((a0.size : Int) ≤ 12))) = some r := by rw [if_neg (show ¬ (false = true) by decide)] at H; exact H
      clear H
      have H := H1
      clear H1
      obtain rfl := Option.some.inj H
      go_wp2
      go_ret
      exact ⟨by first | rfl | (simp; done) | (simp [*]; done), by repeat (first | exact zX.refl _ | apply zX.step)⟩
end Go.Proofs.YtfabennfhmlihaaGreatDoor.P
end
section
namespace Go.Proofs.YtfabennfhmlihaaGreatDoor.P
open Go.RowKit Go.Proofs.YtfabennfhmlihaaGreatDoorW.zJ Go.Proofs.YtfabennfhmlihaaGreatDoorW.zU Go.Proofs.YtfabennfhmlihaaGreatDoorW.PrintMore
set_option linter.unusedVariables false
set_option linter.unusedSimpArgs false
def zNa.l0 : Nat → List ByteArray → List ByteArray → Int → Option (List ByteArray × Bool)
 | 0, _, _, _ => none
 | k + 1, x0, x4, x5 => if x5 < (x0.length : Int) then (if 0 ≤ x5 then ((zqa.f k (rdOf ByteArray.empty x0 x5)).bind fun t193 => (if t193 = true then ((l2put.f x4 (rdOf ByteArray.empty x0 x5)).bind fun t195 => (zNa.l0 k x0 t195 (wrap64 (x5 + 1)))) else (some ((([] : List ByteArray)), false)))) else (none)) else (some (x4, decide ((x4.length : Int) ≤ 40)))
def zNa.f (k : Nat) (l0 : List ByteArray) : Option (List ByteArray × Bool) := zNa.l0 k l0 (([] : List ByteArray)) 0
set_option maxHeartbeats 8000000 in
set_option maxRecDepth 100000 in
theorem zNa.calls (k : Nat) (A0 : Option Addr) (c0 : Nat) (l0 : List ByteArray) (r1 : List ByteArray) (r2 : Bool) (w : World) (hr0 : Kd.C Kd.string w A0 l0.length l0) (hc0 : l0.length ≤ c0) (h : zNa.f k l0 = some (r1, r2)) :
  Calls Tryz.prog 182 #[.slice A0 l0.length c0] w fun e w' => ∃ v0_ : Value, e = .returned (.tuple #[v0_, .bool r2]) ∧ Kd.R Kd.string 9 w' w.heap.size (fun _ => True) v0_ r1 ∧ Below w.heap.size w w' := by
 have HR0 := zb.mk hr0
 have HC0 := zb.mk hc0
 clear hr0 hc0
 have HB := zb.mk (Below.refl w.heap.size w)
 have H : (zNa.l0 k l0 (([] : List ByteArray)) 0) = some (r1, r2) := h
 clear h
 obtain ⟨y189, hy189⟩ : ∃ y_ : List ByteArray, y_ = (([] : List ByteArray)) := ⟨_, rfl⟩
 replace H : (zNa.l0 k l0 y189 0) = some (r1, r2) := by first | (rw [hy189]; with_reducible exact H) | (have H2_ := (Option.bind_some _ _).symm.trans H; rw [hy189]; with_reducible exact H2_) | (have H2_ := (Option.bind_some _ _).symm.trans H; with_reducible exact H2_) | with_reducible exact H | (rw [hy189]; exact H) | exact H
 have Ny189 := zb.mk hy189
 clear hy189
 have H' := zb.mk H
 clear H
 go_enter Tryz.func182, Tryz.ntmps182
 go_wp2_with (first | ((with_reducible refine zoa (N := 6) rfl ?_); refine Kd.R_lit Kd.string _ 9 ?hg (N := 6) ?hd (xs := ([] : List ByteArray)) (inner := []) (ok := fun _ => True) (okp := fun _ => True) ?hr ?hp (fun _ hk => hk) trivial (Below.refl _ _) (Nat.le_refl _) (by simp) ?_; (case hd => rfl); (case hg => rfl); (case hr => first | (go_simp; done) | (go_simp; rfl)); (case hp => exact (Reps.none _ _)); intro v190 w2 ho3 hb hg_ hnew_; clear hg_ hnew_; (first | rw [← Ny189.out] at ho3 | (simp only [Int.reduceToNat] at ho3; rw [← Ny189.out] at ho3)); have n0_ := zb.mk (Kd.zua ho3 (zt (by repeat (first | (with_reducible first | exact HB.out | apply zg | apply ze | apply zf) | exact HB.out)))); have n1_ := zb.mk (zw (by repeat (first | (with_reducible first | exact HB.out | apply zg | apply ze | apply zf) | exact HB.out)) hb); clear HB; have HO191 := n0_; have HB := n1_; clear n0_ n1_; clear hb ho3))
 go_loopg [4, 5] k (fun kq v4 v5 w' => ∃ (x4_1 : List ByteArray) (x5_1 : Int), v5 = .int .i64 x5_1 ∧ zb (zNa.l0 kq l0 x4_1 x5_1 = some (r1, r2)) ∧ zb (kq ≤ k) ∧ zb (Kd.R Kd.string 9 w' w.heap.size (fun _ => True) v4 x4_1) ∧ zb (Below w.heap.size w w'))
 case atStart => exact ⟨(y189), (0), (by first | rfl | (simp; done) | (simp [*]; done)), H', ⟨Nat.le_refl _⟩, ⟨by (with_reducible repeat (first | apply Kd.zo | apply Kd.zq | apply Kd.zA)); exact HO191.out⟩, ⟨by repeat (first | (with_reducible first | exact HB.out | apply zg | apply ze | apply zf) | exact HB.out)⟩⟩
 case round =>
  clear H'
  try clear c1
  try clear p2
  obtain ⟨x4_1, x5_1, rfl, HA, HK1, HO_4, HB⟩ := hrel
  cases gk with
  | zero => exact absurd HA.out (by simp [zNa.l0])
  | succ k1 =>
   have H := HA.out
   clear HA
   simp only [zNa.l0] at H
   by_cases c4 : x5_1 < (l0.length : Int)
   ·rw [if_pos c4] at H
    have c4b0 : decide (x5_1 < (l0.length : Int)) = true := decide_eq_true c4
    clear c4
    by_cases c5 : 0 ≤ x5_1
    ·rw [if_pos c5] at H
     have c5b0 : decide (0 ≤ x5_1) = true := decide_eq_true c5
     clear c5
     replace H := Option.bind_eq_some_iff.mp H
     obtain ⟨t193, A60, H⟩ := H
     replace H : (if t193 = true then ((l2put.f x4_1 (rdOf ByteArray.empty l0 x5_1)).bind fun t195 => (zNa.l0 k1 l0 t195 (wrap64 (x5_1 + 1)))) else (some ((([] : List ByteArray)), false))) = some (r1, r2) := H
     have A6 := zb.mk A60
     clear A60
     by_cases c7 : t193 = true
     ·subst c7
      have H1 : ((l2put.f x4_1 (rdOf ByteArray.empty l0 x5_1)).bind fun t195 => (zNa.l0 k1 l0 t195 (wrap64 (x5_1 + 1)))) = some (r1, r2) := by rw [if_pos rfl] at H; exact H
      clear H
      have H := H1
      clear H1
      replace H := Option.bind_eq_some_iff.mp H
      obtain ⟨t195, A80, H⟩ := H
      replace H : (zNa.l0 k1 l0 t195 (wrap64 (x5_1 + 1))) = some (r1, r2) := H
      have A8 := zb.mk A80
      clear A80
      have H' := zb.mk H
      clear H
      have p192 : 0 ≤ (x5_1 : Int) := of_decide_eq_true (by first | (with_reducible assumption) | assumption)
      have q192 : x5_1 < (l0.length : Int) := of_decide_eq_true (by first | (with_reducible assumption) | assumption)
      obtain ⟨ad192, e192, hx192_0⟩ := Kd.zza HR0.out x5_1 p192 q192
      cases e192
      replace hx192_0 := (HB.out.cell (World.block_lt_of_cell? w _ hx192_0)).trans hx192_0
      replace p192 := eq_true p192
      replace q192 := eq_true q192
      go_wp2_with (first | ((with_reducible refine zH (f := 122) rfl ?_); refine zra (some 17) rfl rfl Tryz.func122 (by kernel_rfl) rfl #[.string (rdOf ByteArray.empty l0 x5_1)] rfl (by (try simp only [List.map_toArray, List.map_cons, List.map_nil]); first | done | rfl | (simp only [List.length_drop, List.length_take]; rfl)) ?_; (with_reducible refine (zqa.calls k1 (rdOf ByteArray.empty l0 x5_1) true _ A6.out).mono ?_); rintro e w' ⟨rfl, ⟨nd, rfl⟩⟩; refine ⟨_, rfl, ?_⟩; have p194 : 0 ≤ (x5_1 : Int) := of_decide_eq_true (by first | (with_reducible assumption) | assumption); have q194 : x5_1 < (l0.length : Int) := of_decide_eq_true (by first | (with_reducible assumption) | assumption); obtain ⟨ad194, e194, hx194_0⟩ := Kd.zza HR0.out x5_1 p194 q194; obtain rfl : ad192 = ad194 := (by injection e194); replace hx194_0 := (HB.out.cell (World.block_lt_of_cell? w _ hx194_0)).trans hx194_0; replace p194 := eq_true p194; replace q194 := eq_true q194; obtain ⟨Ao9, co9, eo9⟩ := Kd.zpa HO_4.out; subst eo9) | ((with_reducible refine zH (f := 185) rfl ?_); refine zra (some 25) rfl rfl Tryz.func185 (by kernel_rfl) rfl #[.slice Ao9 x4_1.length co9, .string (rdOf ByteArray.empty l0 x5_1)] rfl (by (try simp only [List.map_toArray, List.map_cons, List.map_nil]); first | done | rfl | (simp only [List.length_drop, List.length_take]; rfl)) ?_; (with_reducible refine (l2put.calls (fun k_ => some k_ = (.slice Ao9 x4_1.length co9 : Value).ownBlock) (.slice Ao9 x4_1.length co9) x4_1 (rdOf ByteArray.empty l0 x5_1) t195 w _ ?side1 ?side2 A8.out).mono ?_); (case side1 => repeat (first | (with_reducible first | exact HB.out | apply zg | apply ze | apply zf) | exact HB.out)); (case side2 => exact Kd.R_tight rfl HO_4.out); rintro e w10 ⟨v196, rfl, ho0, hb, hkp⟩; refine ⟨_, rfl, ?_⟩; have n0_ := zb.mk (Kd.zZ (ok' := fun k_ => True) ho0 (fun k_ hk_ => trivial)); have n1_ := zb.mk (hb); clear HB; clear HO_4; have HO197 := n0_; have HB := n1_; clear n0_ n1_; (try clear hb); (try clear hkp); (try clear ho0)))
      go_roundg k1
      case measure => have := HK1.out; omega
      case rel => exact ⟨(t195), (wrap64 (x5_1 + 1)), (by first | rfl | (simp; done) | (simp [*]; done)), H', ⟨by have := HK1.out; omega⟩, ⟨by (with_reducible repeat (first | apply Kd.zo | apply Kd.zq | apply Kd.zA)); exact HO197.out⟩, ⟨by repeat (first | (with_reducible first | exact HB.out | apply zg | apply ze | apply zf) | exact HB.out)⟩⟩
     ·replace c7 := Bool.eq_false_iff.mpr c7
      subst c7
      have H1 : (some ((([] : List ByteArray)), false)) = some (r1, r2) := by rw [if_neg (show ¬ (false = true) by decide)] at H; exact H
      clear H
      have H := H1
      clear H1
      obtain ⟨y198, hy198⟩ : ∃ y_ : List ByteArray, y_ = (([] : List ByteArray)) := ⟨_, rfl⟩
      replace H : (some (y198, false)) = some (r1, r2) := by first | (rw [hy198]; with_reducible exact H) | (have H2_ := (Option.bind_some _ _).symm.trans H; rw [hy198]; with_reducible exact H2_) | (have H2_ := (Option.bind_some _ _).symm.trans H; with_reducible exact H2_) | with_reducible exact H | (rw [hy198]; exact H) | exact H
      have Ny198 := zb.mk hy198
      clear hy198
      simp only [Option.some.injEq, Prod.mk.injEq] at H
      obtain ⟨rfl, rfl⟩ := H
      have p192 : 0 ≤ (x5_1 : Int) := of_decide_eq_true (by first | (with_reducible assumption) | assumption)
      have q192 : x5_1 < (l0.length : Int) := of_decide_eq_true (by first | (with_reducible assumption) | assumption)
      obtain ⟨ad192, e192, hx192_0⟩ := Kd.zza HR0.out x5_1 p192 q192
      cases e192
      replace hx192_0 := (HB.out.cell (World.block_lt_of_cell? w _ hx192_0)).trans hx192_0
      replace p192 := eq_true p192
      replace q192 := eq_true q192
      go_wp2_with (first | ((with_reducible refine zH (f := 122) rfl ?_); refine zra (some 17) rfl rfl Tryz.func122 (by kernel_rfl) rfl #[.string (rdOf ByteArray.empty l0 x5_1)] rfl (by (try simp only [List.map_toArray, List.map_cons, List.map_nil]); first | done | rfl | (simp only [List.length_drop, List.length_take]; rfl)) ?_; (with_reducible refine (zqa.calls k1 (rdOf ByteArray.empty l0 x5_1) false _ A6.out).mono ?_); rintro e w' ⟨rfl, ⟨nd, rfl⟩⟩; refine ⟨_, rfl, ?_⟩) | ((with_reducible refine zoa (N := 19) rfl ?_); refine Kd.R_lit Kd.string _ 9 ?hg (N := 19) ?hd (xs := ([] : List ByteArray)) (inner := []) (ok := fun _ => True) (okp := fun _ => True) ?hr ?hp (fun _ hk => hk) trivial (Below.refl _ _) (Nat.le_refl _) (by simp) ?_; (case hd => rfl); (case hg => rfl); (case hr => first | (go_simp; done) | (go_simp; rfl)); (case hp => exact (Reps.none _ _)); intro v199 w11 ho12 hb hg_ hnew_; clear hg_ hnew_; (first | rw [← Ny198.out] at ho12 | (simp only [Int.reduceToNat] at ho12; rw [← Ny198.out] at ho12)); have n0_ := zb.mk (Kd.R_elder' (by (with_reducible repeat (first | apply Kd.zo | apply Kd.zq | apply Kd.zA)); exact HO_4.out) (Kd.R_base ho12) hb); have n1_ := zb.mk (Kd.zua (Kd.R_new' ho12 (Kd.R_lt (by (with_reducible repeat (first | apply Kd.zo | apply Kd.zq | apply Kd.zA)); exact HO_4.out))) (zt (by repeat (first | (with_reducible first | exact HB.out | apply zg | apply ze | apply zf) | exact HB.out)))); have n2_ := zb.mk (zw (by repeat (first | (with_reducible first | exact HB.out | apply zg | apply ze | apply zf) | exact HB.out)) hb); clear HO_4; clear HB; have HO_4 := n0_; have HO200 := n1_; have HB := n2_; clear n0_ n1_ n2_; clear hb ho12))
      go_ret2
      exact ⟨_, by first | rfl | (simp [zC, zB] <;> rfl) | (simp [*, zC, zB] <;> rfl), by (with_reducible repeat (first | apply Kd.zo | apply Kd.zq | apply Kd.zA)); exact Kd.zZ HO200.out (fun _ hk => trivial), by repeat (first | (with_reducible first | exact HB.out | apply zg | apply ze | apply zf) | exact HB.out)⟩
    ·rw [if_neg c5] at H
     exact absurd H (by simp)
   ·rw [if_neg c4] at H
    have c4b0 : decide (x5_1 < (l0.length : Int)) = false := decide_eq_false c4
    clear c4
    simp only [Option.some.injEq, Prod.mk.injEq] at H
    obtain ⟨rfl, rfl⟩ := H
    obtain ⟨Ao13, co13, eo13⟩ := Kd.zpa HO_4.out
    subst eo13
    go_wp2
    go_ret2
    exact ⟨_, by first | rfl | (simp [zC, zB] <;> rfl) | (simp [*, zC, zB] <;> rfl), by (with_reducible repeat (first | apply Kd.zo | apply Kd.zq | apply Kd.zA)); exact HO_4.out, by repeat (first | (with_reducible first | exact HB.out | apply zg | apply ze | apply zf) | exact HB.out)⟩
end Go.Proofs.YtfabennfhmlihaaGreatDoor.P
end
section
namespace Go.Proofs.YtfabennfhmlihaaGreatDoor.P
open Go.RowKit Go.Proofs.YtfabennfhmlihaaGreatDoorW.zJ Go.Proofs.YtfabennfhmlihaaGreatDoorW.zU Go.Proofs.YtfabennfhmlihaaGreatDoorW.PrintMore
set_option linter.unusedVariables false
set_option linter.unusedSimpArgs false
attribute [local go_sem high] eqA_Node
mutual
def zBa.l0 : Nat → Int → List (zL) → List (zL) → Option (Bool)
 | 0, _, _, _ => none
 | k + 1, x5, x268000, x269000 => if x5 < (x268000.length : Int) then (zBa.j1 k x5 (decide (x5 < (x269000.length : Int))) x268000 x269000) else (zBa.j1 k x5 false x268000 x269000)
def zBa.j1 : Nat → Int → Bool → List (zL) → List (zL) → Option (Bool)
 | 0, _, _, _, _ => none
 | k + 1, x5, x17, x268000, x269000 => if x17 = true then (if 0 ≤ x5 then (if x5 < (x268000.length : Int) then (if x5 < (x269000.length : Int) then (if (!(((zl x268000 x5).f0) == ((zl x269000 x5).f0)) || (!(((zl x268000 x5).f1) == ((zl x269000 x5).f1)) || (!(((zl x268000 x5).f2) == ((zl x269000 x5).f2))))) = true then (some false) else (zBa.l0 k (wrap64 (x5 + 1)) x268000 x269000)) else (none)) else (none)) else (none)) else (some ((x268000.length : Int) == (x269000.length : Int)))
end
def zBa.f (k : Nat) (l0_0 : List (zL)) (l1_0 : List (zL)) : Option (Bool) := zBa.l0 k 0 l0_0 l1_0
set_option maxHeartbeats 8000000 in
set_option maxRecDepth 100000 in
theorem zBa.calls (k : Nat) (A0_0 : Option Addr) (c0_0 : Nat) (l0_0 : List (zL)) (A1_0 : Option Addr) (c1_0 : Nat) (l1_0 : List (zL)) (r : Bool) (w : World) (hr0_0 : Kd.C zXa w A0_0 l0_0.length l0_0) (hc0_0 : l0_0.length ≤ c0_0) (hr1_0 : Kd.C zXa w A1_0 l1_0.length l1_0) (hc1_0 : l1_0.length ≤ c1_0) (h : zBa.f k l0_0 l1_0 = some r) :
  Calls Tryz.prog 198 #[.agg #[.slice A0_0 l0_0.length c0_0], .agg #[.slice A1_0 l1_0.length c1_0]] w fun e w' => e = .returned (.bool r) ∧ Below w.heap.size w w' := by
 have hu26 := Tryz.underlying26
 have hu73 := Tryz.underlying73
 have HR0_0 := zb.mk hr0_0
 have HC0_0 := zb.mk hc0_0
 clear hr0_0 hc0_0
 have HR1_0 := zb.mk hr1_0
 have HC1_0 := zb.mk hc1_0
 clear hr1_0 hc1_0
 have HB := zb.mk (Below.refl w.heap.size w)
 have H : (zBa.l0 k 0 l0_0 l1_0) = some r := h
 clear h
 have H' := zb.mk H
 clear H
 go_enter Tryz.func198, Tryz.ntmps198
 go_wp2_with (first | ((with_reducible refine zoa (N := 2) rfl ?_); (try (refine zOa (by rfl) ?_; dsimp only)); refine zEa ?hg (N := 2) ?hd (cs := #[.slice A0_0 l0_0.length c0_0]) (t := 26) ?hr ?_; (case hd => rfl); (case hg => rfl); (case hr => first | (go_simp; done) | (go_simp; rfl)); intro gb267 hg w3 hbox hb; have n0_ := zb.mk (zw (by repeat (first | (with_reducible first | exact HB.out | apply zg | apply ze | apply zf) | exact HB.out)) hb); have n1_ := zb.mk (hbox); have n2_ := zb.mk ((by rw [hg]; exact (zt (by repeat (first | (with_reducible first | exact HB.out | apply zg | apply ze | apply zf) | exact HB.out))) : w.heap.size ≤ gb267)); have n3_ := zb.mk ((by rw [hg]; exact (zt (by repeat (first | (with_reducible first | exact HB.out | apply zg | apply ze | apply zf) | exact HB.out))) : w.heap.size ≤ gb267)); clear HB; have HB := n0_; have BK267 := n1_; have GW267 := n2_; have GE267 := n3_; clear n0_ n1_ n2_ n3_; clear hb hbox hg) | ((with_reducible refine zoa (N := 3) rfl ?_); (try (refine zOa (by rfl) ?_; dsimp only)); refine zEa ?hg (N := 3) ?hd (cs := #[.slice A1_0 l1_0.length c1_0]) (t := 26) ?hr ?_; (case hd => rfl); (case hg => rfl); (case hr => first | (go_simp; done) | (go_simp; rfl)); intro gb268 hg w4 hbox hb; have n0_ := zb.mk (zG (g := gb267) (o := .cells #[.slice A0_0 l0_0.length c0_0] 26 (0, 0)) (by (with_reducible repeat (first | refine zk ?_ _ | refine zm ?_ | refine zi ?_ _)); exact BK267.out) hb); have n1_ := zb.mk (zw (by repeat (first | (with_reducible first | exact HB.out | apply zg | apply ze | apply zf | refine zh ?_ GE267.out) | exact HB.out)) hb); have n2_ := zb.mk (hbox); have n3_ := zb.mk ((by rw [hg]; exact (zt (by repeat (first | (with_reducible first | exact HB.out | apply zg | apply ze | apply zf | refine zh ?_ GE267.out) | exact HB.out))) : w.heap.size ≤ gb268)); have n4_ := zb.mk ((by rw [hg]; exact (zt (by repeat (first | (with_reducible first | exact HB.out | apply zg | apply ze | apply zf | refine zh ?_ GE267.out) | exact HB.out))) : w.heap.size ≤ gb268)); have n5_ := zb.mk ((by rw [hg]; exact Nat.ne_of_lt (blk_lt (g := gb267) (o := .cells #[.slice A0_0 l0_0.length c0_0] 26 (0, 0)) (by (with_reducible repeat (first | refine zk ?_ _ | refine zm ?_ | refine zi ?_ _)); exact BK267.out)) : gb267 ≠ gb268)); have n6_ := zb.mk ((by rw [hg]; exact Nat.ne_of_gt (blk_lt (g := gb267) (o := .cells #[.slice A0_0 l0_0.length c0_0] 26 (0, 0)) (by (with_reducible repeat (first | refine zk ?_ _ | refine zm ?_ | refine zi ?_ _)); exact BK267.out)) : gb268 ≠ gb267)); clear BK267; clear HB; have BK267 := n0_; have HB := n1_; have BK268 := n2_; have GW268 := n3_; have GE268 := n4_; have NB267_268 := n5_; have NB268_267 := n6_; clear n0_ n1_ n2_ n3_ n4_ n5_ n6_; clear hb hbox hg))
 repeat (go_quiet (first | ((with_reducible refine zoa (N := 2) rfl ?_); (try (refine zOa (by rfl) ?_; dsimp only)); refine zEa ?hg (N := 2) ?hd (cs := #[.slice A0_0 l0_0.length c0_0]) (t := 26) ?hr ?_; (case hd => rfl); (case hg => rfl); (case hr => first | (go_simp; done) | (go_simp; rfl)); intro gb267 hg w3 hbox hb; have n0_ := zb.mk (zw (by repeat (first | (with_reducible first | exact HB.out | apply zg | apply ze | apply zf) | exact HB.out)) hb); have n1_ := zb.mk (hbox); have n2_ := zb.mk ((by rw [hg]; exact (zt (by repeat (first | (with_reducible first | exact HB.out | apply zg | apply ze | apply zf) | exact HB.out))) : w.heap.size ≤ gb267)); have n3_ := zb.mk ((by rw [hg]; exact (zt (by repeat (first | (with_reducible first | exact HB.out | apply zg | apply ze | apply zf) | exact HB.out))) : w.heap.size ≤ gb267)); clear HB; have HB := n0_; have BK267 := n1_; have GW267 := n2_; have GE267 := n3_; clear n0_ n1_ n2_ n3_; clear hb hbox hg) | ((with_reducible refine zoa (N := 3) rfl ?_); (try (refine zOa (by rfl) ?_; dsimp only)); refine zEa ?hg (N := 3) ?hd (cs := #[.slice A1_0 l1_0.length c1_0]) (t := 26) ?hr ?_; (case hd => rfl); (case hg => rfl); (case hr => first | (go_simp; done) | (go_simp; rfl)); intro gb268 hg w4 hbox hb; have n0_ := zb.mk (zG (g := gb267) (o := .cells #[.slice A0_0 l0_0.length c0_0] 26 (0, 0)) (by (with_reducible repeat (first | refine zk ?_ _ | refine zm ?_ | refine zi ?_ _)); exact BK267.out) hb); have n1_ := zb.mk (zw (by repeat (first | (with_reducible first | exact HB.out | apply zg | apply ze | apply zf | refine zh ?_ GE267.out) | exact HB.out)) hb); have n2_ := zb.mk (hbox); have n3_ := zb.mk ((by rw [hg]; exact (zt (by repeat (first | (with_reducible first | exact HB.out | apply zg | apply ze | apply zf | refine zh ?_ GE267.out) | exact HB.out))) : w.heap.size ≤ gb268)); have n4_ := zb.mk ((by rw [hg]; exact (zt (by repeat (first | (with_reducible first | exact HB.out | apply zg | apply ze | apply zf | refine zh ?_ GE267.out) | exact HB.out))) : w.heap.size ≤ gb268)); have n5_ := zb.mk ((by rw [hg]; exact Nat.ne_of_lt (blk_lt (g := gb267) (o := .cells #[.slice A0_0 l0_0.length c0_0] 26 (0, 0)) (by (with_reducible repeat (first | refine zk ?_ _ | refine zm ?_ | refine zi ?_ _)); exact BK267.out)) : gb267 ≠ gb268)); have n6_ := zb.mk ((by rw [hg]; exact Nat.ne_of_gt (blk_lt (g := gb267) (o := .cells #[.slice A0_0 l0_0.length c0_0] 26 (0, 0)) (by (with_reducible repeat (first | refine zk ?_ _ | refine zm ?_ | refine zi ?_ _)); exact BK267.out)) : gb268 ≠ gb267)); clear BK267; clear HB; have BK267 := n0_; have HB := n1_; have BK268 := n2_; have GW268 := n3_; have GE268 := n4_; have NB267_268 := n5_; have NB268_267 := n6_; clear n0_ n1_ n2_ n3_ n4_ n5_ n6_; clear hb hbox hg)); try go_wp2_with (first | ((with_reducible refine zoa (N := 2) rfl ?_); (try (refine zOa (by rfl) ?_; dsimp only)); refine zEa ?hg (N := 2) ?hd (cs := #[.slice A0_0 l0_0.length c0_0]) (t := 26) ?hr ?_; (case hd => rfl); (case hg => rfl); (case hr => first | (go_simp; done) | (go_simp; rfl)); intro gb267 hg w3 hbox hb; have n0_ := zb.mk (zw (by repeat (first | (with_reducible first | exact HB.out | apply zg | apply ze | apply zf) | exact HB.out)) hb); have n1_ := zb.mk (hbox); have n2_ := zb.mk ((by rw [hg]; exact (zt (by repeat (first | (with_reducible first | exact HB.out | apply zg | apply ze | apply zf) | exact HB.out))) : w.heap.size ≤ gb267)); have n3_ := zb.mk ((by rw [hg]; exact (zt (by repeat (first | (with_reducible first | exact HB.out | apply zg | apply ze | apply zf) | exact HB.out))) : w.heap.size ≤ gb267)); clear HB; have HB := n0_; have BK267 := n1_; have GW267 := n2_; have GE267 := n3_; clear n0_ n1_ n2_ n3_; clear hb hbox hg) | ((with_reducible refine zoa (N := 3) rfl ?_); (try (refine zOa (by rfl) ?_; dsimp only)); refine zEa ?hg (N := 3) ?hd (cs := #[.slice A1_0 l1_0.length c1_0]) (t := 26) ?hr ?_; (case hd => rfl); (case hg => rfl); (case hr => first | (go_simp; done) | (go_simp; rfl)); intro gb268 hg w4 hbox hb; have n0_ := zb.mk (zG (g := gb267) (o := .cells #[.slice A0_0 l0_0.length c0_0] 26 (0, 0)) (by (with_reducible repeat (first | refine zk ?_ _ | refine zm ?_ | refine zi ?_ _)); exact BK267.out) hb); have n1_ := zb.mk (zw (by repeat (first | (with_reducible first | exact HB.out | apply zg | apply ze | apply zf | refine zh ?_ GE267.out) | exact HB.out)) hb); have n2_ := zb.mk (hbox); have n3_ := zb.mk ((by rw [hg]; exact (zt (by repeat (first | (with_reducible first | exact HB.out | apply zg | apply ze | apply zf | refine zh ?_ GE267.out) | exact HB.out))) : w.heap.size ≤ gb268)); have n4_ := zb.mk ((by rw [hg]; exact (zt (by repeat (first | (with_reducible first | exact HB.out | apply zg | apply ze | apply zf | refine zh ?_ GE267.out) | exact HB.out))) : w.heap.size ≤ gb268)); have n5_ := zb.mk ((by rw [hg]; exact Nat.ne_of_lt (blk_lt (g := gb267) (o := .cells #[.slice A0_0 l0_0.length c0_0] 26 (0, 0)) (by (with_reducible repeat (first | refine zk ?_ _ | refine zm ?_ | refine zi ?_ _)); exact BK267.out)) : gb267 ≠ gb268)); have n6_ := zb.mk ((by rw [hg]; exact Nat.ne_of_gt (blk_lt (g := gb267) (o := .cells #[.slice A0_0 l0_0.length c0_0] 26 (0, 0)) (by (with_reducible repeat (first | refine zk ?_ _ | refine zm ?_ | refine zi ?_ _)); exact BK267.out)) : gb268 ≠ gb267)); clear BK267; clear HB; have BK267 := n0_; have HB := n1_; have BK268 := n2_; have GW268 := n3_; have GE268 := n4_; have NB267_268 := n5_; have NB268_267 := n6_; clear n0_ n1_ n2_ n3_ n4_ n5_ n6_; clear hb hbox hg)))
 go_loopg [5] k (fun kq v5 w' => ∃ (x5_1 : Int), v5 = .int .i64 x5_1 ∧ zb (zBa.l0 kq x5_1 l0_0 l1_0 = some r) ∧ zb (kq ≤ k) ∧ zb (w'.heap[gb267]? = some (.cells #[(.slice A0_0 l0_0.length c0_0)] 26 (0, 0))) ∧ zb (w'.heap[gb268]? = some (.cells #[(.slice A1_0 l1_0.length c1_0)] 26 (0, 0))) ∧ zb (Below w.heap.size w w'))
 case atStart => exact ⟨(0), (by first | rfl | (simp; done) | (simp [*]; done)), H', ⟨Nat.le_refl _⟩, ⟨by (with_reducible repeat (first | refine zk ?_ _ | refine zm ?_ | refine zi ?_ _)); exact BK267.out⟩, ⟨by (with_reducible repeat (first | refine zk ?_ _ | refine zm ?_ | refine zi ?_ _)); exact BK268.out⟩, ⟨by repeat (first | (with_reducible first | exact HB.out | apply zg | apply ze | apply zf | refine zh ?_ GE267.out | refine zh ?_ GE268.out) | exact HB.out)⟩⟩
 case round =>
  clear H'
  try clear c1
  try clear p2
  obtain ⟨x5_1, rfl, HA, HK1, BK267, BK268, HB⟩ := hrel
  cases gk with
  | zero => exact absurd HA.out (by simp [zBa.l0])
  | succ k1 =>
   have H := HA.out
   clear HA
   simp only [zBa.l0] at H
   have HC5 := zb.mk H
   clear H
   go_upto_region 2 with (fail)
   repeat (go_quiet (fail); go_upto_region 2 with (fail))
   go_cut [17] (fun v17 wc => ∃ (kq : Nat) (x17_4 : Bool), v17 = .bool x17_4 ∧ zb (zBa.j1 kq x5_1 x17_4 l0_0 l1_0 = some r) ∧ zb (kq ≤ k1) ∧ zb (wc.heap[gb267]? = some (.cells #[(.slice A0_0 l0_0.length c0_0)] 26 (0, 0))) ∧ zb (wc.heap[gb268]? = some (.cells #[(.slice A1_0 l1_0.length c1_0)] 26 (0, 0))) ∧ zb (Below w.heap.size w wc))
   case first =>
    have H := HC5.out
    clear HC5
    by_cases c6 : x5_1 < (l0_0.length : Int)
    ·rw [if_pos c6] at H
     have c6b0 : decide (x5_1 < (l0_0.length : Int)) = true := decide_eq_true c6
     clear c6
     (first | rw [c6b0] | (simp only [zva]; rw [c6b0]) | skip)
     have H' := zb.mk H
     clear H
     have hnb7 := NB267_268.out
     have hnc7 := NB268_267.out
     have hcz8_0 : wr.cell? ⟨gb267, 0, none⟩ = some (.slice A0_0 l0_0.length c0_0) := (zD BK267.out 0).trans rfl
     have hfz8_0 := zz BK267.out 0
     have hcz9_0 : wr.cell? ⟨gb268, 0, none⟩ = some (.slice A1_0 l1_0.length c1_0) := (zD BK268.out 0).trans rfl
     have hfz9_0 := zz BK268.out 0
     go_wp2
     repeat (go_quiet (fail); try go_wp2)
     go_meet
     case rel => exact ⟨_, (decide (x5_1 < (l1_0.length : Int))), (by first | rfl | (simp; done) | (simp [*]; done)), H', ⟨by have := HK1.out; first | omega | exact Nat.le_refl _⟩, ⟨by (with_reducible repeat (first | refine zk ?_ _ | refine zm ?_ | refine zi ?_ _)); exact BK267.out⟩, ⟨by (with_reducible repeat (first | refine zk ?_ _ | refine zm ?_ | refine zi ?_ _)); exact BK268.out⟩, ⟨by repeat (first | (with_reducible first | exact HB.out | apply zg | apply ze | apply zf | refine zh ?_ GE267.out | refine zh ?_ GE268.out) | exact HB.out)⟩⟩
    ·rw [if_neg c6] at H
     have c6b0 : decide (x5_1 < (l0_0.length : Int)) = false := decide_eq_false c6
     clear c6
     (first | rw [c6b0] | (simp only [zva]; rw [c6b0]) | skip)
     have H' := zb.mk H
     clear H
     have hnb10 := NB267_268.out
     have hnc10 := NB268_267.out
     have hcz11_0 : wr.cell? ⟨gb267, 0, none⟩ = some (.slice A0_0 l0_0.length c0_0) := (zD BK267.out 0).trans rfl
     have hfz11_0 := zz BK267.out 0
     go_wp2
     repeat (go_quiet (fail); try go_wp2)
     go_meet
     case rel => exact ⟨_, (false), (by first | rfl | (simp; done) | (simp [*]; done)), H', ⟨by have := HK1.out; first | omega | exact Nat.le_refl _⟩, ⟨by (with_reducible repeat (first | refine zk ?_ _ | refine zm ?_ | refine zi ?_ _)); exact BK267.out⟩, ⟨by (with_reducible repeat (first | refine zk ?_ _ | refine zm ?_ | refine zi ?_ _)); exact BK268.out⟩, ⟨by repeat (first | (with_reducible first | exact HB.out | apply zg | apply ze | apply zf | refine zh ?_ GE267.out | refine zh ?_ GE268.out) | exact HB.out)⟩⟩
   case rest =>
    clear HC5
    try clear c1
    try clear p2
    try clear c6
    try clear c6b0
    try clear c7
    try clear c10
    try clear hcz11_0
    try clear hcz8_0
    try clear hcz9_0
    try clear hfz11_0
    try clear hfz8_0
    try clear hfz9_0
    try clear p2
    obtain ⟨kq, x17_4, rfl, HA, HJ4, BK267, BK268, HB⟩ := hcut
    cases kq with
    | zero => exact absurd HA.out (by simp [zBa.j1])
    | succ kj4 =>
     have H := HA.out
     clear HA
     simp only [zBa.j1] at H
     by_cases c12 : x17_4 = true
     ·subst c12
      have H1 : (if 0 ≤ x5_1 then (if x5_1 < (l0_0.length : Int) then (if x5_1 < (l1_0.length : Int) then (if (!(((zl l0_0 x5_1).f0) == ((zl l1_0 x5_1).f0)) || (!(((zl l0_0 x5_1).f1) == ((zl l1_0 x5_1).f1)) || (!(((zl l0_0 x5_1).f2) == ((zl l1_0 x5_1).f2))))) = true then (some false) else (zBa.l0 kj4 (wrap64 (x5_1 + 1)) l0_0 l1_0)) else (none)) else (none)) else (none)) = some r := by rw [if_pos rfl] at H; exact H
      clear H
      have H := H1
      clear H1
      by_cases c13 : 0 ≤ x5_1
      ·rw [if_pos c13] at H
       have c13b0 : decide (0 ≤ x5_1) = true := decide_eq_true c13
       clear c13
       by_cases c14 : x5_1 < (l0_0.length : Int)
       ·rw [if_pos c14] at H
        have c14b0 : decide (x5_1 < (l0_0.length : Int)) = true := decide_eq_true c14
        clear c14
        by_cases c15 : x5_1 < (l1_0.length : Int)
        ·rw [if_pos c15] at H
         have c15b0 : decide (x5_1 < (l1_0.length : Int)) = true := decide_eq_true c15
         clear c15
         by_cases c16 : (!(((zl l0_0 x5_1).f0) == ((zl l1_0 x5_1).f0)) || (!(((zl l0_0 x5_1).f1) == ((zl l1_0 x5_1).f1)) || (!(((zl l0_0 x5_1).f2) == ((zl l1_0 x5_1).f2))))) = true
         ·rw [if_pos c16] at H
          have c16b0 : (!(((zl l0_0 x5_1).f0) == ((zl l1_0 x5_1).f0)) || (!(((zl l0_0 x5_1).f1) == ((zl l1_0 x5_1).f1)) || (!(((zl l0_0 x5_1).f2) == ((zl l1_0 x5_1).f2))))) = true := c16
          clear c16
          obtain rfl := Option.some.inj H
          have hnb17 := NB267_268.out
          have hnc17 := NB268_267.out
          have hcz18_0 : wc.cell? ⟨gb267, 0, none⟩ = some (.slice A0_0 l0_0.length c0_0) := (zD BK267.out 0).trans rfl
          have hfz18_0 := zz BK267.out 0
          have p269 : 0 ≤ (x5_1 : Int) := of_decide_eq_true (by first | (with_reducible assumption) | assumption)
          have q269 : x5_1 < (l0_0.length : Int) := of_decide_eq_true (by first | (with_reducible assumption) | assumption)
          obtain ⟨ad269, e269, hx269_0, hx269_1, hx269_2⟩ := at_T_Node HR0_0.out x5_1 p269 q269
          cases e269
          replace hx269_0 := (HB.out.cell (World.block_lt_of_cell? w _ hx269_0)).trans hx269_0
          replace hx269_1 := (HB.out.cell (World.block_lt_of_cell? w _ hx269_1)).trans hx269_1
          replace hx269_2 := (HB.out.cell (World.block_lt_of_cell? w _ hx269_2)).trans hx269_2
          replace p269 := eq_true p269
          replace q269 := eq_true q269
          have hcz19_0 : wc.cell? ⟨gb268, 0, none⟩ = some (.slice A1_0 l1_0.length c1_0) := (zD BK268.out 0).trans rfl
          have hfz19_0 := zz BK268.out 0
          have p270 : 0 ≤ (x5_1 : Int) := of_decide_eq_true (by first | (with_reducible assumption) | assumption)
          have q270 : x5_1 < (l1_0.length : Int) := of_decide_eq_true (by first | (with_reducible assumption) | assumption)
          obtain ⟨ad270, e270, hx270_0, hx270_1, hx270_2⟩ := at_T_Node HR1_0.out x5_1 p270 q270
          cases e270
          replace hx270_0 := (HB.out.cell (World.block_lt_of_cell? w _ hx270_0)).trans hx270_0
          replace hx270_1 := (HB.out.cell (World.block_lt_of_cell? w _ hx270_1)).trans hx270_1
          replace hx270_2 := (HB.out.cell (World.block_lt_of_cell? w _ hx270_2)).trans hx270_2
          replace p270 := eq_true p270
          replace q270 := eq_true q270
          go_wp2
          repeat (go_quiet (fail); try go_wp2)
          go_ret
          exact ⟨by first | rfl | (simp [zC, zB] <;> rfl) | (simp [*, zC, zB] <;> rfl), by repeat (first | (with_reducible first | exact HB.out | apply zg | apply ze | apply zf | refine zh ?_ GE267.out | refine zh ?_ GE268.out) | exact HB.out)⟩
         ·rw [if_neg c16] at H
          have c16b0 : (!(((zl l0_0 x5_1).f0) == ((zl l1_0 x5_1).f0)) || (!(((zl l0_0 x5_1).f1) == ((zl l1_0 x5_1).f1)) || (!(((zl l0_0 x5_1).f2) == ((zl l1_0 x5_1).f2))))) = false := by simpa using c16
          clear c16
          have H' := zb.mk H
          clear H
          have hnb20 := NB267_268.out
          have hnc20 := NB268_267.out
          have hcz21_0 : wc.cell? ⟨gb267, 0, none⟩ = some (.slice A0_0 l0_0.length c0_0) := (zD BK267.out 0).trans rfl
          have hfz21_0 := zz BK267.out 0
          have p269 : 0 ≤ (x5_1 : Int) := of_decide_eq_true (by first | (with_reducible assumption) | assumption)
          have q269 : x5_1 < (l0_0.length : Int) := of_decide_eq_true (by first | (with_reducible assumption) | assumption)
          obtain ⟨ad269, e269, hx269_0, hx269_1, hx269_2⟩ := at_T_Node HR0_0.out x5_1 p269 q269
          cases e269
          replace hx269_0 := (HB.out.cell (World.block_lt_of_cell? w _ hx269_0)).trans hx269_0
          replace hx269_1 := (HB.out.cell (World.block_lt_of_cell? w _ hx269_1)).trans hx269_1
          replace hx269_2 := (HB.out.cell (World.block_lt_of_cell? w _ hx269_2)).trans hx269_2
          replace p269 := eq_true p269
          replace q269 := eq_true q269
          have hcz22_0 : wc.cell? ⟨gb268, 0, none⟩ = some (.slice A1_0 l1_0.length c1_0) := (zD BK268.out 0).trans rfl
          have hfz22_0 := zz BK268.out 0
          have p270 : 0 ≤ (x5_1 : Int) := of_decide_eq_true (by first | (with_reducible assumption) | assumption)
          have q270 : x5_1 < (l1_0.length : Int) := of_decide_eq_true (by first | (with_reducible assumption) | assumption)
          obtain ⟨ad270, e270, hx270_0, hx270_1, hx270_2⟩ := at_T_Node HR1_0.out x5_1 p270 q270
          cases e270
          replace hx270_0 := (HB.out.cell (World.block_lt_of_cell? w _ hx270_0)).trans hx270_0
          replace hx270_1 := (HB.out.cell (World.block_lt_of_cell? w _ hx270_1)).trans hx270_1
          replace hx270_2 := (HB.out.cell (World.block_lt_of_cell? w _ hx270_2)).trans hx270_2
          replace p270 := eq_true p270
          replace q270 := eq_true q270
          go_wp2
          repeat (go_quiet (fail); try go_wp2)
          go_roundg kj4
          case measure => have := HK1.out; have := HJ4.out; omega
          case rel => exact ⟨(wrap64 (x5_1 + 1)), (by first | rfl | (simp; done) | (simp [*]; done)), H', ⟨by have := HK1.out; have := HJ4.out; omega⟩, ⟨by (with_reducible repeat (first | refine zk ?_ _ | refine zm ?_ | refine zi ?_ _)); exact BK267.out⟩, ⟨by (with_reducible repeat (first | refine zk ?_ _ | refine zm ?_ | refine zi ?_ _)); exact BK268.out⟩, ⟨by repeat (first | (with_reducible first | exact HB.out | apply zg | apply ze | apply zf | refine zh ?_ GE267.out | refine zh ?_ GE268.out) | exact HB.out)⟩⟩
        ·rw [if_neg c15] at H
         exact absurd H (by simp)
       ·rw [if_neg c14] at H
        exact absurd H (by simp)
      ·rw [if_neg c13] at H
       exact absurd H (by simp)
     ·replace c12 := Bool.eq_false_iff.mpr c12
      subst c12
      have H1 : (some ((l0_0.length : Int) == (l1_0.length : Int))) = some r := by rw [if_neg (show ¬ (false = true) by decide)] at H; exact H
      clear H
      have H := H1
      clear H1
      obtain rfl := Option.some.inj H
      have hnb23 := NB267_268.out
      have hnc23 := NB268_267.out
      have hcz24_0 : wc.cell? ⟨gb267, 0, none⟩ = some (.slice A0_0 l0_0.length c0_0) := (zD BK267.out 0).trans rfl
      have hfz24_0 := zz BK267.out 0
      have hcz25_0 : wc.cell? ⟨gb268, 0, none⟩ = some (.slice A1_0 l1_0.length c1_0) := (zD BK268.out 0).trans rfl
      have hfz25_0 := zz BK268.out 0
      go_wp2
      repeat (go_quiet (fail); try go_wp2)
      go_ret
      exact ⟨by first | rfl | (simp [zC, zB] <;> rfl) | (simp [*, zC, zB] <;> rfl), by repeat (first | (with_reducible first | exact HB.out | apply zg | apply ze | apply zf | refine zh ?_ GE267.out | refine zh ?_ GE268.out) | exact HB.out)⟩
end Go.Proofs.YtfabennfhmlihaaGreatDoor.P
end
section
namespace Go.Proofs.YtfabennfhmlihaaGreatDoor.P
open Go Go.RowKit Go.Proofs.YtfabennfhmlihaaGreatDoorW.zJ Go.Proofs.YtfabennfhmlihaaGreatDoorW.zU Go.Proofs.YtfabennfhmlihaaGreatDoorW.PrintMore
set_option linter.unusedVariables false
theorem size_alloc (w : World) (o : Obj) : (w.alloc o).heap.size = w.heap.size + 1 := by simp
/-- A row asx it is made: inner its cells. -/
theorem R_fresh {α : Type} (d : Kd α) (e : Nat) (W : World) (base : Nat) (xs : List α) (inner : List Value) (ok : Nat → Prop)
    (hr : Reps (d.M (W.alloc (.cells inner.toArray e)) base (fun k => ok k ∧ some k ≠ (Value.slice (some ⟨W.heap.size, 0, none⟩) xs.length xs.length).ownBlock)) d.sz xs inner)
    (hok : ok W.heap.size) (hb : base ≤ W.heap.size) (hm : xs.length ≤ 9223372036854775807) :
    d.R e (W.alloc (.cells inner.toArray e)) base ok (.slice (some ⟨W.heap.size, 0, none⟩) xs.length xs.length) xs :=
  ⟨fun k hk => by
    have : W.heap.size = k := by simpa [Value.ownBlock] using hk
    subst this; exact hok, OwnRow.lit W base hr hb hm⟩
/-- While prefixes are gathered: the row of prefixes; the variable of the result; nothing elder has turned. -/
def OfI (w W : World) (gr : Nat) (v : Value) (P : List (List UInt8)) : Prop :=
  Kd.R Kd.string 9 W w.heap.size (fun _ => True) v (P.map tx) ∧ W.heap[gr]? = some (.cells #[.slice none 0 0] 26 (0, 0)) ∧ Below w.heap.size w W
theorem OfI.put {w W W1 : World} {gr : Nat} {v v1 : Value} {P P1 : List (List UInt8)} (h : OfI w W gr v P) (ho : Kd.R Kd.string 9 W1 w.heap.size (fun k_ => (some k_ = v.ownBlock ∨ W.heap.size ≤ k_)) v1 (P1.map tx))
    (hb : Below w.heap.size w W1) (hk : Kept W W1 (fun k_ => some k_ = v.ownBlock)) : OfI w W1 gr v1 P1 :=
  ⟨Kd.zZ ho (fun _ _ => trivial), blk_kept h.2.1 hk (Kd.R_ne h.1 h.2.1 (by decide)), hb⟩
theorem nodesP_len (P ws : List (List UInt8)) (n : Nat) : (zTa P ws n).length = n := by simp [zTa]
theorem l2Place_calls (P : List (List UInt8)) (q : List UInt8) (A : Option Addr) (c : Nat) (w : World) (hr : Kd.C Kd.string w A P.length (P.map tx)) (hc : P.length ≤ c) (hl : P.length ≤ 9223372036854775806) :
    Calls Tryz.prog 189 #[.slice A P.length c, .string (tx q)] w fun e w' => e = .returned (.int .i64 (placeW P q)) ∧ zX w w' := by
  obtain ⟨k, hk⟩ := (l2Place_ev P q hl).get
  have := spec_l2Place.calls k A c (P.map tx) (tx q) _ w (by simpa using hr) (by simpa using hc) hk
  simpa using this
/-- While the nodes are gathered: the row of prefixes, the variable of the result, the row of nodes. -/
structure OfK (w W : World) (g : Nat) (vP : Value) (P : List (List UInt8)) (vN : Value) (ns : List zL) : Prop where
  pre : Kd.R Kd.string 9 W w.heap.size (fun _ => True) vP (P.map tx)
  box : W.heap[g]? = some (.cells #[vN] 26 (0, 0))
  nod : Kd.R zXa 73 W w.heap.size (fun _ => True) vN ns
  bel : Below w.heap.size w W
  old : w.heap.size < g
  res : W.heap[w.heap.size]? = some (.cells #[.slice none 0 0] 26 (0, 0))
/-- In a round: with the box nb of the node that is made, holding c. -/
structure OfN (w W : World) (g nb : Nat) (vP : Value) (P : List (List UInt8)) (vN : Value) (ns : List zL) (c : zL) : Prop where
  pre : Kd.R Kd.string 9 W w.heap.size (fun _ => True) vP (P.map tx)
  box : W.heap[g]? = some (.cells #[vN] 26 (0, 0))
  nod : Kd.R zXa 73 W w.heap.size (fun k => k ≠ nb) vN ns
  bel : Below w.heap.size w W
  old : w.heap.size < g
  res : W.heap[w.heap.size]? = some (.cells #[.slice none 0 0] 26 (0, 0))
  nbx : W.heap[nb]? = some (.cells #[.int .i64 c.f0, .int .i64 c.f1, .bool c.f2] 73 (0, 0))
  nbo : w.heap.size ≤ nb
theorem OfK.drawn {w W : World} {g : Nat} {vP : Value} {P : List (List UInt8)} {vN : Value} {ns : List zL} (h : OfK w W g vP P vN ns) (n : Nat) : OfK w (W.drewN n) g vP P vN ns where
  pre := Kd.zq h.pre _
  box := zk h.box _
  nod := Kd.zq h.nod _
  bel := ze h.bel _
  old := h.old
  res := zk h.res _
theorem OfK.node {w W : World} {g : Nat} {vP : Value} {P : List (List UInt8)} {vN : Value} {ns : List zL} (h : OfK w W g vP P vN ns) (c : zL) :
    OfN w (W.alloc (.cells #[.int .i64 c.f0, .int .i64 c.f1, .bool c.f2] 73)) g W.heap.size vP P vN ns c where
  pre := Kd.zo h.pre _
  box := zi h.box _
  nod := Kd.zo (Kd.zZ (Kd.R_bound h.nod) (fun k hk => by have := hk.2.2.1; omega)) _
  bel := h.bel.alloc h.bel.size _
  old := h.old
  res := zi h.res _
  nbx := blk_new _ _
  nbo := h.bel.size
section
variable {w W : World} {g nb : Nat} {vP : Value} {P : List (List UInt8)} {vN : Value} {ns : List zL} {c : zL} (h : OfN w W g nb vP P vN ns c)
include h
theorem OfN.ng : g ≠ nb := blk_ne h.box h.nbx (by decide)
theorem OfN.nr : w.heap.size ≠ nb := blk_ne h.res h.nbx (by decide)
theorem OfN.set (j : Nat) (u : Value) (c' : zL) (hc : (#[Value.int .i64 c.f0, .int .i64 c.f1, .bool c.f2] : Array Value).setIfInBounds j u = #[.int .i64 c'.f0, .int .i64 c'.f1, .bool c'.f2]) :
    OfN w (W.setCell ⟨nb, j, none⟩ u) g nb vP P vN ns c' where
  pre := Kd.R_set h.pre h.nbx (by decide) j u
  box := blk_far (p := ⟨nb, j, none⟩) h.box h.ng u
  nod := Kd.R_far (p := ⟨nb, j, none⟩) h.nod (fun k hk => hk) u
  bel := zh h.bel h.nbo
  old := h.old
  res := blk_far (p := ⟨nb, j, none⟩) h.res h.nr u
  nbx := by have := blk_set h.nbx j u; rwa [hc] at this
  nbo := h.nbo
theorem OfN.back {w4 : World} {v1 : Value} {ns1 : List zL} (ho : Kd.R zXa 73 w4 w.heap.size (fun k => k ≠ nb) v1 ns1) (hb : Below w.heap.size w w4) (hg : W.grownBy w4 vN.ownBlock) :
    w4.heap[g]? = some (.cells #[vN] 26 (0, 0)) ∧ OfK w (w4.setCell ⟨g, 0, none⟩ v1) g vP P v1 ns1 := by
  have hb4 := blk_grown h.box hg (Kd.R_ne h.nod h.box (by decide))
  refine ⟨hb4, ?_, ?_, ?_, zh hb (Nat.le_of_lt h.old), h.old, ?_⟩
  · exact Kd.R_set (Kd.R_over' h.pre (Kd.R_typed h.nod) (by decide) hg) hb4 (by decide) 0 v1
  · exact blk_set hb4 0 v1
  · exact Kd.R_set (Kd.zZ ho (fun _ _ => trivial)) hb4 (by decide) 0 v1
  · exact blk_far (p := ⟨g, 0, none⟩) (blk_grown h.res hg (Kd.R_ne h.nod h.res (by decide))) (by have := h.old; simp only [ne_eq]; omega) v1
theorem OfN.drawn (n : Nat) : OfN w (W.drewN n) g nb vP P vN ns c where
  pre := Kd.zq h.pre _
  box := zk h.box _
  nod := Kd.zq h.nod _
  bel := ze h.bel _
  old := h.old
  res := zk h.res _
  nbx := zk h.nbx _
  nbo := h.nbo
end
set_option maxHeartbeats 4000000 in
set_option maxRecDepth 100000 in
theorem l2of.calls (A0 : Option Addr) (c0 : Nat) (l0 : List ByteArray) (r : List zL) (w : World) (hr0 : Kd.C Kd.string w A0 l0.length l0) (hc0 : l0.length ≤ c0) (h : l2of.f l0 = some r) :
    Calls Tryz.prog 128 #[.slice A0 l0.length c0] w fun e w' => ∃ v0_ : Value, e = .returned (.agg #[v0_]) ∧ Kd.R zXa 73 w' w.heap.size (fun _ => True) v0_ r ∧ Below w.heap.size w w' := by
  unfold l2of.f at h
  split at h
  case isFalse => cases h
  rename_i hg
  obtain ⟨⟨hg1, hg2⟩, hg3⟩ := hg
  obtain rfl := Option.some.inj h
  clear h
  obtain ⟨ws, hws⟩ : ∃ ws, ws = l0.map ByteArray.toList := ⟨_, rfl⟩
  rw [← hws] at hg3 ⊢
  have hwl : ws.length = l0.length := by rw [hws]; simp
  have HM : zb (∀ x ∈ ws, x.length ≤ 262144) := ⟨by
    rw [hws]; intro x hx
    obtain ⟨b, hb, rfl⟩ := List.mem_map.1 hx
    exact hg2 b hb⟩
  have HL' : zb (l0 = ws.map tx) := ⟨by rw [hws]; exact map_tx_surj l0⟩
  have HE : zb (∀ i : Int, rdOf ByteArray.empty l0 i = tx (ws.getD i.toNat [])) := ⟨fun i => by rw [HL'.out]; exact rdOf_tx ws i⟩
  have HG := zb.mk hg3
  have HW := zb.mk hwl
  have HR0 := zb.mk hr0
  have HC0 := zb.mk hc0
  clear hg2 hg3 hws hwl hr0 hc0
  have hu26 := Tryz.underlying26
  have hu73 := Tryz.underlying73
  go_enter Tryz.func128, Tryz.ntmps128
  go_wp2
  have H0 : zb (OfI w ((w.alloc (.cells #[.slice none 0 0] 26)).alloc (.cells #[.string ⟨#[]⟩] 9)) w.heap.size (.slice (some ⟨w.heap.size + 1, 0, none⟩) 1 1) (prefsP ws 0)) := ⟨by
    refine ⟨?_, ?_, ?_⟩
    · have h := R_fresh Kd.string 9 (w.alloc (.cells #[.slice none 0 0] 26)) w.heap.size ([tx []] : List ByteArray) _ (fun _ => True) (Kd.reps_scalar _) trivial (by simp) (by simp)
      rw [size_alloc] at h
      exact h
    · exact zi (blk_new w _) _
    · exact ((Below.refl _ w).alloc (Nat.le_refl _) _).alloc (by simp) _⟩
  go_loopg [3, 4] l0.length (fun q v3 v4 W => ∃ n : Nat, n + q = l0.length ∧ v4 = .int .i64 n ∧ zb (OfI w W w.heap.size v3 (prefsP ws n)))
  case atStart => exact ⟨0, by omega, rfl, H0⟩
  case round =>
    obtain ⟨n, hn, rfl, HI⟩ := hrel
    clear H0
    by_cases hlt : n < l0.length
    · obtain ⟨ad, hA, hcell⟩ := Kd.zza HR0.out (n : Int) (by omega) (by omega)
      subst hA
      simp only [Int.toNat_natCast] at hcell
      have hcw := (HI.out.2.2.cell (World.block_lt_of_cell? w _ hcell)).trans hcell
      have hsz : (rdOf ByteArray.empty l0 (n : Int)).size ≤ 262144 := by
        rw [HE.out, zMa]
        refine HM.out _ ?_
        have := HW.out
        rw [List.getD_eq_getElem?_getD, List.getElem?_eq_getElem (by simp; omega)]; exact List.getElem_mem _
      have HEn := zb.mk (HE.out (n : Int))
      obtain ⟨E, hE⟩ : ∃ E, E = rdOf ByteArray.empty l0 (n : Int) := ⟨_, rfl⟩
      rw [← hE] at hcell hcw hsz HEn
      have HcE := zb.mk hcell
      clear hE hcell hcw
      go_wp2
      go_loopg [3, 5] E.size (fun q v3 v5 W => ∃ k : Nat, k + q = E.size ∧ v5 = .int .i64 ((k : Int) + 1) ∧ zb (OfI w W w.heap.size v3 (prefP (prefsP ws n) (ws.getD n []) k)))
      case atStart => exact ⟨0, by omega, rfl, HI⟩
      case round =>
        obtain ⟨k, hk, rfl, HJ⟩ := hrel
        clear HI
        have hcw := (HJ.out.2.2.cell (World.block_lt_of_cell? w _ HcE.out)).trans HcE.out
        by_cases hkt : k < E.size
        · have hput : l2put.f ((prefP (prefsP ws n) (ws.getD n []) k).map tx) (E.extract 0 (k + 1)) = some ((prefP (prefsP ws n) (ws.getD n []) (k + 1)).map tx) := by
            have hb := prefsP_bound ws 262144 HM.out n (by have := HW.out; omega)
            have hm : (ws.getD n []).length ≤ 262144 := by have := hsz; rw [HEn.out, zMa] at this; simpa using this
            rw [prefP_succ, show E.extract 0 (k + 1) = tx ((ws.getD n []).take (k + 1)) by
              rw [HEn.out, tx_extract]; simp]
            refine l2put.tx _ _ ?_ ?_
            · have h1 := prefP_length (prefsP ws n) (ws.getD n []) k
              have h2 := hb.1
              have h3 : n * 262144 ≤ 262144 * 262144 := Nat.mul_le_mul_right _ (by omega)
              have h4 : k ≤ 262144 := by omega
              omega
            · intro x hx
              rcases prefP_mem hx with h | h
              · have := hb.2 x h; omega
              · omega
          have HP := zb.mk hput
          clear hput
          go_wp2_with (go_at_call 185; refine (l2put.calls (fun k_ => some k_ = Value.ownBlock _) _ _ (E.extract 0 (k + 1)) _ w _ HJ.out.2.2 (Kd.R_tight rfl HJ.out.1) HP.out).mono ?_; rintro e w1 ⟨v1, rfl, ho, hb, hkp⟩; have HK := zb.mk (HJ.out.put ho hb hkp); clear HJ ho hb hkp)
          go_roundg (E.size - (k + 1))
          case measure => omega
          case rel => exact ⟨k + 1, by omega, by simp, HK⟩
        · go_wp2
          go_outline
          go_roundg (l0.length - (n + 1))
          case measure => omega
          case rel => exact ⟨n + 1, by omega, by simp, by
            have hk' : k = (ws.getD n []).length := by
              have := hk; have h2 : E.size = (ws.getD n []).length := by rw [HEn.out, zMa]; simp
              omega
            rw [prefsP_succ ws n (by have := HW.out; omega), ← hk']; exact HJ⟩
    · go_wp2
      obtain rfl : n = l0.length := by omega
      have HP : prefsP ws l0.length = zha ws := by rw [← HW.out]; rfl
      rw [HP] at HI
      have HQ : (zha ws).length ≤ 1 + 262144 * 262144 ∧ ∀ x ∈ zha ws, x.length ≤ 262144 := by
        have := prefsP_bound ws 262144 HM.out ws.length (Nat.le_refl _)
        refine ⟨Nat.le_trans this.1 ?_, this.2⟩
        have : ws.length * 262144 ≤ 262144 * 262144 := Nat.mul_le_mul_right _ (by rw [HW.out]; exact hg1)
        omega
      have HQ := zb.mk HQ
      have HS := HI.out.2.2.size
      have HK : zb (OfK w ((wr.alloc (.cells #[] 73)).alloc (.cells #[.slice (some ⟨wr.heap.size, 0, none⟩) 0 0] 26)) (wr.heap.size + 1) u3 (zha ws) (.slice (some ⟨wr.heap.size, 0, none⟩) 0 0) (zTa (zha ws) ws 0)) := ⟨by
        refine ⟨?_, ?_, ?_, ?_, ?_, zi (zi HI.out.2.1 _) _⟩
        · exact Kd.zo (Kd.zo HI.out.1 _) _
        · have := blk_new (wr.alloc (.cells #[] 73)) (.cells #[.slice (some ⟨wr.heap.size, 0, none⟩) 0 0] 26)
          simpa using this
        · have h := R_fresh zXa 73 wr w.heap.size ([] : List zL) [] (fun _ => True) ⟨rfl, fun _ _ h => by simp at h⟩ trivial HS (by simp)
          exact Kd.zo h _
        · exact (HI.out.2.2.alloc HS _).alloc (by simp; omega) _
        · have := blk_lt HI.out.2.1
          omega⟩
      obtain ⟨g, hg⟩ : ∃ g, g = wr.heap.size + 1 := ⟨_, rfl⟩
      rw [← hg] at HK ⊢
      obtain ⟨w1, hw1⟩ : ∃ w1, w1 = (wr.alloc (.cells #[] 73)).alloc (.cells #[.slice (some ⟨wr.heap.size, 0, none⟩) 0 0] 26) := ⟨_, rfl⟩
      rw [← hw1] at HK ⊢
      clear hg hw1 HI HS
      obtain ⟨vN, hvN⟩ : ∃ vN, vN = Value.slice (some ⟨wr.heap.size, 0, none⟩) 0 0 := ⟨_, rfl⟩
      rw [← hvN] at HK
      clear hvN
      go_loopg [7] (zha ws).length (fun q v7 W => ∃ (i : Nat) (vN : Value), i + q = (zha ws).length ∧ v7 = .int .i64 i ∧ zb (OfK w W g u3 (zha ws) vN (zTa (zha ws) ws i)))
      case atStart => exact ⟨0, vN, by omega, rfl, HK⟩
      case round =>
        obtain ⟨i, vN, hi, rfl, HL⟩ := hrel
        clear HK
        obtain ⟨AP, cP, hv, hlc, hC⟩ := Kd.R_reads HL.out.1
        rw [List.length_map] at hv hlc hC
        subst hv
        by_cases hlt : i < (zha ws).length
        · obtain ⟨ad, rfl, hcell⟩ := Kd.zza hC (i : Int) (by omega) (by omega)
          rw [rdOf_tx] at hcell
          simp only [Int.toNat_natCast] at hcell
          obtain ⟨p, hp⟩ : ∃ p, p = (zha ws).getD i [] := ⟨_, rfl⟩
          rw [← hp] at hcell
          have hlp : p.length ≤ 262144 := HQ.out.2 p (by rw [hp, List.getD_eq_getElem?_getD, List.getElem?_eq_getElem hlt]; exact List.getElem_mem _)
          obtain ⟨E, hE⟩ : ∃ E, E = tx p := ⟨_, rfl⟩
          obtain ⟨kh, hkh⟩ := (l2Has_ev ws p (by have := HW.out; omega)).get
          rw [← HL'.out, ← hE] at hkh
          obtain ⟨bE, hbE⟩ : ∃ b, b = decide (p ∈ ws) := ⟨_, rfl⟩
          rw [← hbE] at hkh
          rw [← hE] at hcell
          have hHas := zb.mk hkh
          have hps := zb.mk (show E.size = p.length by rw [hE, zMa])
          have hpp := zb.mk hp
          have hEE := zb.mk hE
          have hbb := zb.mk hbE
          clear hE hbE hkh hp
          have HR1 : zb (Kd.string.C wr A0 l0.length l0) := ⟨Kd.zV HR0.out HL.out.bel⟩
          obtain ⟨AN, cN, hvN⟩ := Kd.zpa HL.out.nod
          subst hvN
          by_cases h0 : i = 0
          · have h0d : ¬ 0 < i := by omega
            replace h0 := zb.mk h0
            go_wp2_with (first | (go_at_call 119; refine (zcb.calls kh _ _ l0 E bE _ ?side1 HC0.out hHas.out).mono ?_; (case side1 => first | exact HR1.out | exact Kd.zV HR1.out (zg (Below.refl _ _) _)); rintro e w1 ⟨rfl, hd⟩; obtain ⟨nd, hw2⟩ := hd.out; clear hd; have HL2 := zb.mk (HL.out.drawn nd); rw [← hw2] at HL2; clear hw2 HL HR1; have HN := zb.mk (HL2.out.node ⟨-1, -1, bE⟩); have c0_ : (w1.alloc (.cells #[.int .i64 (-1), .int .i64 (-1), .bool bE] 73)).cell? ⟨g, 0, none⟩ = some (.slice AN (zTa (zha ws) ws i).length cN) := zD HN.out.box 0; have f0_ := zz HN.out.box 0; have f1_ := zz HN.out.nbx 0; have f2_ := zz HN.out.nbx 1; have ng_ := HN.out.ng; have ng'_ := ng_.symm) | ((with_reducible refine zZa (b := .append) (xs := #[.tmp 69, .tmp 71]) rfl ?_); at_builtin; refine Kd.R_append zXa (w0 := w) w.heap.size rfl (.tmp 69) (.tmp 71) 24 73 (.agg #[.int .i64 0, .int .i64 0, .bool false]) 24 rfl Tryz.underlying24 info73 rfl (by decide) (by omega) (.slice AN (zTa (zha ws) ws i).length cN) (zTa (zha ws) ws i) (⟨-1, -1, bE⟩ : zL) [.int .i64 (-1), .int .i64 (-1), .bool bE] (fun k => k ≠ w1.heap.size) (fun _ => False) rfl (by first | (go_simp; done) | (go_simp; rfl)) (k_Node_mkM _ _ _ _) (fun _ hk => hk.elim) ?aF HN.out.nod HN.out.bel HN.out.bel.size ?aL ?_; (case aF => exact fun k hk => Nat.ne_of_gt (Nat.lt_of_lt_of_le (blk_lt HN.out.nbx) hk)); (case aL => rw [nodesP_len]; have := HQ.out.1; omega); intro v1 w4 ho hb hg hat; obtain ⟨A1, c1, e1⟩ := Kd.zpa ho; subst e1; have HB4 := zb.mk (HN.out.back ho hb hg); clear ho hb hg hat; have c4_ : w4.cell? ⟨g, 0, none⟩ = some (.slice AN (zTa (zha ws) ws i).length cN) := zD HB4.out.1 0; have f4_ := zz HB4.out.1 0))
            go_outline
            go_roundg ((zha ws).length - (i + 1))
            case measure => omega
            case rel =>
              have hq := HB4.out.2
              simp only [List.length_append, List.length_singleton] at hq
              rw [show zTa (zha ws) ws i ++ [⟨-1, -1, bE⟩] = zTa (zha ws) ws (i + 1) by
                rw [nodesP_succ]; unfold nodeP; rw [if_pos h0.out, ← hpp.out, ← hbb.out]] at hq
              exact ⟨i + 1, _, by omega, by simp, ⟨hq⟩⟩
          · have h0d : 0 < i := by omega
            have hpl : 0 < p.length := by
              have := HG.out p (by
                rw [hpp.out, List.getD_eq_getElem?_getD]
                rcases hpr : zha ws with _ | ⟨q0, qs⟩
                · rw [hpr] at hlt; simp at hlt
                · rw [hpr] at hlt
                  obtain ⟨i', rfl⟩ : ∃ i', i = i' + 1 := ⟨i - 1, by omega⟩
                  have hq : i' < qs.length := by simpa using hlt
                  simp [List.getElem?_eq_getElem hq])
              exact List.length_pos_iff.2 this
            obtain ⟨m, hm⟩ : ∃ m, p.length = m + 1 := ⟨p.length - 1, by omega⟩
            have hEm : E.size = m + 1 := by rw [hps.out, hm]
            have wj : IntKind.i64.wrap ((E.size : Int) - 1) = (m : Int) := by rw [hEm, zva, zSa (by omega) (by omega)]; omega
            have pj := eq_true (show 0 ≤ (m : Int) by omega)
            have qj := eq_true (show (m : Int) < (E.size : Int) by omega)
            have hx := bt_at E m
            replace h0 := zb.mk h0
            obtain ⟨bv, hbv⟩ : ∃ bv, (((E[m]'(by omega)).toNat : Int) - 97) % 256 = bv := ⟨_, rfl⟩
            have hbV := zb.mk hbv
            have hX : zb (E.extract 0 m = tx (p.take m)) := ⟨by rw [hEE.out, tx_extract]; simp⟩
            go_wp2_with (first | (go_at_call 119; refine (zcb.calls kh _ _ l0 E bE _ ?side1 HC0.out hHas.out).mono ?_; (case side1 => first | exact HR1.out | exact Kd.zV HR1.out (zg (Below.refl _ _) _)); rintro e w1 ⟨rfl, hd⟩; obtain ⟨nd, hw2⟩ := hd.out; clear hd; have HL2 := zb.mk (HL.out.drawn nd); rw [← hw2] at HL2; clear hw2 HL HR1; have HN := zb.mk (HL2.out.node ⟨-1, -1, bE⟩); have c0_ : (w1.alloc (.cells #[.int .i64 (-1), .int .i64 (-1), .bool bE] 73)).cell? ⟨g, 0, none⟩ = some (.slice AN (zTa (zha ws) ws i).length cN) := zD HN.out.box 0; have f0_ := zz HN.out.box 0; have f1_ := zz HN.out.nbx 0; have f2_ := zz HN.out.nbx 1; have ng_ := HN.out.ng; have ng'_ := ng_.symm) | (go_at_call 189; rw [hX.out]; have HN3 := zb.mk (HL2.out.node ⟨bv, -1, bE⟩); refine (l2Place_calls (zha ws) (p.take m) (some ad) cP _ (by simpa using (Kd.zQ HN3.out.pre).2.2) hlc (by have := HQ.out.1; omega)).mono ?_; rintro e w2 ⟨rfl, hd2⟩; obtain ⟨n2, hw2⟩ := hd2.out; clear hd2; have HN4 := zb.mk (HN3.out.drawn n2); rw [← hw2] at HN4; clear hw2 HN3; have d0_ : w2.cell? ⟨w1.heap.size, 0, none⟩ = some (.int .i64 bv) := zD HN4.out.nbx 0; have d1_ : w2.cell? ⟨w1.heap.size, 1, none⟩ = some (.int .i64 (-1)) := zD HN4.out.nbx 1; have d2_ : w2.cell? ⟨w1.heap.size, 2, none⟩ = some (.bool bE) := zD HN4.out.nbx 2; have d3_ := zz HN4.out.nbx 1; have d4_ : w2.cell? ⟨g, 0, none⟩ = some (.slice AN (zTa (zha ws) ws i).length cN) := zD HN4.out.box 0; have HN5 := zb.mk (HN4.out.set 1 (.int .i64 (placeW (zha ws) (p.take m))) ⟨bv, placeW (zha ws) (p.take m), bE⟩ rfl)) | ((with_reducible refine zZa (b := .append) (xs := #[.tmp 69, .tmp 71]) rfl ?_); at_builtin; refine Kd.R_append zXa (w0 := w) w.heap.size rfl (.tmp 69) (.tmp 71) 24 73 (.agg #[.int .i64 0, .int .i64 0, .bool false]) 24 rfl Tryz.underlying24 info73 rfl (by decide) (by omega) (.slice AN (zTa (zha ws) ws i).length cN) (zTa (zha ws) ws i) (⟨bv, placeW (zha ws) (p.take m), bE⟩ : zL) [.int .i64 bv, .int .i64 (placeW (zha ws) (p.take m)), .bool bE] (fun k => k ≠ w1.heap.size) (fun _ => False) rfl (by first | (go_simp; done) | (go_simp; rfl)) (k_Node_mkM _ _ _ _) (fun _ hk => hk.elim) ?aF HN5.out.nod HN5.out.bel HN5.out.bel.size ?aL ?_; (case aF => exact fun k hk => Nat.ne_of_gt (Nat.lt_of_lt_of_le (blk_lt HN5.out.nbx) hk)); (case aL => rw [nodesP_len]; have := HQ.out.1; omega); intro v1 w4 ho hb hg hat; obtain ⟨A1, c1, e1⟩ := Kd.zpa ho; subst e1; have HB4 := zb.mk (HN5.out.back ho hb hg); clear ho hb hg hat; have c4_ : w4.cell? ⟨g, 0, none⟩ = some (.slice AN (zTa (zha ws) ws i).length cN) := zD HB4.out.1 0; have f4_ := zz HB4.out.1 0))
            go_roundg ((zha ws).length - (i + 1))
            case measure => omega
            case rel =>
              have hq := HB4.out.2
              simp only [List.length_append, List.length_singleton] at hq
              rw [show zTa (zha ws) ws i ++ [⟨bv, placeW (zha ws) (p.take m), bE⟩] = zTa (zha ws) ws (i + 1) by
                rw [nodesP_succ]; unfold nodeP; rw [if_neg h0.out, ← hpp.out, ← hbb.out, hm, Nat.add_sub_cancel, ← hbV.out]
                have h1 : ((E[m]'(by omega)).toNat : Int) = bt E (m : Int) := bt_at E m (by simp; omega)
                have h2 : bt E (m : Int) = ((p.getD m 0).toNat : Int) := by rw [hEE.out, tx_bt]; simp
                rw [h1, h2]] at hq
              exact ⟨i + 1, _, by omega, by simp, ⟨hq⟩⟩
        · have hb0 : wr.cell? ⟨g, 0, none⟩ = some vN := zD HL.out.box 0
          have hb1 : wr.cell? ⟨w.heap.size, 0, none⟩ = some (.slice none 0 0) := zD HL.out.res 0
          have hf1 := zz HL.out.res 0
          obtain ⟨AN, cN, rfl⟩ := Kd.zpa HL.out.nod
          go_wp2
          refine bodyPost_ret (results_cell_row rfl _ _ w.heap.size 26 #[.slice AN _ cN] (0, 0) _ rfl (blk_put (cs := #[.slice none 0 0]) HL.out.res 0 _ rfl) Tryz.underlying26 rfl (by kernel_rfl)) rfl ?_
          refine ⟨_, rfl, ?_, ?_⟩
          · obtain rfl : i = (zha ws).length := by omega
            exact Kd.R_set HL.out.nod HL.out.res (by decide) 0 _
          · exact zh HL.out.bel (Nat.le_refl _)
end Go.Proofs.YtfabennfhmlihaaGreatDoor.P
end
section
namespace Go.Proofs.YtfabennfhmlihaaGreatDoor.P
open Go.RowKit Go.Proofs.YtfabennfhmlihaaGreatDoorW.zJ Go.Proofs.YtfabennfhmlihaaGreatDoorW.zU Go.Proofs.YtfabennfhmlihaaGreatDoorW.PrintMore
set_option linter.unusedVariables false
set_option linter.unusedSimpArgs false
def zea.f (k : Nat) (l0_0 : List (zL)) : Option (Bool) := (spec_l1In.f (l0_0.length : Int) 1 481).bind fun t272 => (if t272 = true then ((zW.f k l0_0).bind fun t273 => ((zNa.f k t273).bind fun bt276 => (if bt276.2 = true then ((l2of.f bt276.1).bind fun t280 => ((zBa.f k t280 l0_0).bind fun t283 => (some t283))) else (some false)))) else (some false))
def zea.T4 : Bool × List (List Nat × List Nat) := (true, [([], []), ([0], [0]), ([1], [1]), ([2, 1, 1], [1, 2]), ([1], [1]), ([3, 4, 3, 1], [1, 3, 4]), ([1, 5], [1, 5]), ([6, 5, 0, 1, 2, 3, 4, 5, 6], [6])])
def zea.B4 : List Nat := [0, 1, 3, 7, 3, 31, 63, 127]
theorem zea.tab4 : rtab .any (opsOf Tryz.f118 4) = zea.T4 := by kernel_rfl
theorem zea.bits4 : waitsOk zea.T4.2 zea.B4 = true := by kernel_rfl
set_option maxHeartbeats 8000000 in
set_option maxRecDepth 100000 in
theorem zea.calls (k : Nat) (A0_0 : Option Addr) (c0_0 : Nat) (l0_0 : List (zL)) (r : Bool) (w : World) (hr0_0 : Kd.C zXa w A0_0 l0_0.length l0_0) (hc0_0 : l0_0.length ≤ c0_0) (h : zea.f k l0_0 = some r) :
    Calls Tryz.prog 118 #[.agg #[.slice A0_0 l0_0.length c0_0]] w fun e w' => e = .returned (.bool r) ∧ Below w.heap.size w w' := by
  have hu26 := Tryz.underlying26
  have HR0_0 := zb.mk hr0_0
  have HC0_0 := zb.mk hc0_0
  clear hr0_0 hc0_0
  have HB := zb.mk (Below.refl w.heap.size w)
  have H : ((spec_l1In.f (l0_0.length : Int) 1 481).bind fun t272 => (if t272 = true then ((zW.f k l0_0).bind fun t273 => ((zNa.f k t273).bind fun bt276 => (if bt276.2 = true then ((l2of.f bt276.1).bind fun t280 => ((zBa.f k t280 l0_0).bind fun t283 => (some t283))) else (some false)))) else (some false))) = some r := h
  clear h
  replace H := Option.bind_eq_some_iff.mp H
  obtain ⟨t272, A20, H⟩ := H
  replace H : (if t272 = true then ((zW.f k l0_0).bind fun t273 => ((zNa.f k t273).bind fun bt276 => (if bt276.2 = true then ((l2of.f bt276.1).bind fun t280 => ((zBa.f k t280 l0_0).bind fun t283 => (some t283))) else (some false)))) else (some false)) = some r := H
  have A2 := zb.mk A20
  clear A20
  refine (Classical.em (t272 = true)).elim (fun c3 => ?Pc3) (fun c3 => ?Nc3)
  case' Pc3 =>
   subst c3
   have H1 : ((zW.f k l0_0).bind fun t273 => ((zNa.f k t273).bind fun bt276 => (if bt276.2 = true then ((l2of.f bt276.1).bind fun t280 => ((zBa.f k t280 l0_0).bind fun t283 => (some t283))) else (some false)))) = some r := by rw [if_pos rfl] at H; exact H
   clear H
   have H := H1
   clear H1
   replace H := Option.bind_eq_some_iff.mp H
   obtain ⟨t273, A40, H⟩ := H
   replace H : ((zNa.f k t273).bind fun bt276 => (if bt276.2 = true then ((l2of.f bt276.1).bind fun t280 => ((zBa.f k t280 l0_0).bind fun t283 => (some t283))) else (some false))) = some r := H
   have A4 := zb.mk A40
   clear A40
   replace H := Option.bind_eq_some_iff.mp H
   obtain ⟨⟨t276, t277⟩, A50, H⟩ := H
   replace H : (if t277 = true then ((l2of.f t276).bind fun t280 => ((zBa.f k t280 l0_0).bind fun t283 => (some t283))) else (some false)) = some r := H
   have A5 := zb.mk A50
   clear A50
   refine (Classical.em (t277 = true)).elim (fun c6 => ?Pc6) (fun c6 => ?Nc6)
   case' Pc6 =>
    subst c6
    have H1 : ((l2of.f t276).bind fun t280 => ((zBa.f k t280 l0_0).bind fun t283 => (some t283))) = some r := by rw [if_pos rfl] at H; exact H
    clear H
    have H := H1
    clear H1
    replace H := Option.bind_eq_some_iff.mp H
    obtain ⟨t280, A70, H⟩ := H
    replace H : ((zBa.f k t280 l0_0).bind fun t283 => (some t283)) = some r := H
    have A7 := zb.mk A70
    clear A70
    replace H := Option.bind_eq_some_iff.mp H
    obtain ⟨t283, A80, H⟩ := H
    replace H : (some t283) = some r := H
    have A8 := zb.mk A80
    clear A80
    obtain rfl := Option.some.inj H
   case' Nc6 =>
    replace c6 := Bool.eq_false_iff.mpr c6
    subst c6
    have H1 : (some false) = some r := by rw [if_neg (show ¬ (false = true) by decide)] at H; exact H
    clear H
    have H := H1
    clear H1
    obtain rfl := Option.some.inj H
  case' Nc3 =>
   replace c3 := Bool.eq_false_iff.mpr c3
   subst c3
   have H1 : (some false) = some r := by rw [if_neg (show ¬ (false = true) by decide)] at H; exact H
   clear H
   have H := H1
   clear H1
   obtain rfl := Option.some.inj H
  all_goals go_enter Tryz.func118, Tryz.ntmps118
  all_goals try go_wp2_with (first | ((with_reducible refine zoa (N := 1) rfl ?_); refine zEa ?hg (N := 1) ?hd (cs := #[.slice A0_0 l0_0.length c0_0]) (t := 26) ?hr ?_; (case hd => rfl); (case hg => rfl); (case hr => first | (go_simp; done) | (go_simp; rfl)); intro gb271 hg w_1 hbox hb; have n0_ := zb.mk (zw (by repeat (first | (with_reducible first | exact HB.out | apply zg | apply ze | apply zf) | exact HB.out)) hb); have n1_ := zb.mk (hbox); have n2_ := zb.mk ((by rw [hg]; exact (zt (by repeat (first | (with_reducible first | exact HB.out | apply zg | apply ze | apply zf) | exact HB.out))) : w.heap.size ≤ gb271)); have n3_ := zb.mk ((by rw [hg]; exact (zt (by repeat (first | (with_reducible first | exact HB.out | apply zg | apply ze | apply zf) | exact HB.out))) : w.heap.size ≤ gb271)); clear HB; have HB := n0_; have BK271 := n1_; have GW271 := n2_; have GE271 := n3_; clear n0_ n1_ n2_ n3_; clear hb hbox hg; have hcz_1_0 : w_1.cell? ⟨gb271, 0, none⟩ = some (.slice A0_0 l0_0.length c0_0) := (zD BK271.out 0).trans rfl; have hfz_1_0 := zz BK271.out 0) | ((with_reducible refine zH (f := 137) rfl ?_); refine zra (some 8) rfl rfl Tryz.func137 (by kernel_rfl) rfl #[.int .i64 (l0_0.length : Int), .int .i64 1, .int .i64 481] rfl (by (try simp only [List.map_toArray, List.map_cons, List.map_nil]); first | done | rfl | (simp only [List.length_drop, List.length_take]; rfl)) ?_; (with_reducible refine (spec_l1In.calls (l0_0.length : Int) 1 481 _ _ A2.out).mono ?_); rintro e w' ⟨rfl, ⟨nd, rfl⟩⟩; refine ⟨_, rfl, ?_⟩))
  rotate_left 1
  iterate 2 ((focus ((first | (go_at_call 120; (with_reducible refine (zW.calls k _ _ l0_0 t273 _ ?side1 ?side2 A4.out).mono ?_); (case side1 => repeat (first | exact (Kd.zV HR0_0.out (by repeat (first | (with_reducible first | exact HB.out | apply zg | apply ze | apply zf | refine zh ?_ GE271.out) | exact HB.out))) | (with_reducible refine Kd.zga ?_ _) | (with_reducible refine Kd.zia ?_ _) | (with_reducible refine Kd.zAa ?_))); (case side2 => exact HC0_0.out); rintro e w_2 ⟨v274, rfl, ho_1, hb⟩; have n0_ := zb.mk (Kd.zua ho_1 (zt (by repeat (first | (with_reducible first | exact HB.out | apply zg | apply ze | apply zf | refine zh ?_ GE271.out) | exact HB.out)))); have n1_ := zb.mk (zG (g := gb271) (o := .cells #[.slice A0_0 l0_0.length c0_0] 26 (0, 0)) (by (with_reducible repeat (first | refine zk ?_ _ | refine zm ?_ | refine zi ?_ _)); exact BK271.out) hb); have n2_ := zb.mk (zw (by repeat (first | (with_reducible first | exact HB.out | apply zg | apply ze | apply zf | refine zh ?_ GE271.out) | exact HB.out)) hb); clear BK271; clear HB; have HO275 := n0_; have BK271 := n1_; have HB := n2_; clear n0_ n1_ n2_; (try clear hb); (try clear hb_1); (try clear hk); (try clear hi); (try clear ho_1); obtain ⟨Ao_1, co_1, eo_1⟩ := Kd.zpa HO275.out; subst eo_1) | skip); try go_wp2_with (first | ((with_reducible refine zH (f := 182) rfl ?_); refine zra (some 13) rfl rfl Tryz.func182 (by kernel_rfl) rfl #[.slice Ao_1 t273.length co_1] rfl (by (try simp only [List.map_toArray, List.map_cons, List.map_nil]); first | done | rfl | (simp only [List.length_drop, List.length_take]; rfl)) ?_; (with_reducible refine (zNa.calls k _ _ t273 t276 _ _ ?side1 ?side2 A5.out).mono ?_); (case side1 => repeat (first | exact (Kd.zQ HO275.out).2.2 | (with_reducible refine Kd.zga ?_ _) | (with_reducible refine Kd.zia ?_ _) | (with_reducible refine Kd.zAa ?_))); (case side2 => exact (Kd.zQ HO275.out).2.1); rintro e w_3 ⟨v278, rfl, ho_1, hb⟩; refine ⟨_, rfl, ?_⟩; have n0_ := zb.mk (Kd.R_elder' (by (with_reducible repeat (first | apply Kd.zo | apply Kd.zq | apply Kd.zA)); exact HO275.out) (Kd.R_base ho_1) hb); have n1_ := zb.mk (Kd.zua (Kd.R_new' ho_1 (Kd.R_lt (by (with_reducible repeat (first | apply Kd.zo | apply Kd.zq | apply Kd.zA)); exact HO275.out))) (zt (by repeat (first | (with_reducible first | exact HB.out | apply zg | apply ze | apply zf | refine zh ?_ GE271.out) | exact HB.out)))); have n2_ := zb.mk (zG (g := gb271) (o := .cells #[.slice A0_0 l0_0.length c0_0] 26 (0, 0)) (by (with_reducible repeat (first | refine zk ?_ _ | refine zm ?_ | refine zi ?_ _)); exact BK271.out) hb); have n3_ := zb.mk (zw (by repeat (first | (with_reducible first | exact HB.out | apply zg | apply ze | apply zf | refine zh ?_ GE271.out) | exact HB.out)) hb); clear HO275; clear BK271; clear HB; have HO275 := n0_; have HO279 := n1_; have BK271 := n2_; have HB := n3_; clear n0_ n1_ n2_ n3_; (try clear hb); (try clear hb_1); (try clear hk); (try clear hi); (try clear ho_1))))); rotate_left 1)
  ·go_ret
   exact ⟨by first | rfl | (simp [zC, zB] <;> rfl) | (simp [*, zC, zB] <;> rfl), by repeat (first | (with_reducible first | exact HB.out | apply zg | apply ze | apply zf | refine zh ?_ GE271.out) | exact HB.out)⟩
  ·have n0_ := zb.mk (Kd.zA HO275.out)
   have n1_ := zb.mk (Kd.zA HO279.out)
   have n2_ := zb.mk (zm BK271.out)
   have n3_ := zb.mk (zf HB.out)
   clear HO275
   clear HO279
   clear BK271
   clear HB
   have HO275 := n0_
   have HO279 := n1_
   have BK271 := n2_
   have HB := n3_
   clear n0_ n1_ n2_ n3_
   refine start_ (n := 8) (S := fun w' => True) (ds := []) #[false, false, false, false, false, false, false, false] (by kernel_rfl) rfl rfl trivial (fun hHeld => ?_); refine with_tabW zea.tab4 zea.bits4 (fun HT_ HW_ => ?_)
   generalize w_3.drew = w_4 at HO275 HO279 BK271 HB hHeld ⊢
   refine zib (i := 0) (N := some 16) (v := ?_) (a' := ?_) #[true, false, false, false, false, false, false, false] rfl rfl (zVa HT_.out (by kernel_rfl)) (fun _ _ _ h => h) (Or.inl ⟨by rfl, ?_⟩) ?_ ?_
   rotate_left
   · intro w'
     go_simp
     with_reducible rfl
   rotate_left
   · simp only [Act.put, List.setIfInBounds_toArray, List.set_cons_zero, List.set_cons_succ, zva]
     rfl
   refine zib (i := 1) (N := some 17) (v := ?_) (a' := ?_) #[true, true, false, false, false, false, false, false] rfl rfl (zVa HT_.out (by kernel_rfl)) (fun _ _ _ h => h) (Or.inl ⟨by rfl, ?_⟩) ?_ ?_
   rotate_left
   · intro w'
     go_simp
     with_reducible rfl
   rotate_left
   · simp only [Act.put, List.setIfInBounds_toArray, List.set_cons_zero, List.set_cons_succ, zva]
     rfl
   refine zib (i := 2) (N := some 18) (v := undef) (a' := ?_) #[true, true, true, false, false, false, false, false] rfl rfl (zVa HT_.out (by kernel_rfl)) (fun _ _ _ h => h) (Or.inr ⟨by rfl, rfl⟩) ?_ ?_
   rotate_left
   · simp only [Act.put, List.setIfInBounds_toArray, List.set_cons_zero, List.set_cons_succ, zva]
     rfl
   refine zib (i := 3) (N := some 19) (v := undef) (a' := ?_) #[true, true, true, true, false, false, false, false] rfl rfl (zVa HT_.out (by kernel_rfl)) (fun _ _ _ h => h) (Or.inr ⟨by rfl, rfl⟩) ?_ ?_
   rotate_left
   · simp only [Act.put, List.setIfInBounds_toArray, List.set_cons_zero, List.set_cons_succ, zva]
     rfl
   refine zib (i := 4) (N := some 20) (v := undef) (a' := ?_) #[true, true, true, true, true, false, false, false] rfl rfl (zVa HT_.out (by kernel_rfl)) (fun _ _ _ h => h) (Or.inr ⟨by rfl, rfl⟩) ?_ ?_
   rotate_left
   · simp only [Act.put, List.setIfInBounds_toArray, List.set_cons_zero, List.set_cons_succ, zva]
     rfl
   refine zib (i := 5) (N := some 21) (v := undef) (a' := ?_) #[true, true, true, true, true, true, false, false] rfl rfl (zVa HT_.out (by kernel_rfl)) (fun _ _ _ h => h) (Or.inr ⟨by rfl, rfl⟩) ?_ ?_
   rotate_left
   · simp only [Act.put, List.setIfInBounds_toArray, List.set_cons_zero, List.set_cons_succ, zva]
     rfl
   refine zib (i := 6) (N := some 22) (v := ?_) (a' := ?_) #[true, true, true, true, true, true, true, false] rfl rfl (zVa HT_.out (by kernel_rfl)) (fun _ _ _ h => h) (Or.inl ⟨by rfl, ?_⟩) ?_ ?_
   rotate_left
   · intro w'
     go_simp
     with_reducible rfl
   rotate_left
   · simp only [Act.put, List.setIfInBounds_toArray, List.set_cons_zero, List.set_cons_succ, zva]
     rfl
   refine zib (i := 7) (N := some 2) (v := ?_) (a' := ?_) #[true, true, true, true, true, true, true, true] rfl rfl (zVa HT_.out (by kernel_rfl)) (fun _ _ _ h => h) (Or.inl ⟨by rfl, ?_⟩) ?_ ?_
   rotate_left
   · intro w'
     go_simp
     with_reducible rfl
   rotate_left
   · simp only [Act.put, List.setIfInBounds_toArray, List.set_cons_zero, List.set_cons_succ, zva]
     rfl
   refine done_ (done_of HT_.out (by kernel_rfl)) ?_
   try go_wp2
   go_ret
   exact ⟨by first | rfl | (simp [zC, zB] <;> rfl) | (simp [*, zC, zB] <;> rfl), by repeat (first | (with_reducible first | exact HB.out | apply zg | apply ze | apply zf | refine zh ?_ GE271.out) | exact HB.out)⟩
  ·have n0_ := zb.mk (Kd.zA HO275.out)
   have n1_ := zb.mk (Kd.zA HO279.out)
   have n2_ := zb.mk (zm BK271.out)
   have n3_ := zb.mk (zf HB.out)
   clear HO275
   clear HO279
   clear BK271
   clear HB
   have HO275 := n0_
   have HO279 := n1_
   have BK271 := n2_
   have HB := n3_
   clear n0_ n1_ n2_ n3_
   obtain ⟨Ao_2, co_2, eo_2⟩ := Kd.zpa HO279.out
   (first | subst eo_2 | (injection eo_2 with f1_ f2_ f3_; have f4_ := f1_.symm; have f5_ := f3_.symm; clear f1_ f2_ f3_; subst f4_; subst f5_))
   refine start_ (n := 8) (S := fun w' => w'.cell? ⟨gb271, 0, none⟩ = some (.slice A0_0 l0_0.length c0_0)) (ds := []) #[false, false, false, false, false, false, false, false] (by kernel_rfl) rfl rfl ((zD BK271.out 0).trans rfl) (fun hHeld => ?_); refine with_tabW zea.tab4 zea.bits4 (fun HT_ HW_ => ?_)
   generalize w_3.drew = w_4 at HO275 HO279 BK271 HB hHeld ⊢
   refine zib (i := 0) (N := some 16) (v := ?_) (a' := ?_) #[true, false, false, false, false, false, false, false] rfl rfl (zVa HT_.out (by kernel_rfl)) (fun _ _ _ h => h) (Or.inl ⟨by rfl, ?_⟩) ?_ ?_
   rotate_left
   · intro w'
     go_simp
     with_reducible rfl
   rotate_left
   · simp only [Act.put, List.setIfInBounds_toArray, List.set_cons_zero, List.set_cons_succ, zva]
     rfl
   refine zib (i := 1) (N := some 17) (v := ?_) (a' := ?_) #[true, true, false, false, false, false, false, false] rfl rfl (zVa HT_.out (by kernel_rfl)) (fun _ _ _ h => h) (Or.inl ⟨by rfl, ?_⟩) ?_ ?_
   rotate_left
   · intro w'
     go_simp
     with_reducible rfl
   rotate_left
   · simp only [Act.put, List.setIfInBounds_toArray, List.set_cons_zero, List.set_cons_succ, zva]
     rfl
   refine zib (i := 2) (N := some 18) (v := ?_) (a' := ?_) #[true, true, true, false, false, false, false, false] rfl rfl (zVa HT_.out (by kernel_rfl)) (fun _ _ _ h => h) (Or.inl ⟨by rfl, ?_⟩) ?_ ?_
   rotate_left
   · intro w'
     go_simp
     with_reducible rfl
   rotate_left
   · simp only [Act.put, List.setIfInBounds_toArray, List.set_cons_zero, List.set_cons_succ, zva]
     rfl
   refine take_ (i := 4) (N := some 20) (v := ?_) (a' := ?_) #[true, true, true, false, true, false, false, false] rfl rfl (take_ofW HT_.out HW_.out (by kernel_rfl)) (fun _ _ _ h => h) (Or.inl ⟨by rfl, ?_⟩) hHeld ?_ ?_
   rotate_left
   · intro w' s0
     go_simp
     with_reducible rfl
   rotate_left
   · simp only [Act.put, List.setIfInBounds_toArray, List.set_cons_zero, List.set_cons_succ, zva]
     rfl
   refine one_ (i := 3) (N := some 19) #[true, true, true, true, true, false, false, false] rfl rfl (one_of HT_.out (by kernel_rfl)) (by decide) (fun K hK => ?_)
   refine goes_ Tryz.func128 (by kernel_rfl) rfl #[.slice Ao_2 t276.length co_2] (by rfl) rfl rfl (by (try simp only [List.map_toArray, List.map_cons, List.map_nil]); first | done | rfl | (simp only [List.length_drop, List.length_take]; rfl)) ?_
   with_reducible refine (l2of.calls _ _ t276 t280 _ ?side1 ?side2 A7.out).mono ?_
   (case side1 => repeat (first | exact (Kd.zQ HO279.out).2.2 | (with_reducible refine Kd.zga ?_ _) | (with_reducible refine Kd.zia ?_ _) | (with_reducible refine Kd.zAa ?_)))
   (case side2 => exact (Kd.zQ HO279.out).2.1)
   rintro e w_5 ⟨v281, rfl, ho_1, hb⟩
   refine ⟨_, rfl, ?_⟩
   have n0_ := zb.mk (Kd.zta (by (with_reducible repeat (first | apply Kd.zo | apply Kd.zq | apply Kd.zA)); exact HO275.out) hb)
   have n1_ := zb.mk (Kd.zta (by (with_reducible repeat (first | apply Kd.zo | apply Kd.zq | apply Kd.zA)); exact HO279.out) hb)
   have n2_ := zb.mk (Kd.zua ho_1 (zt (by repeat (first | (with_reducible first | exact HB.out | apply zg | apply ze | apply zf | refine zh ?_ GE271.out) | exact HB.out))))
   have n3_ := zb.mk (zG (g := gb271) (o := .cells #[.slice A0_0 l0_0.length c0_0] 26 (0, 0)) (by (with_reducible repeat (first | refine zk ?_ _ | refine zm ?_ | refine zi ?_ _)); exact BK271.out) hb)
   have n4_ := zb.mk (zw (by repeat (first | (with_reducible first | exact HB.out | apply zg | apply ze | apply zf | refine zh ?_ GE271.out) | exact HB.out)) hb)
   clear HO275
   clear HO279
   clear BK271
   clear HB
   have HO275 := n0_
   have HO279 := n1_
   have HO282 := n2_
   have BK271 := n3_
   have HB := n4_
   clear n0_ n1_ n2_ n3_ n4_
   (try clear hb)
   (try clear hb_1)
   (try clear hk)
   (try clear hi)
   (try clear ho_1)
   obtain ⟨Ao_3, co_3, eo_3⟩ := Kd.zpa HO282.out
   (first | subst eo_3 | (injection eo_3 with f1_ f2_ f3_; have f4_ := f1_.symm; have f5_ := f3_.symm; clear f1_ f2_ f3_; subst f4_; subst f5_))
   refine hK.out _ _ ((zD BK271.out 0).trans rfl) (fun hHeld => ?_)
   clear hK K
   refine norm_ (a' := ?_) ?_ ?_
   rotate_left
   · show Act.put _ (some 19) _ = _
     simp only [Act.put, List.setIfInBounds_toArray, List.set_cons_zero, List.set_cons_succ, zva]
     rfl
   refine one_ (i := 5) (N := some 21) #[true, true, true, true, true, true, false, false] rfl rfl (one_of HT_.out (by kernel_rfl)) (by decide) (fun K hK => ?_)
   refine goes_ Tryz.func198 (by kernel_rfl) rfl #[.agg #[.slice Ao_3 t280.length co_3], .agg #[.slice A0_0 l0_0.length c0_0]] (by rfl) rfl rfl (by (try simp only [List.map_toArray, List.map_cons, List.map_nil]); first | done | rfl | (simp only [List.length_drop, List.length_take]; rfl)) ?_
   with_reducible refine (zBa.calls k _ _ t280 _ _ l0_0 t283 _ ?side1 ?side2 ?side3 ?side4 A8.out).mono ?_
   (case side1 => repeat (first | exact (Kd.zQ HO282.out).2.2 | (with_reducible refine Kd.zga ?_ _) | (with_reducible refine Kd.zia ?_ _) | (with_reducible refine Kd.zAa ?_)))
   (case side2 => exact (Kd.zQ HO282.out).2.1)
   (case side3 => repeat (first | exact (Kd.zV HR0_0.out HB.out) | (with_reducible refine Kd.zga ?_ _) | (with_reducible refine Kd.zia ?_ _) | (with_reducible refine Kd.zAa ?_)))
   (case side4 => exact HC0_0.out)
   rintro e w_6 ⟨rfl, hb⟩
   refine ⟨_, rfl, ?_⟩
   have n0_ := zb.mk (Kd.zta (by (with_reducible repeat (first | apply Kd.zo | apply Kd.zq | apply Kd.zA)); exact HO275.out) hb)
   have n1_ := zb.mk (Kd.zta (by (with_reducible repeat (first | apply Kd.zo | apply Kd.zq | apply Kd.zA)); exact HO279.out) hb)
   have n2_ := zb.mk (Kd.zta (by (with_reducible repeat (first | apply Kd.zo | apply Kd.zq | apply Kd.zA)); exact HO282.out) hb)
   have n3_ := zb.mk (zG (g := gb271) (o := .cells #[.slice A0_0 l0_0.length c0_0] 26 (0, 0)) (by (with_reducible repeat (first | refine zk ?_ _ | refine zm ?_ | refine zi ?_ _)); exact BK271.out) hb)
   have n4_ := zb.mk (zw (by repeat (first | (with_reducible first | exact HB.out | apply zg | apply ze | apply zf | refine zh ?_ GE271.out) | exact HB.out)) hb)
   clear HO275
   clear HO279
   clear HO282
   clear BK271
   clear HB
   have HO275 := n0_
   have HO279 := n1_
   have HO282 := n2_
   have BK271 := n3_
   have HB := n4_
   clear n0_ n1_ n2_ n3_ n4_
   (try clear hb)
   (try clear hb_1)
   (try clear hk)
   (try clear hi)
   refine hK.out _ _ ((zD BK271.out 0).trans rfl) (fun hHeld => ?_)
   clear hK K
   refine norm_ (a' := ?_) ?_ ?_
   rotate_left
   · show Act.put _ (some 21) _ = _
     simp only [Act.put, List.setIfInBounds_toArray, List.set_cons_zero, List.set_cons_succ, zva]
     rfl
   refine zib (i := 6) (N := some 22) (v := ?_) (a' := ?_) #[true, true, true, true, true, true, true, false] rfl rfl (zVa HT_.out (by kernel_rfl)) (fun _ _ _ h => h) (Or.inl ⟨by rfl, ?_⟩) ?_ ?_
   rotate_left
   · intro w'
     go_simp
     with_reducible rfl
   rotate_left
   · simp only [Act.put, List.setIfInBounds_toArray, List.set_cons_zero, List.set_cons_succ, zva]
     rfl
   refine zib (i := 7) (N := some 2) (v := ?_) (a' := ?_) #[true, true, true, true, true, true, true, true] rfl rfl (zVa HT_.out (by kernel_rfl)) (fun _ _ _ h => h) (Or.inl ⟨by rfl, ?_⟩) ?_ ?_
   rotate_left
   · intro w'
     go_simp
     with_reducible rfl
   rotate_left
   · simp only [Act.put, List.setIfInBounds_toArray, List.set_cons_zero, List.set_cons_succ, zva]
     rfl
   refine done_ (done_of HT_.out (by kernel_rfl)) ?_
   try go_wp2
   go_ret
   exact ⟨by first | rfl | (simp [zC, zB] <;> rfl) | (simp [*, zC, zB] <;> rfl), by repeat (first | (with_reducible first | exact HB.out | apply zg | apply ze | apply zf | refine zh ?_ GE271.out) | exact HB.out)⟩
end Go.Proofs.YtfabennfhmlihaaGreatDoor.P
end
section
namespace Go.Proofs.YtfabennfhmlihaaGreatDoor.P
open Go.RowKit Go.Proofs.YtfabennfhmlihaaGreatDoorW.zJ Go.Proofs.YtfabennfhmlihaaGreatDoorW.zU Go.Proofs.YtfabennfhmlihaaGreatDoorW.PrintMore
set_option linter.unusedVariables false
set_option linter.unusedSimpArgs false
def stringslite_HasPrefix.f (a0 : ByteArray) (a1 : ByteArray) : Option (Bool) := if (a0.size : Int) ≥ (a1.size : Int) then (if 0 ≤ (a1.size : Int) then (if (a1.size : Int) ≤ (a0.size : Int) then (some ((a0.extract 0 ((a1.size : Int) : Int).toNat).toList == a1.toList)) else (none)) else (none)) else (some false)
set_option maxHeartbeats 8000000 in
set_option maxRecDepth 100000 in
theorem stringslite_HasPrefix.calls (a0 : ByteArray) (a1 : ByteArray) (r : Bool) (w : World) (h : stringslite_HasPrefix.f a0 a1 = some r) :
  Calls Tryz.prog 219 #[.string a0, .string a1] w fun e w' => e = .returned (.bool r) ∧ zX w w' := by
 have H : (if (a0.size : Int) ≥ (a1.size : Int) then (if 0 ≤ (a1.size : Int) then (if (a1.size : Int) ≤ (a0.size : Int) then (some ((a0.extract 0 ((a1.size : Int) : Int).toNat).toList == a1.toList)) else (none)) else (none)) else (some false)) = some r := h
 clear h
 by_cases c3 : (a0.size : Int) ≥ (a1.size : Int)
 ·rw [if_pos c3] at H
  have c3b0 : decide ((a1.size : Int) ≤ (a0.size : Int)) = true := decide_eq_true c3
  have c3b1 : decide (a1.size ≤ a0.size) = true := decide_eq_true (Int.ofNat_le.mp c3)
  clear c3
  by_cases c4 : 0 ≤ (a1.size : Int)
  ·rw [if_pos c4] at H
   have c4b0 := eq_true c4
   have c4b1 : decide (0 ≤ (a1.size : Int)) = true := decide_eq_true c4
   clear c4
   by_cases c5 : (a1.size : Int) ≤ (a0.size : Int)
   ·rw [if_pos c5] at H
    have c5b0 := eq_true c5
    have c5b1 : decide ((a1.size : Int) ≤ (a0.size : Int)) = true := decide_eq_true c5
    clear c5
    obtain rfl := Option.some.inj H
    go_enter Tryz.func219, Tryz.ntmps219
    go_wp2
    go_ret
    exact ⟨by first | rfl | (simp; done) | (simp [*]; done), by repeat (first | exact zX.refl _ | apply zX.step)⟩
   ·rw [if_neg c5] at H
    exact absurd H (by simp)
  ·rw [if_neg c4] at H
   exact absurd H (by simp)
 ·rw [if_neg c3] at H
  have c3b0 : decide ((a1.size : Int) ≤ (a0.size : Int)) = false := decide_eq_false c3
  have c3b1 : decide (a1.size ≤ a0.size) = false := decide_eq_false (fun h => c3 (Int.ofNat_le.mpr h))
  clear c3
  obtain rfl := Option.some.inj H
  go_enter Tryz.func219, Tryz.ntmps219
  go_wp2
  go_ret
  exact ⟨by first | rfl | (simp; done) | (simp [*]; done), by repeat (first | exact zX.refl _ | apply zX.step)⟩
end Go.Proofs.YtfabennfhmlihaaGreatDoor.P
end
section
namespace Go.Proofs.YtfabennfhmlihaaGreatDoor.P
open Go.RowKit Go.Proofs.YtfabennfhmlihaaGreatDoorW.zJ Go.Proofs.YtfabennfhmlihaaGreatDoorW.zU Go.Proofs.YtfabennfhmlihaaGreatDoorW.PrintMore
set_option linter.unusedVariables false
set_option linter.unusedSimpArgs false
def strings_HasPrefix.f (a0 : ByteArray) (a1 : ByteArray) : Option (Bool) := (stringslite_HasPrefix.f a0 a1).bind fun t540 => (some t540)
set_option maxHeartbeats 8000000 in
set_option maxRecDepth 100000 in
theorem strings_HasPrefix.calls (a0 : ByteArray) (a1 : ByteArray) (r : Bool) (w : World) (h : strings_HasPrefix.f a0 a1 = some r) :
  Calls Tryz.prog 197 #[.string a0, .string a1] w fun e w' => e = .returned (.bool r) ∧ zX w w' := by
 have H : ((stringslite_HasPrefix.f a0 a1).bind fun t540 => (some t540)) = some r := h
 clear h
 replace H := Option.bind_eq_some_iff.mp H
 obtain ⟨t540, A30, H⟩ := H
 replace H : (some t540) = some r := H
 have A3 := zb.mk A30
 clear A30
 obtain rfl := Option.some.inj H
 go_enter Tryz.func197, Tryz.ntmps197
 go_wp2_with (first | ((with_reducible refine zH (f := 219) rfl ?_); refine zra (some 7) rfl rfl Tryz.func219 (by kernel_rfl) rfl #[.string a0, .string a1] rfl (by (try simp only [List.map_toArray, List.map_cons, List.map_nil]); first | done | rfl | (simp only [List.length_drop, List.length_take]; rfl)) ?_; (with_reducible refine (stringslite_HasPrefix.calls a0 a1 t540 _ A3.out).mono ?_); rintro e w' ⟨rfl, ⟨nd, rfl⟩⟩; refine ⟨_, rfl, ?_⟩))
 go_ret
 exact ⟨by first | rfl | (simp; done) | (simp [*]; done), by repeat (first | exact zX.refl _ | apply zX.step)⟩
end Go.Proofs.YtfabennfhmlihaaGreatDoor.P
end
section
namespace Go.Proofs.YtfabennfhmlihaaGreatDoor.P
open Go Go.RowKit Go.Proofs.YtfabennfhmlihaaGreatDoorW.zJ Go.Proofs.YtfabennfhmlihaaGreatDoorW.zU Go.Proofs.YtfabennfhmlihaaGreatDoorW.PrintMore
set_option linter.unusedVariables false
/-- The longest common beginning. -/
def lcpW : List UInt8 → List UInt8 → List UInt8
  | a :: s, b :: t => if a = b then a :: lcpW s t else []
  | _, _ => []
def impl_shared.f (l0 : List ByteArray) : Option ByteArray :=
  if 0 < l0.length ∧ ∀ b ∈ l0, b.size ≤ 4611686018427387904 then some (tx (lcpW (l0.headD ⟨#[]⟩).toList (l0.getLastD ⟨#[]⟩).toList)) else none
theorem lcpW_take (a b : List UInt8) (n : Nat) (h : ∀ j, j < n → a.getD j 0 = b.getD j 0 ) (ha : n ≤ a.length) (hb : n ≤ b.length) (hs : ¬ (n < a.length ∧ n < b.length ∧ a.getD n 0 = b.getD n 0)) : lcpW a b = a.take n := by
  induction n generalizing a b with
  | zero =>
    rcases a with _ | ⟨x, a⟩
    · rfl
    · rcases b with _ | ⟨y, b⟩
      · rfl
      · simp only [lcpW]
        rw [if_neg (fun e => hs ⟨by simp, by simp, by simpa using e⟩)]; rfl
  | succ n ih =>
    rcases a with _ | ⟨x, a⟩
    · simp at ha
    · rcases b with _ | ⟨y, b⟩
      · simp at hb
      · have e : x = y := by simpa using h 0 (by omega)
        simp only [lcpW, if_pos e, List.take_succ_cons]
        congr 1
        refine ih a b (fun j hj => by simpa using h (j + 1) (by omega)) (by simpa using ha) (by simpa using hb) (fun hc => hs ⟨by simpa using hc.1, by simpa using hc.2.1, by simpa using hc.2.2⟩)
theorem shared_ret (X Y : ByteArray) (n : Nat) (h : ∀ j : Nat, j < n → bt X j = bt Y j) (hx : n ≤ X.size) (hy : n ≤ Y.size) (hs : ¬ (n < X.size ∧ n < Y.size ∧ bt X n = bt Y n)) : X.extract 0 n = tx (lcpW X.toList Y.toList) := by
  have e1 : X = tx X.toList := tx_surj X
  have e2 : Y = tx Y.toList := tx_surj Y
  have l1 : X.toList.length = X.size := by conv => rhs; rw [e1, zMa]
  have l2 : Y.toList.length = Y.size := by conv => rhs; rw [e2, zMa]
  have b1 : ∀ j : Nat, bt X j = ((X.toList.getD j 0).toNat : Int) := fun j => by conv => lhs; rw [e1, tx_bt]; simp only [Int.toNat_natCast]
  have b2 : ∀ j : Nat, bt Y j = ((Y.toList.getD j 0).toNat : Int) := fun j => by conv => lhs; rw [e2, tx_bt]; simp only [Int.toNat_natCast]
  have inj : ∀ a b : UInt8, ((a.toNat : Int) = (b.toNat : Int)) ↔ a = b := fun a b => by rw [Int.ofNat_inj, UInt8.toNat_inj]
  rw [lcpW_take X.toList Y.toList n (fun j hj => by rw [← inj, ← b1, ← b2]; exact h j hj) (by omega) (by omega) (fun hc => hs ⟨by omega, by omega, by rw [b1, b2, inj]; exact hc.2.2⟩)]
  conv => lhs; rw [e1, tx_extract]
  rfl
set_option maxRecDepth 100000 in
set_option maxHeartbeats 2000000 in
theorem impl_shared.calls (A0 : Option Addr) (c0 : Nat) (l0 : List ByteArray) (r : ByteArray) (w : World) (hr0 : Kd.C Kd.string w A0 l0.length l0) (hc0 : l0.length ≤ c0) (h : impl_shared.f l0 = some r) :
    Calls Tryz.prog 124 #[.slice A0 l0.length c0] w fun e w' => e = .returned (.string r) ∧ zX w w' := by
  unfold impl_shared.f at h
  split at h
  case isFalse => cases h
  rename_i hg
  obtain rfl := Option.some.inj h
  clear h
  obtain ⟨h0, hsz⟩ := hg
  have hlm := hr0.2.1
  obtain ⟨ad, rfl, hx0⟩ := Kd.zza hr0 0 (Int.le_refl _) (by omega)
  obtain ⟨m, hm⟩ : ∃ m, l0.length = m + 1 := ⟨l0.length - 1, by omega⟩
  obtain ⟨ad', he, hx1⟩ := Kd.zza hr0 (m : Int) (by omega) (by omega)
  obtain rfl : ad = ad' := by simpa using he
  obtain ⟨X, hX⟩ : ∃ X, X = rdOf ByteArray.empty l0 0 := ⟨_, rfl⟩
  obtain ⟨Y, hY⟩ : ∃ Y, Y = rdOf ByteArray.empty l0 (m : Int) := ⟨_, rfl⟩
  have e0 : l0.headD ⟨#[]⟩ = X := by
    rw [hX]; unfold rdOf
    cases l0 with
    | nil => simp at h0
    | cons a t => rfl
  have e1 : l0.getLastD ⟨#[]⟩ = Y := by
    rw [hY]; unfold rdOf
    rw [List.getD_eq_getElem?_getD, Int.toNat_natCast, List.getLastD_eq_getLast?, List.getLast?_eq_getElem?, hm]
    rfl
  rw [e0, e1]
  rw [← hX] at hx0
  rw [← hY] at hx1
  have hsX : X.size ≤ 4611686018427387904 := hsz X (by rw [← e0]; cases l0 with
    | nil => simp at h0
    | cons a t => simp)
  have hsY : Y.size ≤ 4611686018427387904 := hsz Y (by
    rw [hY]; unfold rdOf
    rw [List.getD_eq_getElem?_getD, Int.toNat_natCast, List.getElem?_eq_getElem (by omega)]; exact List.getElem_mem _)
  have w1 : IntKind.i64.wrap ((l0.length : Int) - 1) = (m : Int) := by rw [hm, zva, zSa (by omega) (by omega)]; omega
  have p1 := eq_true (show 0 ≤ (m : Int) by omega)
  have q1 := eq_true (show (m : Int) < (l0.length : Int) by omega)
  have q2 := eq_true (show (0 : Int) < (l0.length : Int) by omega)
  clear hX hY e0 e1 hsz hr0
  simp only [Int.toNat_natCast, Int.toNat_zero] at hx0 hx1
  have hy0 : w.drew.cell? ad = some (.string X) := hx0
  have hy1 : w.drew.cell? (ad.add m) = some (.string Y) := hx1
  have hm' := zb.mk hm
  clear hm
  go_enter Tryz.func124, Tryz.ntmps124
  go_wp2
  go_region
  all_goals (try go_wp2)
  clear hy0 hy1 hx0 hx1 w1 p1 q1 q2
  go_loopg [5] X.size (fun q v5 W => ∃ n nd : Nat, n + q = X.size ∧ v5 = .int .i64 n ∧ n ≤ Y.size ∧ W = w.drewN nd ∧ zb (∀ j : Nat, j < n → bt X j = bt Y j))
  case atStart => exact ⟨0, 1, by omega, rfl, Nat.zero_le _, rfl, ⟨fun j hj => absurd hj (Nat.not_lt_zero _)⟩⟩
  case round =>
    obtain ⟨n, nd, hn, rfl, hnY, rfl, hE⟩ := hrel
    obtain ⟨mn, hmn⟩ : ∃ mn : Nat, (if Y.size < X.size then (Y.size : Int) else (X.size : Int)) = (mn : Int) := by
      by_cases c : Y.size < X.size
      · exact ⟨Y.size, if_pos c⟩
      · exact ⟨X.size, if_neg c⟩
    have hmx : n < mn ↔ n < X.size ∧ n < Y.size := by
      by_cases c : Y.size < X.size
      · rw [if_pos c] at hmn; omega
      · rw [if_neg c] at hmn; omega
    by_cases hlt : n < mn
    · obtain ⟨hl1, hl2⟩ := hmx.1 hlt
      have hb1 : ((X[n]'hl1).toNat : Int) = bt X (n : Int) := bt_at X n (by simpa using hl1)
      have hb2 : ((Y[n]'hl2).toNat : Int) = bt Y (n : Int) := bt_at Y n (by simpa using hl2)
      have hB1 := zb.mk hb1
      have hB2 := zb.mk hb2
      clear hmx hb1 hb2
      by_cases hq : ((X[n]'hl1).toNat : Int) = ((Y[n]'hl2).toNat : Int)
      · have hq2 : (((X[n]'hl1).toNat : Int) == ((Y[n]'hl2).toNat : Int)) = true := beq_iff_eq.2 hq
        have hQ := zb.mk hq
        clear hq
        go_wp2
        go_region
        go_wp2
        go_roundg (X.size - (n + 1))
        case measure => omega
        case rel =>
          refine ⟨n + 1, nd + 1, by omega, by simp, by omega, rfl, ⟨fun j hj => ?_⟩⟩
          rcases Nat.lt_or_ge j n with h | h
          · exact hE.out j h
          · obtain rfl : j = n := by omega
            rw [← hB1.out, ← hB2.out]; exact hQ.out
      · have hq2 : (((X[n]'hl1).toNat : Int) == ((Y[n]'hl2).toNat : Int)) = false := beq_eq_false_iff_ne.2 hq
        have hQ := zb.mk hq
        clear hq
        go_wp2
        go_region
        go_wp2
        go_ret
        refine ⟨congrArg (fun x => Ending.returned (.string x)) (shared_ret X Y n hE.out (by omega) (by omega) (fun h => hQ.out (by rw [hB1.out, hB2.out]; exact h.2.2))), ⟨⟨nd + 1, rfl⟩⟩⟩
    · have hmx' := zb.mk hmx
      clear hmx
      go_wp2
      go_region
      go_wp2
      go_ret
      refine ⟨congrArg (fun x => Ending.returned (.string x)) (shared_ret X Y n hE.out (by omega) (by omega) (fun h => hlt (hmx'.out.2 ⟨h.1, h.2.1⟩))), ⟨⟨nd + 1, rfl⟩⟩⟩
end Go.Proofs.YtfabennfhmlihaaGreatDoor.P
end
section
namespace Go.Proofs.YtfabennfhmlihaaGreatDoor.P
open Go.RowKit Go.Proofs.YtfabennfhmlihaaGreatDoorW.zJ Go.Proofs.YtfabennfhmlihaaGreatDoorW.zU Go.Proofs.YtfabennfhmlihaaGreatDoorW.PrintMore
set_option linter.unusedVariables false
set_option linter.unusedSimpArgs false
def spec_l2Begins.f (a0 : ByteArray) (a1 : ByteArray) : Option (Bool) := if (a0.size : Int) ≥ (a1.size : Int) then (if 0 ≤ (a1.size : Int) then (if (a1.size : Int) ≤ (a0.size : Int) then (some ((a0.extract 0 ((a1.size : Int) : Int).toNat).toList == a1.toList)) else (none)) else (none)) else (some false)
set_option maxHeartbeats 8000000 in
set_option maxRecDepth 100000 in
theorem spec_l2Begins.calls (a0 : ByteArray) (a1 : ByteArray) (r : Bool) (w : World) (h : spec_l2Begins.f a0 a1 = some r) :
  Calls Tryz.prog 199 #[.string a0, .string a1] w fun e w' => e = .returned (.bool r) ∧ zX w w' := by
 have H : (if (a0.size : Int) ≥ (a1.size : Int) then (if 0 ≤ (a1.size : Int) then (if (a1.size : Int) ≤ (a0.size : Int) then (some ((a0.extract 0 ((a1.size : Int) : Int).toNat).toList == a1.toList)) else (none)) else (none)) else (some false)) = some r := h
 clear h
 by_cases c3 : (a0.size : Int) ≥ (a1.size : Int)
 ·rw [if_pos c3] at H
  have c3b0 : decide ((a1.size : Int) ≤ (a0.size : Int)) = true := decide_eq_true c3
  have c3b1 : decide (a1.size ≤ a0.size) = true := decide_eq_true (Int.ofNat_le.mp c3)
  clear c3
  by_cases c4 : 0 ≤ (a1.size : Int)
  ·rw [if_pos c4] at H
   have c4b0 := eq_true c4
   have c4b1 : decide (0 ≤ (a1.size : Int)) = true := decide_eq_true c4
   clear c4
   by_cases c5 : (a1.size : Int) ≤ (a0.size : Int)
   ·rw [if_pos c5] at H
    have c5b0 := eq_true c5
    have c5b1 : decide ((a1.size : Int) ≤ (a0.size : Int)) = true := decide_eq_true c5
    clear c5
    obtain rfl := Option.some.inj H
    go_enter Tryz.func199, Tryz.ntmps199
    go_wp2
    go_ret
    exact ⟨by first | rfl | (simp; done) | (simp [*]; done), by repeat (first | exact zX.refl _ | apply zX.step)⟩
   ·rw [if_neg c5] at H
    exact absurd H (by simp)
  ·rw [if_neg c4] at H
   exact absurd H (by simp)
 ·rw [if_neg c3] at H
  have c3b0 : decide ((a1.size : Int) ≤ (a0.size : Int)) = false := decide_eq_false c3
  have c3b1 : decide (a1.size ≤ a0.size) = false := decide_eq_false (fun h => c3 (Int.ofNat_le.mpr h))
  clear c3
  obtain rfl := Option.some.inj H
  go_enter Tryz.func199, Tryz.ntmps199
  go_wp2
  go_ret
  exact ⟨by first | rfl | (simp; done) | (simp [*]; done), by repeat (first | exact zX.refl _ | apply zX.step)⟩
end Go.Proofs.YtfabennfhmlihaaGreatDoor.P
end
section
namespace Go.Proofs.YtfabennfhmlihaaGreatDoor.P
open Go.RowKit Go.Proofs.YtfabennfhmlihaaGreatDoorW.zJ Go.Proofs.YtfabennfhmlihaaGreatDoorW.zU Go.Proofs.YtfabennfhmlihaaGreatDoorW.PrintMore
set_option linter.unusedVariables false
set_option linter.unusedSimpArgs false
def zfa.l0 : Nat → List ByteArray → ByteArray → List ByteArray → Int → Option (List ByteArray)
 | 0, _, _, _, _ => none
 | k + 1, x0, x1, x5, x6 => if x6 < (x0.length : Int) then (if 0 ≤ x6 then ((spec_l2Begins.f (rdOf ByteArray.empty x0 x6) x1).bind fun t374 => (if t374 = true then (if x5.length < 8796093022208 then (zfa.l0 k x0 x1 (x5 ++ [rdOf ByteArray.empty x0 x6]) (wrap64 (x6 + 1))) else (none)) else (zfa.l0 k x0 x1 x5 (wrap64 (x6 + 1))))) else (none)) else (some x5)
def zfa.f (k : Nat) (l0 : List ByteArray) (a1 : ByteArray) : Option (List ByteArray) := zfa.l0 k l0 a1 (([] : List ByteArray)) 0
set_option maxHeartbeats 8000000 in
set_option maxRecDepth 100000 in
theorem zfa.calls (k : Nat) (A0 : Option Addr) (c0 : Nat) (l0 : List ByteArray) (a1 : ByteArray) (r : List ByteArray) (w : World) (hr0 : Kd.C Kd.string w A0 l0.length l0) (hc0 : l0.length ≤ c0) (h : zfa.f k l0 a1 = some r) :
  Calls Tryz.prog 123 #[.slice A0 l0.length c0, .string a1] w fun e w' => ∃ v0_ : Value, e = .returned (v0_) ∧ Kd.R Kd.string 9 w' w.heap.size (fun _ => True) v0_ r ∧ Below w.heap.size w w' := by
 have HR0 := zb.mk hr0
 have HC0 := zb.mk hc0
 clear hr0 hc0
 have HB := zb.mk (Below.refl w.heap.size w)
 have H : (zfa.l0 k l0 a1 (([] : List ByteArray)) 0) = some r := h
 clear h
 obtain ⟨y370, hy370⟩ : ∃ y_ : List ByteArray, y_ = (([] : List ByteArray)) := ⟨_, rfl⟩
 replace H : (zfa.l0 k l0 a1 y370 0) = some r := by first | (rw [hy370]; with_reducible exact H) | (have H2_ := (Option.bind_some _ _).symm.trans H; rw [hy370]; with_reducible exact H2_) | (have H2_ := (Option.bind_some _ _).symm.trans H; with_reducible exact H2_) | with_reducible exact H | (rw [hy370]; exact H) | exact H
 have Ny370 := zb.mk hy370
 clear hy370
 have H' := zb.mk H
 clear H
 go_enter Tryz.func123, Tryz.ntmps123
 go_wp2_with (first | ((with_reducible refine zoa (N := 7) rfl ?_); refine Kd.R_lit Kd.string _ 9 ?hg (N := 7) ?hd (xs := ([] : List ByteArray)) (inner := []) (ok := fun _ => True) (okp := fun _ => True) ?hr ?hp (fun _ hk => hk) trivial (Below.refl _ _) (Nat.le_refl _) (by simp) ?_; (case hd => rfl); (case hg => rfl); (case hr => first | (go_simp; done) | (go_simp; rfl)); (case hp => exact (Reps.none _ _)); intro v371 w3 ho4 hb hg_ hnew_; clear hg_ hnew_; (first | rw [← Ny370.out] at ho4 | (simp only [Int.reduceToNat] at ho4; rw [← Ny370.out] at ho4)); have n0_ := zb.mk (Kd.zua ho4 (zt (by repeat (first | (with_reducible first | exact HB.out | apply zg | apply ze | apply zf) | exact HB.out)))); have n1_ := zb.mk (zw (by repeat (first | (with_reducible first | exact HB.out | apply zg | apply ze | apply zf) | exact HB.out)) hb); clear HB; have HO372 := n0_; have HB := n1_; clear n0_ n1_; clear hb ho4))
 go_loopg [5, 6] k (fun kq v5 v6 w' => ∃ (x5_1 : List ByteArray) (x6_1 : Int), v6 = .int .i64 x6_1 ∧ zb (zfa.l0 kq l0 a1 x5_1 x6_1 = some r) ∧ zb (kq ≤ k) ∧ zb (Kd.R Kd.string 9 w' w.heap.size (fun _ => True) v5 x5_1) ∧ zb (Below w.heap.size w w'))
 case atStart => exact ⟨(y370), (0), (by first | rfl | (simp; done) | (simp [*]; done)), H', ⟨Nat.le_refl _⟩, ⟨by (with_reducible repeat (first | apply Kd.zo | apply Kd.zq | apply Kd.zA)); exact HO372.out⟩, ⟨by repeat (first | (with_reducible first | exact HB.out | apply zg | apply ze | apply zf) | exact HB.out)⟩⟩
 case round =>
  clear H'
  try clear c1
  try clear p2
  obtain ⟨x5_1, x6_1, rfl, HA, HK1, HO_5, HB⟩ := hrel
  cases gk with
  | zero => exact absurd HA.out (by simp [zfa.l0])
  | succ k1 =>
   have H := HA.out
   clear HA
   simp only [zfa.l0] at H
   by_cases c5 : x6_1 < (l0.length : Int)
   ·rw [if_pos c5] at H
    have c5b0 : decide (x6_1 < (l0.length : Int)) = true := decide_eq_true c5
    clear c5
    by_cases c6 : 0 ≤ x6_1
    ·rw [if_pos c6] at H
     have c6b0 : decide (0 ≤ x6_1) = true := decide_eq_true c6
     clear c6
     replace H := Option.bind_eq_some_iff.mp H
     obtain ⟨t374, A70, H⟩ := H
     replace H : (if t374 = true then (if x5_1.length < 8796093022208 then (zfa.l0 k1 l0 a1 (x5_1 ++ [rdOf ByteArray.empty l0 x6_1]) (wrap64 (x6_1 + 1))) else (none)) else (zfa.l0 k1 l0 a1 x5_1 (wrap64 (x6_1 + 1)))) = some r := H
     have A7 := zb.mk A70
     clear A70
     by_cases c8 : t374 = true
     ·subst c8
      have H1 : (if x5_1.length < 8796093022208 then (zfa.l0 k1 l0 a1 (x5_1 ++ [rdOf ByteArray.empty l0 x6_1]) (wrap64 (x6_1 + 1))) else (none)) = some r := by rw [if_pos rfl] at H; exact H
      clear H
      have H := H1
      clear H1
      by_cases c9 : x5_1.length < 8796093022208
      ·rw [if_pos c9] at H
       have LMc9 := zb.mk c9
       clear c9
       obtain ⟨y376, hy376⟩ : ∃ y_ : List ByteArray, y_ = (x5_1 ++ [rdOf ByteArray.empty l0 x6_1]) := ⟨_, rfl⟩
       replace H : (zfa.l0 k1 l0 a1 y376 (wrap64 (x6_1 + 1))) = some r := by first | (rw [hy376]; with_reducible exact H) | (have H2_ := (Option.bind_some _ _).symm.trans H; rw [hy376]; with_reducible exact H2_) | (have H2_ := (Option.bind_some _ _).symm.trans H; with_reducible exact H2_) | with_reducible exact H | (rw [hy376]; exact H) | exact H
       have Ny376 := zb.mk hy376
       clear hy376
       have H' := zb.mk H
       clear H
       have p373 : 0 ≤ (x6_1 : Int) := of_decide_eq_true (by first | (with_reducible assumption) | assumption)
       have q373 : x6_1 < (l0.length : Int) := of_decide_eq_true (by first | (with_reducible assumption) | assumption)
       obtain ⟨ad373, e373, hx373_0⟩ := Kd.zza HR0.out x6_1 p373 q373
       cases e373
       replace hx373_0 := (HB.out.cell (World.block_lt_of_cell? w _ hx373_0)).trans hx373_0
       replace p373 := eq_true p373
       replace q373 := eq_true q373
       go_wp2_with (first | ((with_reducible refine zH (f := 199) rfl ?_); refine zra (some 19) rfl rfl Tryz.func199 (by kernel_rfl) rfl #[.string (rdOf ByteArray.empty l0 x6_1), .string a1] rfl (by (try simp only [List.map_toArray, List.map_cons, List.map_nil]); first | done | rfl | (simp only [List.length_drop, List.length_take]; rfl)) ?_; (with_reducible refine (spec_l2Begins.calls (rdOf ByteArray.empty l0 x6_1) a1 true _ A7.out).mono ?_); rintro e w' ⟨rfl, ⟨nd, rfl⟩⟩; refine ⟨_, rfl, ?_⟩; have p375 : 0 ≤ (x6_1 : Int) := of_decide_eq_true (by first | (with_reducible assumption) | assumption); have q375 : x6_1 < (l0.length : Int) := of_decide_eq_true (by first | (with_reducible assumption) | assumption); obtain ⟨ad375, e375, hx375_0⟩ := Kd.zza HR0.out x6_1 p375 q375; obtain rfl : ad373 = ad375 := (by injection e375); replace hx375_0 := (HB.out.cell (World.block_lt_of_cell? w _ hx375_0)).trans hx375_0; replace p375 := eq_true p375; replace q375 := eq_true q375) | ((with_reducible refine zZa (b := .append) (xs := #[.tmp 20, .tmp 25]) rfl ?_); at_builtin; refine Kd.R_append Kd.string (w0 := w) w.heap.size rfl (.tmp 20) (.tmp 25) 31 9 (.string ⟨#[]⟩) 16 rfl Tryz.underlying31 info9 rfl (by decide) (by omega) u5 x5_1 (rdOf ByteArray.empty l0 x6_1) [.string (rdOf ByteArray.empty l0 x6_1)] (fun _ => True) (fun _ => False) rfl rfl ?aP (fun _ hk => hk.elim) ?aF ?aO ?aB ?aS ?aL ?_; (case aP => exact rfl); (case aB => exact (by repeat (first | (with_reducible first | exact HB.out | apply zg | apply ze | apply zf) | exact HB.out))); (case aF => exact (fun _ _ => trivial)); (case aO => exact (by (with_reducible repeat (first | apply Kd.zo | apply Kd.zq | apply Kd.zA)); exact HO_5.out)); (case aS => exact (zt (by repeat (first | (with_reducible first | exact HB.out | apply zg | apply ze | apply zf) | exact HB.out)))); (case aL => have := LMc9.out; omega); intro v377 w10 ho hb hg hat; rw [← Ny376.out] at ho; have n0_ := zb.mk (hb); have n1_ := zb.mk (ho); clear HB; clear HO_5; have HB := n0_; have HO378 := n1_; clear n0_ n1_; clear ho hb hg hat))
       go_roundg k1
       case measure => have := HK1.out; omega
       case rel => exact ⟨(y376), (wrap64 (x6_1 + 1)), (by first | rfl | (simp; done) | (simp [*]; done)), H', ⟨by have := HK1.out; omega⟩, ⟨by (with_reducible repeat (first | apply Kd.zo | apply Kd.zq | apply Kd.zA)); exact HO378.out⟩, ⟨by repeat (first | (with_reducible first | exact HB.out | apply zg | apply ze | apply zf) | exact HB.out)⟩⟩
      ·rw [if_neg c9] at H
       exact absurd H (by simp)
     ·replace c8 := Bool.eq_false_iff.mpr c8
      subst c8
      have H1 : (zfa.l0 k1 l0 a1 x5_1 (wrap64 (x6_1 + 1))) = some r := by rw [if_neg (show ¬ (false = true) by decide)] at H; exact H
      clear H
      have H := H1
      clear H1
      have H' := zb.mk H
      clear H
      have p373 : 0 ≤ (x6_1 : Int) := of_decide_eq_true (by first | (with_reducible assumption) | assumption)
      have q373 : x6_1 < (l0.length : Int) := of_decide_eq_true (by first | (with_reducible assumption) | assumption)
      obtain ⟨ad373, e373, hx373_0⟩ := Kd.zza HR0.out x6_1 p373 q373
      cases e373
      replace hx373_0 := (HB.out.cell (World.block_lt_of_cell? w _ hx373_0)).trans hx373_0
      replace p373 := eq_true p373
      replace q373 := eq_true q373
      go_wp2_with (first | ((with_reducible refine zH (f := 199) rfl ?_); refine zra (some 19) rfl rfl Tryz.func199 (by kernel_rfl) rfl #[.string (rdOf ByteArray.empty l0 x6_1), .string a1] rfl (by (try simp only [List.map_toArray, List.map_cons, List.map_nil]); first | done | rfl | (simp only [List.length_drop, List.length_take]; rfl)) ?_; (with_reducible refine (spec_l2Begins.calls (rdOf ByteArray.empty l0 x6_1) a1 false _ A7.out).mono ?_); rintro e w' ⟨rfl, ⟨nd, rfl⟩⟩; refine ⟨_, rfl, ?_⟩))
      go_roundg k1
      case measure => have := HK1.out; omega
      case rel => exact ⟨(x5_1), (wrap64 (x6_1 + 1)), (by first | rfl | (simp; done) | (simp [*]; done)), H', ⟨by have := HK1.out; omega⟩, ⟨by (with_reducible repeat (first | apply Kd.zo | apply Kd.zq | apply Kd.zA)); exact HO_5.out⟩, ⟨by repeat (first | (with_reducible first | exact HB.out | apply zg | apply ze | apply zf) | exact HB.out)⟩⟩
    ·rw [if_neg c6] at H
     exact absurd H (by simp)
   ·rw [if_neg c5] at H
    have c5b0 : decide (x6_1 < (l0.length : Int)) = false := decide_eq_false c5
    clear c5
    obtain rfl := Option.some.inj H
    go_wp2
    go_ret
    exact ⟨_, by first | rfl | (simp [zC, zB] <;> rfl) | (simp [*, zC, zB] <;> rfl), by (with_reducible repeat (first | apply Kd.zo | apply Kd.zq | apply Kd.zA)); exact HO_5.out, by repeat (first | (with_reducible first | exact HB.out | apply zg | apply ze | apply zf) | exact HB.out)⟩
end Go.Proofs.YtfabennfhmlihaaGreatDoor.P
end
section
namespace Go.Proofs.YtfabennfhmlihaaGreatDoor.P
open Go.RowKit Go.Proofs.YtfabennfhmlihaaGreatDoorW.zJ Go.Proofs.YtfabennfhmlihaaGreatDoorW.zU Go.Proofs.YtfabennfhmlihaaGreatDoorW.PrintMore
set_option linter.unusedVariables false
set_option linter.unusedSimpArgs false
def laws_vBig.f (l0 : List Int) : Option (Bool) := some (decide ((l0.length : Int) > 65536))
set_option maxHeartbeats 8000000 in
set_option maxRecDepth 100000 in
theorem laws_vBig.calls (A0 : Option Addr) (c0 : Nat) (l0 : List Int) (r : Bool) (w : World) (hr0 : Kd.C (Kd.int .u8) w A0 l0.length l0) (hc0 : l0.length ≤ c0) (h : laws_vBig.f l0 = some r) :
  Calls Tryz.prog 9 #[.slice A0 l0.length c0] w fun e w' => e = .returned (.bool r) ∧ zX w w' := by
 have HR0 := zb.mk hr0
 have HC0 := zb.mk hc0
 clear hr0 hc0
 have H : (some (decide ((l0.length : Int) > 65536))) = some r := h
 clear h
 obtain rfl := Option.some.inj H
 go_enter Tryz.func9, Tryz.ntmps9
 go_wp2
 go_ret
 exact ⟨by first | rfl | (simp; done) | (simp [*]; done), by repeat (first | exact zX.refl _ | apply zX.step)⟩
end Go.Proofs.YtfabennfhmlihaaGreatDoor.P
end
