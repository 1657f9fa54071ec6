/- A part of the proof of FnPrefixes. -/
import Derived.Test.YtfabennfhmlihaaGreatDoorCpreD
import Derived.Test.YtfabennfhmlihaaGreatDoorCpreE
import Derived.Test.YtfabennfhmlihaaGreatDoorCpreF
import Derived.ArgAppend
import Derived.Below
import Derived.BigQuiet
import Derived.Deep.AppendLies
import Derived.Deep.CutBlock
import Derived.Deep.DeepCutAuto
import Derived.Deep.Draws
import Derived.Deep.LoopGhost
import Derived.Deep.OwnRows
import Derived.Deep.QuietTactic
import Derived.Deep.RegionHeld3
import Derived.KernelRfl
import Derived.Laws.BitsLemmas
import Derived.Laws.BytesArg
import Derived.Laws.IdiomCopy
import Derived.Laws.MakeOwn
import Derived.Laws.OwnMore
import Derived.Laws.Rows
import Derived.Laws.Slices
import Derived.Laws.StructEq
import Derived.Lib.AppendStr
import Derived.Lib.ConvBytes
import Derived.Maps.AppendAt
import Derived.OrdersHeld
import Derived.Outline
import Derived.OwnWalk
import Derived.RowKit
import Derived.RowKit3
import Derived.Tactics
import Derived.WalkKit
import Derived.WideLaws
section
namespace Go.Proofs.YtfabennfhmlihaaGreatDoor.P
open Go.RowKit Go.Proofs.YtfabennfhmlihaaGreatDoorW.zJ Go.Proofs.YtfabennfhmlihaaGreatDoorW.zU Go.Proofs.YtfabennfhmlihaaGreatDoorW.PrintMore
set_option linter.unusedVariables false
set_option linter.unusedSimpArgs false
def spec_DrawSharedPrefix.f (k : Nat) (l0 : List Int) : Option ((List (zL))) := (zP.f k l0 0 0).bind fun bt434 => ((zW.f k bt434.1).bind fun t440 => ((zCa.f l0 bt434.2.1 bt434.2.2 (([(⟨#[97]⟩ : ByteArray), (⟨#[98]⟩ : ByteArray), (⟨#[97, 98]⟩ : ByteArray), (⟨#[]⟩ : ByteArray)] : List ByteArray))).bind fun bt446 => ((zfa.f k t440 bt446.1).bind fun t449 => ((zea.f k bt434.1).bind fun t452 => (if t452 = true then (if (t449.length : Int) > 0 then ((zM.f l0 bt446.2.1 bt446.2.2 2).bind fun bt453 => (if bt453.1 = true then ((l2of.f t449).bind fun t456 => (some t456)) else (some bt434.1))) else (some bt434.1)) else (some bt434.1))))))
set_option maxHeartbeats 8000000 in
set_option maxRecDepth 100000 in
theorem spec_DrawSharedPrefix.calls (k : Nat) (A0 : Option Addr) (c0 : Nat) (l0 : List Int) (r : List (zL)) (w : World) (hr0 : Kd.C (Kd.int .u8) w A0 l0.length l0) (hc0 : l0.length ≤ c0) (h : spec_DrawSharedPrefix.f k l0 = some r) :
    Calls Tryz.prog 17 #[.slice A0 l0.length c0] w fun e w' => ∃ v0_ : Value, e = .returned (.agg #[v0_]) ∧ Kd.R zXa 73 w' w.heap.size (fun _ => True) v0_ r ∧ Below w.heap.size w w' := by
  have hu26 := Tryz.underlying26
  have hu82 := Tryz.underlying82
  have HR0 := zb.mk hr0
  have HC0 := zb.mk hc0
  clear hr0 hc0
  have HB := zb.mk (Below.refl w.heap.size w)
  have H : ((zP.f k l0 0 0).bind fun bt434 => ((zW.f k bt434.1).bind fun t440 => ((zCa.f l0 bt434.2.1 bt434.2.2 (([(⟨#[97]⟩ : ByteArray), (⟨#[98]⟩ : ByteArray), (⟨#[97, 98]⟩ : ByteArray), (⟨#[]⟩ : ByteArray)] : List ByteArray))).bind fun bt446 => ((zfa.f k t440 bt446.1).bind fun t449 => ((zea.f k bt434.1).bind fun t452 => (if t452 = true then (if (t449.length : Int) > 0 then ((zM.f l0 bt446.2.1 bt446.2.2 2).bind fun bt453 => (if bt453.1 = true then ((l2of.f t449).bind fun t456 => (some t456)) else (some bt434.1))) else (some bt434.1)) else (some bt434.1))))))) = some r := h
  clear h
  replace H := Option.bind_eq_some_iff.mp H
  obtain ⟨⟨t434, t437, t438⟩, A20, H⟩ := H
  replace H : ((zW.f k t434).bind fun t440 => ((zCa.f l0 t437 t438 (([(⟨#[97]⟩ : ByteArray), (⟨#[98]⟩ : ByteArray), (⟨#[97, 98]⟩ : ByteArray), (⟨#[]⟩ : ByteArray)] : List ByteArray))).bind fun bt446 => ((zfa.f k t440 bt446.1).bind fun t449 => ((zea.f k t434).bind fun t452 => (if t452 = true then (if (t449.length : Int) > 0 then ((zM.f l0 bt446.2.1 bt446.2.2 2).bind fun bt453 => (if bt453.1 = true then ((l2of.f t449).bind fun t456 => (some t456)) else (some t434))) else (some t434)) else (some t434)))))) = some r := H
  have A2 := zb.mk A20
  clear A20
  replace H := Option.bind_eq_some_iff.mp H
  obtain ⟨t440, A30, H⟩ := H
  replace H : ((zCa.f l0 t437 t438 (([(⟨#[97]⟩ : ByteArray), (⟨#[98]⟩ : ByteArray), (⟨#[97, 98]⟩ : ByteArray), (⟨#[]⟩ : ByteArray)] : List ByteArray))).bind fun bt446 => ((zfa.f k t440 bt446.1).bind fun t449 => ((zea.f k t434).bind fun t452 => (if t452 = true then (if (t449.length : Int) > 0 then ((zM.f l0 bt446.2.1 bt446.2.2 2).bind fun bt453 => (if bt453.1 = true then ((l2of.f t449).bind fun t456 => (some t456)) else (some t434))) else (some t434)) else (some t434))))) = some r := H
  have A3 := zb.mk A30
  clear A30
  obtain ⟨y443, hy443⟩ : ∃ y_ : List ByteArray, y_ = (([(⟨#[97]⟩ : ByteArray), (⟨#[98]⟩ : ByteArray), (⟨#[97, 98]⟩ : ByteArray), (⟨#[]⟩ : ByteArray)] : List ByteArray)) := ⟨_, rfl⟩
  replace H : ((zCa.f l0 t437 t438 y443).bind fun bt446 => ((zfa.f k t440 bt446.1).bind fun t449 => ((zea.f k t434).bind fun t452 => (if t452 = true then (if (t449.length : Int) > 0 then ((zM.f l0 bt446.2.1 bt446.2.2 2).bind fun bt453 => (if bt453.1 = true then ((l2of.f t449).bind fun t456 => (some t456)) else (some t434))) else (some t434)) else (some t434))))) = some r := by first | (rw [hy443]; with_reducible exact H) | (have H2_ := (Option.bind_some _ _).symm.trans H; rw [hy443]; with_reducible exact H2_) | (have H2_ := (Option.bind_some _ _).symm.trans H; with_reducible exact H2_) | with_reducible exact H | (rw [hy443]; exact H) | exact H
  have Ny443 := zb.mk hy443
  clear hy443
  replace H := Option.bind_eq_some_iff.mp H
  obtain ⟨⟨t446, t447, t448⟩, A40, H⟩ := H
  replace H : ((zfa.f k t440 t446).bind fun t449 => ((zea.f k t434).bind fun t452 => (if t452 = true then (if (t449.length : Int) > 0 then ((zM.f l0 t447 t448 2).bind fun bt453 => (if bt453.1 = true then ((l2of.f t449).bind fun t456 => (some t456)) else (some t434))) else (some t434)) else (some t434)))) = some r := H
  have A4 := zb.mk A40
  clear A40
  replace H := Option.bind_eq_some_iff.mp H
  obtain ⟨t449, A50, H⟩ := H
  replace H : ((zea.f k t434).bind fun t452 => (if t452 = true then (if (t449.length : Int) > 0 then ((zM.f l0 t447 t448 2).bind fun bt453 => (if bt453.1 = true then ((l2of.f t449).bind fun t456 => (some t456)) else (some t434))) else (some t434)) else (some t434))) = some r := H
  have A5 := zb.mk A50
  clear A50
  replace H := Option.bind_eq_some_iff.mp H
  obtain ⟨t452, A60, H⟩ := H
  replace H : (if t452 = true then (if (t449.length : Int) > 0 then ((zM.f l0 t447 t448 2).bind fun bt453 => (if bt453.1 = true then ((l2of.f t449).bind fun t456 => (some t456)) else (some t434))) else (some t434)) else (some t434)) = some r := H
  have A6 := zb.mk A60
  clear A60
  refine (Classical.em (t452 = true)).elim (fun c7 => ?Pc7) (fun c7 => ?Nc7)
  case' Pc7 =>
   subst c7
   have H1 : (if (t449.length : Int) > 0 then ((zM.f l0 t447 t448 2).bind fun bt453 => (if bt453.1 = true then ((l2of.f t449).bind fun t456 => (some t456)) else (some t434))) else (some t434)) = some r := by rw [if_pos rfl] at H; exact H
   clear H
   have H := H1
   clear H1
   refine (Classical.em ((t449.length : Int) > 0)).elim (fun c8 => ?Pc8) (fun c8 => ?Nc8)
   case' Pc8 =>
    rw [if_pos c8] at H
    have c8b0 : decide (0 < (t449.length : Int)) = true := decide_eq_true c8
    have c8b1 : decide (0 < t449.length) = true := decide_eq_true (by omega)
    clear c8
    replace H := Option.bind_eq_some_iff.mp H
    obtain ⟨⟨t453, t454, t455⟩, A90, H⟩ := H
    replace H : (if t453 = true then ((l2of.f t449).bind fun t456 => (some t456)) else (some t434)) = some r := H
    have A9 := zb.mk A90
    clear A90
    refine (Classical.em (t453 = true)).elim (fun c10 => ?Pc10) (fun c10 => ?Nc10)
    case' Pc10 =>
     subst c10
     have H1 : ((l2of.f t449).bind fun t456 => (some t456)) = some r := by rw [if_pos rfl] at H; exact H
     clear H
     have H := H1
     clear H1
     replace H := Option.bind_eq_some_iff.mp H
     obtain ⟨t456, A110, H⟩ := H
     replace H : (some t456) = some r := H
     have A11 := zb.mk A110
     clear A110
     obtain rfl := Option.some.inj H
    case' Nc10 =>
     replace c10 := Bool.eq_false_iff.mpr c10
     subst c10
     have H1 : (some t434) = some r := by rw [if_neg (show ¬ (false = true) by decide)] at H; exact H
     clear H
     have H := H1
     clear H1
     obtain rfl := Option.some.inj H
   case' Nc8 =>
    rw [if_neg c8] at H
    have c8b0 : decide (0 < (t449.length : Int)) = false := decide_eq_false c8
    have c8b1 : decide (0 < t449.length) = false := decide_eq_false (by omega)
    clear c8
    obtain rfl := Option.some.inj H
  case' Nc7 =>
   replace c7 := Bool.eq_false_iff.mpr c7
   subst c7
   have H1 : (some t434) = some r := by rw [if_neg (show ¬ (false = true) by decide)] at H; exact H
   clear H
   have H := H1
   clear H1
   obtain rfl := Option.some.inj H
  all_goals go_enter Tryz.func17, Tryz.ntmps17
  all_goals try go_wp2_with (first | ((with_reducible refine zoa (N := 2) rfl ?_); (try (refine zOa (by rfl) ?_; dsimp only)); refine zEa ?hg (N := 2) ?hd (cs := #[.slice none 0 0]) (t := 26) ?hr ?_; (case hd => rfl); (case hg => rfl); (case hr => first | (go_simp; done) | (go_simp; rfl)); intro gb432 hg w_1 hbox hb; have n0_ := zb.mk (zw (by repeat (first | (with_reducible first | exact HB.out | apply zg | apply ze | apply zf) | exact HB.out)) hb); have n1_ := zb.mk (hbox); have n2_ := zb.mk ((by rw [hg]; exact (zt (by repeat (first | (with_reducible first | exact HB.out | apply zg | apply ze | apply zf) | exact HB.out))) : w.heap.size ≤ gb432)); have n3_ := zb.mk ((by rw [hg]; exact (zt (by repeat (first | (with_reducible first | exact HB.out | apply zg | apply ze | apply zf) | exact HB.out))) : w.heap.size ≤ gb432)); clear HB; have HB := n0_; have BK432 := n1_; have GW432 := n2_; have GE432 := n3_; clear n0_ n1_ n2_ n3_; clear hb hbox hg) | ((with_reducible refine zoa (N := 8) rfl ?_); (try (refine zOa (by rfl) ?_; dsimp only)); refine zEa ?hg (N := 8) ?hd (cs := #[.slice A0 l0.length c0, .int .i64 0, .int .u64 0]) (t := 82) ?hr ?_; (case hd => rfl); (case hg => rfl); (case hr => first | (go_simp; done) | (go_simp; rfl)); intro gb433 hg w_2 hbox hb; have n0_ := zb.mk (zG (g := gb432) (o := .cells #[.slice none 0 0] 26 (0, 0)) (by (with_reducible repeat (first | refine zk ?_ _ | refine zm ?_ | refine zi ?_ _)); exact BK432.out) hb); have n1_ := zb.mk (zw (by repeat (first | (with_reducible first | exact HB.out | apply zg | apply ze | apply zf | refine zh ?_ GE432.out) | exact HB.out)) hb); have n2_ := zb.mk ((by rw [hg]; exact (zt (by repeat (first | (with_reducible first | exact HB.out | apply zg | apply ze | apply zf | refine zh ?_ GE432.out) | exact HB.out))) : w.heap.size ≤ gb433)); have n3_ := zb.mk ((by rw [hg]; exact (zt (by repeat (first | (with_reducible first | exact HB.out | apply zg | apply ze | apply zf | refine zh ?_ GE432.out) | exact HB.out))) : w.heap.size ≤ gb433)); have n4_ := zb.mk ((by rw [hg]; exact Nat.ne_of_lt (blk_lt (g := gb432) (o := .cells #[.slice none 0 0] 26 (0, 0)) (by (with_reducible repeat (first | refine zk ?_ _ | refine zm ?_ | refine zi ?_ _)); exact BK432.out)) : gb432 ≠ gb433)); have n5_ := zb.mk ((by rw [hg]; exact Nat.ne_of_gt (blk_lt (g := gb432) (o := .cells #[.slice none 0 0] 26 (0, 0)) (by (with_reducible repeat (first | refine zk ?_ _ | refine zm ?_ | refine zi ?_ _)); exact BK432.out)) : gb433 ≠ gb432)); have n6_ := zb.mk ((⟨_, _, hbox, (by rw [hg]; exact (zt (by repeat (first | (with_reducible first | exact HB.out | apply zg | apply ze | apply zf | refine zh ?_ GE432.out) | exact HB.out))) : w.heap.size ≤ gb433), HR0.out⟩ : za w w_2 gb433 l0 0 0)); clear BK432; clear HB; have BK432 := n0_; have HB := n1_; have GW433 := n2_; have GE433 := n3_; have NB432_433 := n4_; have NB433_432 := n5_; have HI433 := n6_; clear n0_ n1_ n2_ n3_ n4_ n5_ n6_; clear hb hbox hg) | ((with_reducible refine zH (f := 113) rfl ?_); refine zra (some 10) rfl rfl Tryz.func113 (by kernel_rfl) rfl #[.pointer (some ⟨gb433, 0, none⟩)] rfl (by (try simp only [List.map_toArray, List.map_cons, List.map_nil]); first | done | rfl | (simp only [List.length_drop, List.length_take]; rfl)) ?_; (with_reducible refine (zP.calls k gb433 l0 0 0 t434 t437 t438 w _ ?side1 ?side2 A2.out).mono ?_); (case side1 => repeat (first | (with_reducible first | exact HI433.out | apply za.alloc | apply za.drewN | apply za.drew | apply za.zca | apply za.zba | refine za.far ?_ NB433_432.out _) | exact HI433.out)); (case side2 => repeat (first | (with_reducible first | exact HB.out | apply zg | apply ze | apply zf | refine zh ?_ (za.ge HI433.out) | refine zh ?_ GE432.out) | exact HB.out)); rintro e w_3 ⟨v435, rfl, ho_1, hi, hb, hk⟩; refine ⟨_, rfl, ?_⟩; have n0_ := zb.mk (zn.blk hk (g' := gb432) (o := .cells #[.slice none 0 0] 26 (0, 0)) (by (with_reducible repeat (first | refine zk ?_ _ | refine zm ?_ | refine zi ?_ _)); exact BK432.out) NB432_433.out (by simp)); have n1_ := zb.mk (Kd.zua ho_1 (zt (by repeat (first | (with_reducible first | exact HB.out | apply zg | apply ze | apply zf | refine zh ?_ (za.ge HI433.out) | refine zh ?_ GE432.out) | exact HB.out)))); have n2_ := zb.mk (hb); have n3_ := zb.mk (hi); clear BK432; clear HB; clear HI433; have BK432 := n0_; have HO436 := n1_; have HB := n2_; have HI433 := n3_; clear n0_ n1_ n2_ n3_; (try clear hb); (try clear hb_1); (try clear hk); (try clear hi); (try clear ho_1)) | ((with_reducible refine zoa (N := 4) rfl ?_); (try (refine zOa (by rfl) ?_; dsimp only)); refine zEa ?hg (N := 4) ?hd (cs := #[.slice none 0 0]) (t := 26) ?hr ?_; (case hd => rfl); (case hg => rfl); (case hr => first | (go_simp; done) | (go_simp; rfl)); intro gb439 hg w_4 hbox hb; have n0_ := zb.mk (Kd.zta (by (with_reducible repeat (first | apply Kd.zo | apply Kd.zq | apply Kd.zA)); exact HO436.out) hb); have n1_ := zb.mk (zG (g := gb432) (o := .cells #[.slice none 0 0] 26 (0, 0)) (by (with_reducible repeat (first | refine zk ?_ _ | refine zm ?_ | refine zi ?_ _)); exact BK432.out) hb); have n2_ := zb.mk (za.below (by repeat (first | (with_reducible first | exact HI433.out | apply za.alloc | apply za.drewN | apply za.drew | apply za.zca | apply za.zba | refine za.far ?_ NB433_432.out _) | exact HI433.out)) hb); have n3_ := zb.mk (zw (by repeat (first | (with_reducible first | exact HB.out | apply zg | apply ze | apply zf | refine zh ?_ (za.ge HI433.out) | refine zh ?_ GE432.out) | exact HB.out)) hb); have n4_ := zb.mk (hbox); have n5_ := zb.mk ((by rw [hg]; exact (zt (by repeat (first | (with_reducible first | exact HB.out | apply zg | apply ze | apply zf | refine zh ?_ (za.ge HI433.out) | refine zh ?_ GE432.out) | exact HB.out))) : w.heap.size ≤ gb439)); have n6_ := zb.mk ((by rw [hg]; exact (zt (by repeat (first | (with_reducible first | exact HB.out | apply zg | apply ze | apply zf | refine zh ?_ (za.ge HI433.out) | refine zh ?_ GE432.out) | exact HB.out))) : w.heap.size ≤ gb439)); have n7_ := zb.mk ((by rw [hg]; exact Nat.ne_of_lt (blk_lt (g := gb432) (o := .cells #[.slice none 0 0] 26 (0, 0)) (by (with_reducible repeat (first | refine zk ?_ _ | refine zm ?_ | refine zi ?_ _)); exact BK432.out)) : gb432 ≠ gb439)); have n8_ := zb.mk ((by rw [hg]; exact Nat.ne_of_gt (blk_lt (g := gb432) (o := .cells #[.slice none 0 0] 26 (0, 0)) (by (with_reducible repeat (first | refine zk ?_ _ | refine zm ?_ | refine zi ?_ _)); exact BK432.out)) : gb439 ≠ gb432)); have n9_ := zb.mk ((by rw [hg]; exact Nat.ne_of_lt (za.lt (show za w _ gb433 l0 t437 t438 from by repeat (first | (with_reducible first | exact HI433.out | apply za.alloc | apply za.drewN | apply za.drew | apply za.zca | apply za.zba | refine za.far ?_ NB433_432.out _) | exact HI433.out))) : gb433 ≠ gb439)); have n10_ := zb.mk ((by rw [hg]; exact Nat.ne_of_gt (za.lt (show za w _ gb433 l0 t437 t438 from by repeat (first | (with_reducible first | exact HI433.out | apply za.alloc | apply za.drewN | apply za.drew | apply za.zca | apply za.zba | refine za.far ?_ NB433_432.out _) | exact HI433.out))) : gb439 ≠ gb433)); clear HO436; clear BK432; clear HI433; clear HB; have HO436 := n0_; have BK432 := n1_; have HI433 := n2_; have HB := n3_; have BK439 := n4_; have GW439 := n5_; have GE439 := n6_; have NB432_439 := n7_; have NB439_432 := n8_; have NB433_439 := n9_; have NB439_433 := n10_; clear n0_ n1_ n2_ n3_ n4_ n5_ n6_ n7_ n8_ n9_ n10_; clear hb hbox hg; obtain ⟨Ao_1, co_1, eo_1⟩ := Kd.zpa HO436.out; subst eo_1; have hnb_1 := NB439_432.out; have hnc_1 := NB432_439.out; have hnb_2 := NB439_433.out; have hnc_2 := NB433_439.out; have hcz_1_0 : w_4.cell? ⟨gb439, 0, none⟩ = some (.slice none 0 0) := (zD BK439.out 0).trans rfl; have hfz_1_0 := zz BK439.out 0) | ((with_reducible refine zH (f := 120) rfl ?_); refine zra (some 12) rfl rfl Tryz.func120 (by kernel_rfl) rfl #[.agg #[.slice Ao_1 t434.length co_1]] rfl (by (try simp only [List.map_toArray, List.map_cons, List.map_nil]); first | done | rfl | (simp only [List.length_drop, List.length_take]; rfl)) ?_; (with_reducible refine (zW.calls k _ _ t434 t440 _ ?side1 ?side2 A3.out).mono ?_); (case side1 => refine (Kd.zQ (e := 73) (base := w.heap.size) (ok := fun k_ => True) (n := t434.length) (c := co_1) ?_).2.2; exact (by (with_reducible repeat (first | apply Kd.zo | apply Kd.zq | apply Kd.zA)); exact (Kd.zZ (Kd.R_far (p := ⟨gb439, 0, none⟩) (Kd.zUa HO436.out BK439.out (by decide)) (fun _ hk => hk.2) _) (fun _ h_ => h_.1)))); (case side2 => exact (Kd.zQ HO436.out).2.1); rintro e w_5 ⟨v441, rfl, ho_1, hb⟩; refine ⟨_, rfl, ?_⟩; have n0_ := zb.mk (Kd.zta (by (with_reducible repeat (first | apply Kd.zo | apply Kd.zq | apply Kd.zA)); exact (Kd.zZ (Kd.R_far (p := ⟨gb439, 0, none⟩) (Kd.zUa HO436.out BK439.out (by decide)) (fun _ hk => hk.2) (.slice Ao_1 t434.length co_1)) (fun _ h_ => h_.1))) hb); have n1_ := zb.mk (Kd.zua ho_1 (zt (by repeat (first | (with_reducible first | exact HB.out | apply zg | apply ze | apply zf | refine zh ?_ (za.ge HI433.out) | refine zh ?_ GE432.out | refine zh ?_ GE439.out) | exact HB.out)))); have n2_ := zb.mk (zG (g := gb432) (o := .cells #[.slice none 0 0] 26 (0, 0)) (by (with_reducible repeat (first | refine zk ?_ _ | refine zm ?_ | refine zi ?_ _)); refine blk_far ?_ NB432_439.out _; (with_reducible repeat (first | refine zk ?_ _ | refine zm ?_ | refine zi ?_ _)); exact BK432.out) hb); have n3_ := zb.mk (za.below (show za w (w_4.setCell ⟨gb439, 0, none⟩ (.slice Ao_1 t434.length co_1)) gb433 l0 t437 t438 from by repeat (first | (with_reducible first | exact HI433.out | apply za.alloc | apply za.drewN | apply za.drew | apply za.zca | apply za.zba | refine za.far ?_ NB433_432.out _ | refine za.far ?_ NB433_439.out _) | exact HI433.out)) hb); have n4_ := zb.mk (zG (g := gb439) (o := .cells #[.slice Ao_1 t434.length co_1] 26 (0, 0)) (by (with_reducible repeat (first | refine zk ?_ _ | refine zm ?_ | refine zi ?_ _)); refine blk_put (cs := #[.slice none 0 0]) ?_ 0 _ rfl; (with_reducible repeat (first | refine zk ?_ _ | refine zm ?_ | refine zi ?_ _)); exact BK439.out) hb); have n5_ := zb.mk (zw (by repeat (first | (with_reducible first | exact HB.out | apply zg | apply ze | apply zf | refine zh ?_ (za.ge HI433.out) | refine zh ?_ GE432.out | refine zh ?_ GE439.out) | exact HB.out)) hb); clear HO436; clear BK432; clear HI433; clear BK439; clear HB; have HO436 := n0_; have HO442 := n1_; have BK432 := n2_; have HI433 := n3_; have BK439 := n4_; have HB := n5_; clear n0_ n1_ n2_ n3_ n4_ n5_; (try clear hb); (try clear hb_1); (try clear hk); (try clear hi); (try clear ho_1)) | ((with_reducible refine zoa (N := 14) rfl ?_); (try (refine zOa (by rfl) ?_; dsimp only)); refine Kd.R_lit Kd.string _ 9 ?hg (N := 14) ?hd (xs := ([(⟨#[97]⟩ : ByteArray), (⟨#[98]⟩ : ByteArray), (⟨#[97, 98]⟩ : ByteArray), (⟨#[]⟩ : ByteArray)] : List ByteArray)) (inner := [.string (⟨#[97]⟩ : ByteArray), .string (⟨#[98]⟩ : ByteArray), .string (⟨#[97, 98]⟩ : ByteArray), .string (⟨#[]⟩ : ByteArray)]) (ok := fun _ => True) (okp := fun _ => True) ?hr ?hp (fun _ hk => hk) trivial (Below.refl _ _) (Nat.le_refl _) (by simp) ?_; (case hd => rfl); (case hg => rfl); (case hr => first | (go_simp; done) | (go_simp; rfl)); (case hp => exact (Reps.one (show Kd.M Kd.string _ _ _ (⟨#[97]⟩ : ByteArray) [.string (⟨#[97]⟩ : ByteArray)] from rfl) (Reps.one (show Kd.M Kd.string _ _ _ (⟨#[98]⟩ : ByteArray) [.string (⟨#[98]⟩ : ByteArray)] from rfl) (Reps.one (show Kd.M Kd.string _ _ _ (⟨#[97, 98]⟩ : ByteArray) [.string (⟨#[97, 98]⟩ : ByteArray)] from rfl) (Reps.one (show Kd.M Kd.string _ _ _ (⟨#[]⟩ : ByteArray) [.string (⟨#[]⟩ : ByteArray)] from rfl) (Reps.none _ _)))))); intro v444 w_6 ho_2 hb hg_ hnew_; clear hg_ hnew_; (first | rw [← Ny443.out] at ho_2 | (simp only [Int.reduceToNat] at ho_2; rw [← Ny443.out] at ho_2)); have n0_ := zb.mk (Kd.zta (by (with_reducible repeat (first | apply Kd.zo | apply Kd.zq | apply Kd.zA)); exact HO436.out) hb); have n1_ := zb.mk (Kd.R_elder' (by (with_reducible repeat (first | apply Kd.zo | apply Kd.zq | apply Kd.zA)); exact HO442.out) (Kd.R_base ho_2) hb); have n2_ := zb.mk (Kd.zua (Kd.R_new' ho_2 (Kd.R_lt (by (with_reducible repeat (first | apply Kd.zo | apply Kd.zq | apply Kd.zA)); exact HO442.out))) (zt (by repeat (first | (with_reducible first | exact HB.out | apply zg | apply ze | apply zf | refine zh ?_ (za.ge HI433.out) | refine zh ?_ GE432.out | refine zh ?_ GE439.out) | exact HB.out)))); have n3_ := zb.mk (zG (g := gb432) (o := .cells #[.slice none 0 0] 26 (0, 0)) (by (with_reducible repeat (first | refine zk ?_ _ | refine zm ?_ | refine zi ?_ _)); exact BK432.out) hb); have n4_ := zb.mk (za.below (by repeat (first | (with_reducible first | exact HI433.out | apply za.alloc | apply za.drewN | apply za.drew | apply za.zca | apply za.zba | refine za.far ?_ NB433_432.out _ | refine za.far ?_ NB433_439.out _) | exact HI433.out)) hb); have n5_ := zb.mk (zG (g := gb439) (o := .cells #[.slice Ao_1 t434.length co_1] 26 (0, 0)) (by (with_reducible repeat (first | refine zk ?_ _ | refine zm ?_ | refine zi ?_ _)); exact BK439.out) hb); have n6_ := zb.mk (zw (by repeat (first | (with_reducible first | exact HB.out | apply zg | apply ze | apply zf | refine zh ?_ (za.ge HI433.out) | refine zh ?_ GE432.out | refine zh ?_ GE439.out) | exact HB.out)) hb); clear HO436; clear HO442; clear BK432; clear HI433; clear BK439; clear HB; have HO436 := n0_; have HO442 := n1_; have HO445 := n2_; have BK432 := n3_; have HI433 := n4_; have BK439 := n5_; have HB := n6_; clear n0_ n1_ n2_ n3_ n4_ n5_ n6_; clear hb ho_2; obtain ⟨Ao_2, co_2, eo_2⟩ := Kd.zpa HO445.out; subst eo_2) | ((with_reducible refine zH (f := 126) rfl ?_); refine zra (some 15) rfl rfl Tryz.func126 (by kernel_rfl) rfl #[.pointer (some ⟨gb433, 0, none⟩), .slice Ao_2 y443.length co_2] rfl (by (try simp only [List.map_toArray, List.map_cons, List.map_nil]); first | done | rfl | (simp only [List.length_drop, List.length_take]; rfl)) ?_; (with_reducible refine (zCa.calls gb433 l0 t437 t438 _ _ y443 t446 t447 t448 w _ ?side1 ?side2 ?side3 ?side4 ?side5 A4.out).mono ?_); (case side1 => repeat (first | (with_reducible first | exact HI433.out | apply za.alloc | apply za.drewN | apply za.drew | apply za.zca | apply za.zba | refine za.far ?_ NB433_432.out _ | refine za.far ?_ NB433_439.out _) | exact HI433.out)); (case side2 => repeat (first | (with_reducible first | exact HB.out | apply zg | apply ze | apply zf | refine zh ?_ (za.ge HI433.out) | refine zh ?_ GE432.out | refine zh ?_ GE439.out) | exact HB.out)); (case side3 => repeat (first | exact (Kd.zQ HO445.out).2.2 | (with_reducible refine Kd.zga ?_ _) | (with_reducible refine Kd.zia ?_ _) | (with_reducible refine Kd.zAa ?_))); (case side4 => exact (Kd.zQ HO445.out).2.1); (case side5 => exact far_slice (za.own_ne HI433.out HO445.out (by decide))); rintro e w_7 ⟨rfl, hi, hb, hk⟩; refine ⟨_, rfl, ?_⟩; have n0_ := zb.mk (zn.blk hk (g' := gb432) (o := .cells #[.slice none 0 0] 26 (0, 0)) (by (with_reducible repeat (first | refine zk ?_ _ | refine zm ?_ | refine zi ?_ _)); exact BK432.out) NB432_433.out (by simp)); have n1_ := zb.mk (Kd.zZ (Kd.zGa (za.apart (show za w _ gb433 l0 t437 t438 from by repeat (first | (with_reducible first | exact HI433.out | apply za.alloc | apply za.drewN | apply za.drew | apply za.zca | apply za.zba | refine za.far ?_ NB433_432.out _ | refine za.far ?_ NB433_439.out _) | exact HI433.out)) (by (with_reducible repeat (first | apply Kd.zo | apply Kd.zq | apply Kd.zA)); exact HO436.out) (by decide)) hk (fun _ h => h.2)) (fun _ h => h.1)); have n2_ := zb.mk (zn.blk hk (g' := gb439) (o := .cells #[.slice Ao_1 t434.length co_1] 26 (0, 0)) (by (with_reducible repeat (first | refine zk ?_ _ | refine zm ?_ | refine zi ?_ _)); exact BK439.out) NB439_433.out (by simp)); have n3_ := zb.mk (Kd.zZ (Kd.zGa (za.apart (show za w _ gb433 l0 t437 t438 from by repeat (first | (with_reducible first | exact HI433.out | apply za.alloc | apply za.drewN | apply za.drew | apply za.zca | apply za.zba | refine za.far ?_ NB433_432.out _ | refine za.far ?_ NB433_439.out _) | exact HI433.out)) (by (with_reducible repeat (first | apply Kd.zo | apply Kd.zq | apply Kd.zA)); exact HO442.out) (by decide)) hk (fun _ h => h.2)) (fun _ h => h.1)); have n4_ := zb.mk (Kd.zZ (Kd.zGa (za.apart (show za w _ gb433 l0 t437 t438 from by repeat (first | (with_reducible first | exact HI433.out | apply za.alloc | apply za.drewN | apply za.drew | apply za.zca | apply za.zba | refine za.far ?_ NB433_432.out _ | refine za.far ?_ NB433_439.out _) | exact HI433.out)) (by (with_reducible repeat (first | apply Kd.zo | apply Kd.zq | apply Kd.zA)); exact HO445.out) (by decide)) hk (fun _ h => h.2)) (fun _ h => h.1)); have n5_ := zb.mk (hb); have n6_ := zb.mk (hi); clear BK432; clear HO436; clear BK439; clear HO442; clear HO445; clear HB; clear HI433; have BK432 := n0_; have HO436 := n1_; have BK439 := n2_; have HO442 := n3_; have HO445 := n4_; have HB := n5_; have HI433 := n6_; clear n0_ n1_ n2_ n3_ n4_ n5_ n6_; (try clear hb); (try clear hb_1); (try clear hk); (try clear hi); obtain ⟨Ao_3, co_3, eo_3⟩ := Kd.zpa HO442.out; subst eo_3) | ((with_reducible refine zH (f := 123) rfl ?_); refine zra (some 16) rfl rfl Tryz.func123 (by kernel_rfl) rfl #[.slice Ao_3 t440.length co_3, .string t446] rfl (by (try simp only [List.map_toArray, List.map_cons, List.map_nil]); first | done | rfl | (simp only [List.length_drop, List.length_take]; rfl)) ?_; (with_reducible refine (zfa.calls k _ _ t440 t446 t449 _ ?side1 ?side2 A5.out).mono ?_); (case side1 => repeat (first | exact (Kd.zQ HO442.out).2.2 | (with_reducible refine Kd.zga ?_ _) | (with_reducible refine Kd.zia ?_ _) | (with_reducible refine Kd.zAa ?_))); (case side2 => exact (Kd.zQ HO442.out).2.1); rintro e w_8 ⟨v450, rfl, ho_1, hb⟩; refine ⟨_, rfl, ?_⟩; have n0_ := zb.mk (Kd.zta (by (with_reducible repeat (first | apply Kd.zo | apply Kd.zq | apply Kd.zA)); exact HO436.out) hb); have n1_ := zb.mk (Kd.R_elder' (by (with_reducible repeat (first | apply Kd.zo | apply Kd.zq | apply Kd.zA)); exact HO442.out) (Kd.R_base ho_1) hb); have n2_ := zb.mk (Kd.R_elder' (by (with_reducible repeat (first | apply Kd.zo | apply Kd.zq | apply Kd.zA)); exact HO445.out) (Kd.R_base ho_1) hb); have n3_ := zb.mk (Kd.zua (Kd.R_new' (Kd.R_new' ho_1 (Kd.R_lt (by (with_reducible repeat (first | apply Kd.zo | apply Kd.zq | apply Kd.zA)); exact HO442.out))) (Kd.R_lt (by (with_reducible repeat (first | apply Kd.zo | apply Kd.zq | apply Kd.zA)); exact HO445.out))) (zt (by repeat (first | (with_reducible first | exact HB.out | apply zg | apply ze | apply zf | refine zh ?_ (za.ge HI433.out) | refine zh ?_ GE432.out | refine zh ?_ GE439.out) | exact HB.out)))); have n4_ := zb.mk (zG (g := gb432) (o := .cells #[.slice none 0 0] 26 (0, 0)) (by (with_reducible repeat (first | refine zk ?_ _ | refine zm ?_ | refine zi ?_ _)); exact BK432.out) hb); have n5_ := zb.mk (za.below (by repeat (first | (with_reducible first | exact HI433.out | apply za.alloc | apply za.drewN | apply za.drew | apply za.zca | apply za.zba | refine za.far ?_ NB433_432.out _ | refine za.far ?_ NB433_439.out _) | exact HI433.out)) hb); have n6_ := zb.mk (zG (g := gb439) (o := .cells #[.slice Ao_1 t434.length co_1] 26 (0, 0)) (by (with_reducible repeat (first | refine zk ?_ _ | refine zm ?_ | refine zi ?_ _)); exact BK439.out) hb); have n7_ := zb.mk (zw (by repeat (first | (with_reducible first | exact HB.out | apply zg | apply ze | apply zf | refine zh ?_ (za.ge HI433.out) | refine zh ?_ GE432.out | refine zh ?_ GE439.out) | exact HB.out)) hb); clear HO436; clear HO442; clear HO445; clear BK432; clear HI433; clear BK439; clear HB; have HO436 := n0_; have HO442 := n1_; have HO445 := n2_; have HO451 := n3_; have BK432 := n4_; have HI433 := n5_; have BK439 := n6_; have HB := n7_; clear n0_ n1_ n2_ n3_ n4_ n5_ n6_ n7_; (try clear hb); (try clear hb_1); (try clear hk); (try clear hi); (try clear ho_1); have hcz_2_0 : w_8.cell? ⟨gb439, 0, none⟩ = some (.slice Ao_1 t434.length co_1) := (zD BK439.out 0).trans rfl; have hfz_2_0 := zz BK439.out 0))
  rotate_left 2
  iterate 2 ((focus ((first | (go_at_call 118; (with_reducible refine (zea.calls k _ _ t434 _ _ ?side1 ?side2 A6.out).mono ?_); (case side1 => repeat (first | exact (Kd.zQ HO436.out).2.2 | (with_reducible refine Kd.zga ?_ _) | (with_reducible refine Kd.zia ?_ _) | (with_reducible refine Kd.zAa ?_))); (case side2 => exact (Kd.zQ HO436.out).2.1); rintro e w_9 ⟨rfl, hb⟩; have n0_ := zb.mk (Kd.zta (by (with_reducible repeat (first | apply Kd.zo | apply Kd.zq | apply Kd.zA)); exact HO436.out) hb); have n1_ := zb.mk (Kd.zta (by (with_reducible repeat (first | apply Kd.zo | apply Kd.zq | apply Kd.zA)); exact HO442.out) hb); have n2_ := zb.mk (Kd.zta (by (with_reducible repeat (first | apply Kd.zo | apply Kd.zq | apply Kd.zA)); exact HO445.out) hb); have n3_ := zb.mk (Kd.zta (by (with_reducible repeat (first | apply Kd.zo | apply Kd.zq | apply Kd.zA)); exact HO451.out) hb); have n4_ := zb.mk (zG (g := gb432) (o := .cells #[.slice none 0 0] 26 (0, 0)) (by (with_reducible repeat (first | refine zk ?_ _ | refine zm ?_ | refine zi ?_ _)); exact BK432.out) hb); have n5_ := zb.mk (za.below (by repeat (first | (with_reducible first | exact HI433.out | apply za.alloc | apply za.drewN | apply za.drew | apply za.zca | apply za.zba | refine za.far ?_ NB433_432.out _ | refine za.far ?_ NB433_439.out _) | exact HI433.out)) hb); have n6_ := zb.mk (zG (g := gb439) (o := .cells #[.slice Ao_1 t434.length co_1] 26 (0, 0)) (by (with_reducible repeat (first | refine zk ?_ _ | refine zm ?_ | refine zi ?_ _)); exact BK439.out) hb); have n7_ := zb.mk (zw (by repeat (first | (with_reducible first | exact HB.out | apply zg | apply ze | apply zf | refine zh ?_ (za.ge HI433.out) | refine zh ?_ GE432.out | refine zh ?_ GE439.out) | exact HB.out)) hb); clear HO436; clear HO442; clear HO445; clear HO451; clear BK432; clear HI433; clear BK439; clear HB; have HO436 := n0_; have HO442 := n1_; have HO445 := n2_; have HO451 := n3_; have BK432 := n4_; have HI433 := n5_; have BK439 := n6_; have HB := n7_; clear n0_ n1_ n2_ n3_ n4_ n5_ n6_ n7_; (try clear hb); (try clear hb_1); (try clear hk); (try clear hi); obtain ⟨Ao_4, co_4, eo_4⟩ := Kd.zpa HO451.out; subst eo_4) | skip); try go_wp2_with (first | ((with_reducible refine zH (f := 118) rfl ?_); refine zra (some 18) rfl rfl Tryz.func118 (by kernel_rfl) rfl #[.agg #[.slice Ao_1 t434.length co_1]] rfl (by (try simp only [List.map_toArray, List.map_cons, List.map_nil]); first | done | rfl | (simp only [List.length_drop, List.length_take]; rfl)) ?_; (with_reducible refine (zea.calls k _ _ t434 _ _ ?side1 ?side2 A6.out).mono ?_); (case side1 => repeat (first | exact (Kd.zQ HO436.out).2.2 | (with_reducible refine Kd.zga ?_ _) | (with_reducible refine Kd.zia ?_ _) | (with_reducible refine Kd.zAa ?_))); (case side2 => exact (Kd.zQ HO436.out).2.1); rintro e w_9 ⟨rfl, hb⟩; refine ⟨_, rfl, ?_⟩; have n0_ := zb.mk (Kd.zta (by (with_reducible repeat (first | apply Kd.zo | apply Kd.zq | apply Kd.zA)); exact HO436.out) hb); have n1_ := zb.mk (Kd.zta (by (with_reducible repeat (first | apply Kd.zo | apply Kd.zq | apply Kd.zA)); exact HO442.out) hb); have n2_ := zb.mk (Kd.zta (by (with_reducible repeat (first | apply Kd.zo | apply Kd.zq | apply Kd.zA)); exact HO445.out) hb); have n3_ := zb.mk (Kd.zta (by (with_reducible repeat (first | apply Kd.zo | apply Kd.zq | apply Kd.zA)); exact HO451.out) hb); have n4_ := zb.mk (zG (g := gb432) (o := .cells #[.slice none 0 0] 26 (0, 0)) (by (with_reducible repeat (first | refine zk ?_ _ | refine zm ?_ | refine zi ?_ _)); exact BK432.out) hb); have n5_ := zb.mk (za.below (by repeat (first | (with_reducible first | exact HI433.out | apply za.alloc | apply za.drewN | apply za.drew | apply za.zca | apply za.zba | refine za.far ?_ NB433_432.out _ | refine za.far ?_ NB433_439.out _) | exact HI433.out)) hb); have n6_ := zb.mk (zG (g := gb439) (o := .cells #[.slice Ao_1 t434.length co_1] 26 (0, 0)) (by (with_reducible repeat (first | refine zk ?_ _ | refine zm ?_ | refine zi ?_ _)); exact BK439.out) hb); have n7_ := zb.mk (zw (by repeat (first | (with_reducible first | exact HB.out | apply zg | apply ze | apply zf | refine zh ?_ (za.ge HI433.out) | refine zh ?_ GE432.out | refine zh ?_ GE439.out) | exact HB.out)) hb); clear HO436; clear HO442; clear HO445; clear HO451; clear BK432; clear HI433; clear BK439; clear HB; have HO436 := n0_; have HO442 := n1_; have HO445 := n2_; have HO451 := n3_; have BK432 := n4_; have HI433 := n5_; have BK439 := n6_; have HB := n7_; clear n0_ n1_ n2_ n3_ n4_ n5_ n6_ n7_; (try clear hb); (try clear hb_1); (try clear hk); (try clear hi); obtain ⟨Ao_4, co_4, eo_4⟩ := Kd.zpa HO451.out; subst eo_4)))); rotate_left 1)
  ·(first | (go_at_call 118; (with_reducible refine (zea.calls k _ _ t434 _ _ ?side1 ?side2 A6.out).mono ?_); (case side1 => repeat (first | exact (Kd.zQ HO436.out).2.2 | (with_reducible refine Kd.zga ?_ _) | (with_reducible refine Kd.zia ?_ _) | (with_reducible refine Kd.zAa ?_))); (case side2 => exact (Kd.zQ HO436.out).2.1); rintro e w_9 ⟨rfl, hb⟩; have n0_ := zb.mk (Kd.zta (by (with_reducible repeat (first | apply Kd.zo | apply Kd.zq | apply Kd.zA)); exact HO436.out) hb); have n1_ := zb.mk (Kd.zta (by (with_reducible repeat (first | apply Kd.zo | apply Kd.zq | apply Kd.zA)); exact HO442.out) hb); have n2_ := zb.mk (Kd.zta (by (with_reducible repeat (first | apply Kd.zo | apply Kd.zq | apply Kd.zA)); exact HO445.out) hb); have n3_ := zb.mk (Kd.zta (by (with_reducible repeat (first | apply Kd.zo | apply Kd.zq | apply Kd.zA)); exact HO451.out) hb); have n4_ := zb.mk (zG (g := gb432) (o := .cells #[.slice none 0 0] 26 (0, 0)) (by (with_reducible repeat (first | refine zk ?_ _ | refine zm ?_ | refine zi ?_ _)); exact BK432.out) hb); have n5_ := zb.mk (za.below (by repeat (first | (with_reducible first | exact HI433.out | apply za.alloc | apply za.drewN | apply za.drew | apply za.zca | apply za.zba | refine za.far ?_ NB433_432.out _ | refine za.far ?_ NB433_439.out _) | exact HI433.out)) hb); have n6_ := zb.mk (zG (g := gb439) (o := .cells #[.slice Ao_1 t434.length co_1] 26 (0, 0)) (by (with_reducible repeat (first | refine zk ?_ _ | refine zm ?_ | refine zi ?_ _)); exact BK439.out) hb); have n7_ := zb.mk (zw (by repeat (first | (with_reducible first | exact HB.out | apply zg | apply ze | apply zf | refine zh ?_ (za.ge HI433.out) | refine zh ?_ GE432.out | refine zh ?_ GE439.out) | exact HB.out)) hb); clear HO436; clear HO442; clear HO445; clear HO451; clear BK432; clear HI433; clear BK439; clear HB; have HO436 := n0_; have HO442 := n1_; have HO445 := n2_; have HO451 := n3_; have BK432 := n4_; have HI433 := n5_; have BK439 := n6_; have HB := n7_; clear n0_ n1_ n2_ n3_ n4_ n5_ n6_ n7_; (try clear hb); (try clear hb_1); (try clear hk); (try clear hi); have hcz_3_0 : w_9.cell? ⟨gb439, 0, none⟩ = some (.slice Ao_1 t434.length co_1) := (zD BK439.out 0).trans rfl; have hfz_3_0 := zz BK439.out 0; have hnb_3 := NB432_433.out; have hnc_3 := NB433_432.out; have hcz_4_0 : w_9.cell? ⟨gb432, 0, none⟩ = some (.slice none 0 0) := (zD BK432.out 0).trans rfl; have hfz_4_0 := zz BK432.out 0) | skip); try go_wp2_with (first | ((with_reducible refine zH (f := 118) rfl ?_); refine zra (some 18) rfl rfl Tryz.func118 (by kernel_rfl) rfl #[.agg #[.slice Ao_1 t434.length co_1]] rfl (by (try simp only [List.map_toArray, List.map_cons, List.map_nil]); first | done | rfl | (simp only [List.length_drop, List.length_take]; rfl)) ?_; (with_reducible refine (zea.calls k _ _ t434 _ _ ?side1 ?side2 A6.out).mono ?_); (case side1 => repeat (first | exact (Kd.zQ HO436.out).2.2 | (with_reducible refine Kd.zga ?_ _) | (with_reducible refine Kd.zia ?_ _) | (with_reducible refine Kd.zAa ?_))); (case side2 => exact (Kd.zQ HO436.out).2.1); rintro e w_9 ⟨rfl, hb⟩; refine ⟨_, rfl, ?_⟩; have n0_ := zb.mk (Kd.zta (by (with_reducible repeat (first | apply Kd.zo | apply Kd.zq | apply Kd.zA)); exact HO436.out) hb); have n1_ := zb.mk (Kd.zta (by (with_reducible repeat (first | apply Kd.zo | apply Kd.zq | apply Kd.zA)); exact HO442.out) hb); have n2_ := zb.mk (Kd.zta (by (with_reducible repeat (first | apply Kd.zo | apply Kd.zq | apply Kd.zA)); exact HO445.out) hb); have n3_ := zb.mk (Kd.zta (by (with_reducible repeat (first | apply Kd.zo | apply Kd.zq | apply Kd.zA)); exact HO451.out) hb); have n4_ := zb.mk (zG (g := gb432) (o := .cells #[.slice none 0 0] 26 (0, 0)) (by (with_reducible repeat (first | refine zk ?_ _ | refine zm ?_ | refine zi ?_ _)); exact BK432.out) hb); have n5_ := zb.mk (za.below (by repeat (first | (with_reducible first | exact HI433.out | apply za.alloc | apply za.drewN | apply za.drew | apply za.zca | apply za.zba | refine za.far ?_ NB433_432.out _ | refine za.far ?_ NB433_439.out _) | exact HI433.out)) hb); have n6_ := zb.mk (zG (g := gb439) (o := .cells #[.slice Ao_1 t434.length co_1] 26 (0, 0)) (by (with_reducible repeat (first | refine zk ?_ _ | refine zm ?_ | refine zi ?_ _)); exact BK439.out) hb); have n7_ := zb.mk (zw (by repeat (first | (with_reducible first | exact HB.out | apply zg | apply ze | apply zf | refine zh ?_ (za.ge HI433.out) | refine zh ?_ GE432.out | refine zh ?_ GE439.out) | exact HB.out)) hb); clear HO436; clear HO442; clear HO445; clear HO451; clear BK432; clear HI433; clear BK439; clear HB; have HO436 := n0_; have HO442 := n1_; have HO445 := n2_; have HO451 := n3_; have BK432 := n4_; have HI433 := n5_; have BK439 := n6_; have HB := n7_; clear n0_ n1_ n2_ n3_ n4_ n5_ n6_ n7_; (try clear hb); (try clear hb_1); (try clear hk); (try clear hi); have hcz_3_0 : w_9.cell? ⟨gb439, 0, none⟩ = some (.slice Ao_1 t434.length co_1) := (zD BK439.out 0).trans rfl; have hfz_3_0 := zz BK439.out 0; have hnb_3 := NB432_433.out; have hnc_3 := NB433_432.out; have hcz_4_0 : w_9.cell? ⟨gb432, 0, none⟩ = some (.slice none 0 0) := (zD BK432.out 0).trans rfl; have hfz_4_0 := zz BK432.out 0))
   refine bodyPost_ret (results_cell_row rfl _ _ gb432 26 #[.slice Ao_1 t434.length co_1] (0, 0) _ rfl (by (with_reducible repeat (first | refine zk ?_ _ | refine zm ?_ | refine zi ?_ _)); refine blk_put (cs := #[.slice none 0 0]) ?_ 0 _ rfl; (with_reducible repeat (first | refine zk ?_ _ | refine zm ?_ | refine zi ?_ _)); exact BK432.out) Tryz.underlying26 rfl (by kernel_rfl)) rfl ?_
   exact ⟨_, by first | rfl | (simp [zC, zB] <;> rfl) | (simp [*, zC, zB] <;> rfl), by (with_reducible repeat (first | apply Kd.zo | apply Kd.zq | apply Kd.zA)); exact Kd.zZ (Kd.R_far (p := ⟨gb432, 0, none⟩) (Kd.zUa HO436.out BK432.out (by decide)) (fun _ hk => hk.2) (.slice Ao_1 t434.length co_1)) (fun _ hk => trivial), by repeat (first | (with_reducible first | exact HB.out | apply zg | apply ze | apply zf | refine zh ?_ (za.ge HI433.out) | refine zh ?_ GE432.out | refine zh ?_ GE439.out) | exact HB.out)⟩
  ·(first | (go_at_call 118; (with_reducible refine (zea.calls k _ _ t434 _ _ ?side1 ?side2 A6.out).mono ?_); (case side1 => repeat (first | exact (Kd.zQ HO436.out).2.2 | (with_reducible refine Kd.zga ?_ _) | (with_reducible refine Kd.zia ?_ _) | (with_reducible refine Kd.zAa ?_))); (case side2 => exact (Kd.zQ HO436.out).2.1); rintro e w_9 ⟨rfl, hb⟩; have n0_ := zb.mk (Kd.zta (by (with_reducible repeat (first | apply Kd.zo | apply Kd.zq | apply Kd.zA)); exact HO436.out) hb); have n1_ := zb.mk (Kd.zta (by (with_reducible repeat (first | apply Kd.zo | apply Kd.zq | apply Kd.zA)); exact HO442.out) hb); have n2_ := zb.mk (Kd.zta (by (with_reducible repeat (first | apply Kd.zo | apply Kd.zq | apply Kd.zA)); exact HO445.out) hb); have n3_ := zb.mk (Kd.zta (by (with_reducible repeat (first | apply Kd.zo | apply Kd.zq | apply Kd.zA)); exact HO451.out) hb); have n4_ := zb.mk (zG (g := gb432) (o := .cells #[.slice none 0 0] 26 (0, 0)) (by (with_reducible repeat (first | refine zk ?_ _ | refine zm ?_ | refine zi ?_ _)); exact BK432.out) hb); have n5_ := zb.mk (za.below (by repeat (first | (with_reducible first | exact HI433.out | apply za.alloc | apply za.drewN | apply za.drew | apply za.zca | apply za.zba | refine za.far ?_ NB433_432.out _ | refine za.far ?_ NB433_439.out _) | exact HI433.out)) hb); have n6_ := zb.mk (zG (g := gb439) (o := .cells #[.slice Ao_1 t434.length co_1] 26 (0, 0)) (by (with_reducible repeat (first | refine zk ?_ _ | refine zm ?_ | refine zi ?_ _)); exact BK439.out) hb); have n7_ := zb.mk (zw (by repeat (first | (with_reducible first | exact HB.out | apply zg | apply ze | apply zf | refine zh ?_ (za.ge HI433.out) | refine zh ?_ GE432.out | refine zh ?_ GE439.out) | exact HB.out)) hb); clear HO436; clear HO442; clear HO445; clear HO451; clear BK432; clear HI433; clear BK439; clear HB; have HO436 := n0_; have HO442 := n1_; have HO445 := n2_; have HO451 := n3_; have BK432 := n4_; have HI433 := n5_; have BK439 := n6_; have HB := n7_; clear n0_ n1_ n2_ n3_ n4_ n5_ n6_ n7_; (try clear hb); (try clear hb_1); (try clear hk); (try clear hi); obtain ⟨Ao_4, co_4, eo_4⟩ := Kd.zpa HO451.out; subst eo_4; have hcz_3_0 : w_9.cell? ⟨gb439, 0, none⟩ = some (.slice Ao_1 t434.length co_1) := (zD BK439.out 0).trans rfl; have hfz_3_0 := zz BK439.out 0; have hnb_3 := NB432_433.out; have hnc_3 := NB433_432.out; have hcz_4_0 : w_9.cell? ⟨gb432, 0, none⟩ = some (.slice none 0 0) := (zD BK432.out 0).trans rfl; have hfz_4_0 := zz BK432.out 0) | skip); try go_wp2_with (first | ((with_reducible refine zH (f := 118) rfl ?_); refine zra (some 18) rfl rfl Tryz.func118 (by kernel_rfl) rfl #[.agg #[.slice Ao_1 t434.length co_1]] rfl (by (try simp only [List.map_toArray, List.map_cons, List.map_nil]); first | done | rfl | (simp only [List.length_drop, List.length_take]; rfl)) ?_; (with_reducible refine (zea.calls k _ _ t434 _ _ ?side1 ?side2 A6.out).mono ?_); (case side1 => repeat (first | exact (Kd.zQ HO436.out).2.2 | (with_reducible refine Kd.zga ?_ _) | (with_reducible refine Kd.zia ?_ _) | (with_reducible refine Kd.zAa ?_))); (case side2 => exact (Kd.zQ HO436.out).2.1); rintro e w_9 ⟨rfl, hb⟩; refine ⟨_, rfl, ?_⟩; have n0_ := zb.mk (Kd.zta (by (with_reducible repeat (first | apply Kd.zo | apply Kd.zq | apply Kd.zA)); exact HO436.out) hb); have n1_ := zb.mk (Kd.zta (by (with_reducible repeat (first | apply Kd.zo | apply Kd.zq | apply Kd.zA)); exact HO442.out) hb); have n2_ := zb.mk (Kd.zta (by (with_reducible repeat (first | apply Kd.zo | apply Kd.zq | apply Kd.zA)); exact HO445.out) hb); have n3_ := zb.mk (Kd.zta (by (with_reducible repeat (first | apply Kd.zo | apply Kd.zq | apply Kd.zA)); exact HO451.out) hb); have n4_ := zb.mk (zG (g := gb432) (o := .cells #[.slice none 0 0] 26 (0, 0)) (by (with_reducible repeat (first | refine zk ?_ _ | refine zm ?_ | refine zi ?_ _)); exact BK432.out) hb); have n5_ := zb.mk (za.below (by repeat (first | (with_reducible first | exact HI433.out | apply za.alloc | apply za.drewN | apply za.drew | apply za.zca | apply za.zba | refine za.far ?_ NB433_432.out _ | refine za.far ?_ NB433_439.out _) | exact HI433.out)) hb); have n6_ := zb.mk (zG (g := gb439) (o := .cells #[.slice Ao_1 t434.length co_1] 26 (0, 0)) (by (with_reducible repeat (first | refine zk ?_ _ | refine zm ?_ | refine zi ?_ _)); exact BK439.out) hb); have n7_ := zb.mk (zw (by repeat (first | (with_reducible first | exact HB.out | apply zg | apply ze | apply zf | refine zh ?_ (za.ge HI433.out) | refine zh ?_ GE432.out | refine zh ?_ GE439.out) | exact HB.out)) hb); clear HO436; clear HO442; clear HO445; clear HO451; clear BK432; clear HI433; clear BK439; clear HB; have HO436 := n0_; have HO442 := n1_; have HO445 := n2_; have HO451 := n3_; have BK432 := n4_; have HI433 := n5_; have BK439 := n6_; have HB := n7_; clear n0_ n1_ n2_ n3_ n4_ n5_ n6_ n7_; (try clear hb); (try clear hb_1); (try clear hk); (try clear hi); obtain ⟨Ao_4, co_4, eo_4⟩ := Kd.zpa HO451.out; subst eo_4; have hcz_3_0 : w_9.cell? ⟨gb439, 0, none⟩ = some (.slice Ao_1 t434.length co_1) := (zD BK439.out 0).trans rfl; have hfz_3_0 := zz BK439.out 0; have hnb_3 := NB432_433.out; have hnc_3 := NB433_432.out; have hcz_4_0 : w_9.cell? ⟨gb432, 0, none⟩ = some (.slice none 0 0) := (zD BK432.out 0).trans rfl; have hfz_4_0 := zz BK432.out 0))
   refine bodyPost_ret (results_cell_row rfl _ _ gb432 26 #[.slice Ao_1 t434.length co_1] (0, 0) _ rfl (by (with_reducible repeat (first | refine zk ?_ _ | refine zm ?_ | refine zi ?_ _)); refine blk_put (cs := #[.slice none 0 0]) ?_ 0 _ rfl; (with_reducible repeat (first | refine zk ?_ _ | refine zm ?_ | refine zi ?_ _)); exact BK432.out) Tryz.underlying26 rfl (by kernel_rfl)) rfl ?_
   exact ⟨_, by first | rfl | (simp [zC, zB] <;> rfl) | (simp [*, zC, zB] <;> rfl), by (with_reducible repeat (first | apply Kd.zo | apply Kd.zq | apply Kd.zA)); exact Kd.zZ (Kd.R_far (p := ⟨gb432, 0, none⟩) (Kd.zUa HO436.out BK432.out (by decide)) (fun _ hk => hk.2) (.slice Ao_1 t434.length co_1)) (fun _ hk => trivial), by repeat (first | (with_reducible first | exact HB.out | apply zg | apply ze | apply zf | refine zh ?_ (za.ge HI433.out) | refine zh ?_ GE432.out | refine zh ?_ GE439.out) | exact HB.out)⟩
  ·(first | (go_at_call 127; (with_reducible refine (zM.calls gb433 l0 t447 t448 2 _ t454 t455 w _ ?side1 ?side2 A9.out).mono ?_); (case side1 => repeat (first | (with_reducible first | exact HI433.out | apply za.alloc | apply za.drewN | apply za.drew | apply za.zca | apply za.zba | refine za.far ?_ NB433_432.out _ | refine za.far ?_ NB433_439.out _) | exact HI433.out)); (case side2 => repeat (first | (with_reducible first | exact HB.out | apply zg | apply ze | apply zf | refine zh ?_ (za.ge HI433.out) | refine zh ?_ GE432.out | refine zh ?_ GE439.out) | exact HB.out)); rintro e w_10 ⟨rfl, hi, hb, hk⟩; have n0_ := zb.mk (zn.blk hk (g' := gb432) (o := .cells #[.slice none 0 0] 26 (0, 0)) (by (with_reducible repeat (first | refine zk ?_ _ | refine zm ?_ | refine zi ?_ _)); exact BK432.out) NB432_433.out (by simp)); have n1_ := zb.mk (Kd.zZ (Kd.zGa (za.apart (show za w _ gb433 l0 t447 t448 from by repeat (first | (with_reducible first | exact HI433.out | apply za.alloc | apply za.drewN | apply za.drew | apply za.zca | apply za.zba | refine za.far ?_ NB433_432.out _ | refine za.far ?_ NB433_439.out _) | exact HI433.out)) (by (with_reducible repeat (first | apply Kd.zo | apply Kd.zq | apply Kd.zA)); exact HO436.out) (by decide)) hk (fun _ h => h.2)) (fun _ h => h.1)); have n2_ := zb.mk (zn.blk hk (g' := gb439) (o := .cells #[.slice Ao_1 t434.length co_1] 26 (0, 0)) (by (with_reducible repeat (first | refine zk ?_ _ | refine zm ?_ | refine zi ?_ _)); exact BK439.out) NB439_433.out (by simp)); have n3_ := zb.mk (Kd.zZ (Kd.zGa (za.apart (show za w _ gb433 l0 t447 t448 from by repeat (first | (with_reducible first | exact HI433.out | apply za.alloc | apply za.drewN | apply za.drew | apply za.zca | apply za.zba | refine za.far ?_ NB433_432.out _ | refine za.far ?_ NB433_439.out _) | exact HI433.out)) (by (with_reducible repeat (first | apply Kd.zo | apply Kd.zq | apply Kd.zA)); exact HO442.out) (by decide)) hk (fun _ h => h.2)) (fun _ h => h.1)); have n4_ := zb.mk (Kd.zZ (Kd.zGa (za.apart (show za w _ gb433 l0 t447 t448 from by repeat (first | (with_reducible first | exact HI433.out | apply za.alloc | apply za.drewN | apply za.drew | apply za.zca | apply za.zba | refine za.far ?_ NB433_432.out _ | refine za.far ?_ NB433_439.out _) | exact HI433.out)) (by (with_reducible repeat (first | apply Kd.zo | apply Kd.zq | apply Kd.zA)); exact HO445.out) (by decide)) hk (fun _ h => h.2)) (fun _ h => h.1)); have n5_ := zb.mk (Kd.zZ (Kd.zGa (za.apart (show za w _ gb433 l0 t447 t448 from by repeat (first | (with_reducible first | exact HI433.out | apply za.alloc | apply za.drewN | apply za.drew | apply za.zca | apply za.zba | refine za.far ?_ NB433_432.out _ | refine za.far ?_ NB433_439.out _) | exact HI433.out)) (by (with_reducible repeat (first | apply Kd.zo | apply Kd.zq | apply Kd.zA)); exact HO451.out) (by decide)) hk (fun _ h => h.2)) (fun _ h => h.1)); have n6_ := zb.mk (hb); have n7_ := zb.mk (hi); clear BK432; clear HO436; clear BK439; clear HO442; clear HO445; clear HO451; clear HB; clear HI433; have BK432 := n0_; have HO436 := n1_; have BK439 := n2_; have HO442 := n3_; have HO445 := n4_; have HO451 := n5_; have HB := n6_; have HI433 := n7_; clear n0_ n1_ n2_ n3_ n4_ n5_ n6_ n7_; (try clear hb); (try clear hb_1); (try clear hk); (try clear hi); have hcz_3_0 : w_10.cell? ⟨gb439, 0, none⟩ = some (.slice Ao_1 t434.length co_1) := (zD BK439.out 0).trans rfl; have hfz_3_0 := zz BK439.out 0; have hnb_3 := NB432_433.out; have hnc_3 := NB433_432.out; have hcz_4_0 : w_10.cell? ⟨gb432, 0, none⟩ = some (.slice none 0 0) := (zD BK432.out 0).trans rfl; have hfz_4_0 := zz BK432.out 0) | skip); try go_wp2_with (first | (go_at_call 127; (with_reducible refine (zM.calls gb433 l0 t447 t448 2 _ t454 t455 w _ ?side1 ?side2 A9.out).mono ?_); (case side1 => repeat (first | (with_reducible first | exact HI433.out | apply za.alloc | apply za.drewN | apply za.drew | apply za.zca | apply za.zba | refine za.far ?_ NB433_432.out _ | refine za.far ?_ NB433_439.out _) | exact HI433.out)); (case side2 => repeat (first | (with_reducible first | exact HB.out | apply zg | apply ze | apply zf | refine zh ?_ (za.ge HI433.out) | refine zh ?_ GE432.out | refine zh ?_ GE439.out) | exact HB.out)); rintro e w_10 ⟨rfl, hi, hb, hk⟩; have n0_ := zb.mk (zn.blk hk (g' := gb432) (o := .cells #[.slice none 0 0] 26 (0, 0)) (by (with_reducible repeat (first | refine zk ?_ _ | refine zm ?_ | refine zi ?_ _)); exact BK432.out) NB432_433.out (by simp)); have n1_ := zb.mk (Kd.zZ (Kd.zGa (za.apart (show za w _ gb433 l0 t447 t448 from by repeat (first | (with_reducible first | exact HI433.out | apply za.alloc | apply za.drewN | apply za.drew | apply za.zca | apply za.zba | refine za.far ?_ NB433_432.out _ | refine za.far ?_ NB433_439.out _) | exact HI433.out)) (by (with_reducible repeat (first | apply Kd.zo | apply Kd.zq | apply Kd.zA)); exact HO436.out) (by decide)) hk (fun _ h => h.2)) (fun _ h => h.1)); have n2_ := zb.mk (zn.blk hk (g' := gb439) (o := .cells #[.slice Ao_1 t434.length co_1] 26 (0, 0)) (by (with_reducible repeat (first | refine zk ?_ _ | refine zm ?_ | refine zi ?_ _)); exact BK439.out) NB439_433.out (by simp)); have n3_ := zb.mk (Kd.zZ (Kd.zGa (za.apart (show za w _ gb433 l0 t447 t448 from by repeat (first | (with_reducible first | exact HI433.out | apply za.alloc | apply za.drewN | apply za.drew | apply za.zca | apply za.zba | refine za.far ?_ NB433_432.out _ | refine za.far ?_ NB433_439.out _) | exact HI433.out)) (by (with_reducible repeat (first | apply Kd.zo | apply Kd.zq | apply Kd.zA)); exact HO442.out) (by decide)) hk (fun _ h => h.2)) (fun _ h => h.1)); have n4_ := zb.mk (Kd.zZ (Kd.zGa (za.apart (show za w _ gb433 l0 t447 t448 from by repeat (first | (with_reducible first | exact HI433.out | apply za.alloc | apply za.drewN | apply za.drew | apply za.zca | apply za.zba | refine za.far ?_ NB433_432.out _ | refine za.far ?_ NB433_439.out _) | exact HI433.out)) (by (with_reducible repeat (first | apply Kd.zo | apply Kd.zq | apply Kd.zA)); exact HO445.out) (by decide)) hk (fun _ h => h.2)) (fun _ h => h.1)); have n5_ := zb.mk (Kd.zZ (Kd.zGa (za.apart (show za w _ gb433 l0 t447 t448 from by repeat (first | (with_reducible first | exact HI433.out | apply za.alloc | apply za.drewN | apply za.drew | apply za.zca | apply za.zba | refine za.far ?_ NB433_432.out _ | refine za.far ?_ NB433_439.out _) | exact HI433.out)) (by (with_reducible repeat (first | apply Kd.zo | apply Kd.zq | apply Kd.zA)); exact HO451.out) (by decide)) hk (fun _ h => h.2)) (fun _ h => h.1)); have n6_ := zb.mk (hb); have n7_ := zb.mk (hi); clear BK432; clear HO436; clear BK439; clear HO442; clear HO445; clear HO451; clear HB; clear HI433; have BK432 := n0_; have HO436 := n1_; have BK439 := n2_; have HO442 := n3_; have HO445 := n4_; have HO451 := n5_; have HB := n6_; have HI433 := n7_; clear n0_ n1_ n2_ n3_ n4_ n5_ n6_ n7_; (try clear hb); (try clear hb_1); (try clear hk); (try clear hi); have hcz_3_0 : w_10.cell? ⟨gb439, 0, none⟩ = some (.slice Ao_1 t434.length co_1) := (zD BK439.out 0).trans rfl; have hfz_3_0 := zz BK439.out 0; have hnb_3 := NB432_433.out; have hnc_3 := NB433_432.out; have hcz_4_0 : w_10.cell? ⟨gb432, 0, none⟩ = some (.slice none 0 0) := (zD BK432.out 0).trans rfl; have hfz_4_0 := zz BK432.out 0))
   refine bodyPost_ret (results_cell_row rfl _ _ gb432 26 #[.slice Ao_1 t434.length co_1] (0, 0) _ rfl (by (with_reducible repeat (first | refine zk ?_ _ | refine zm ?_ | refine zi ?_ _)); refine blk_put (cs := #[.slice none 0 0]) ?_ 0 _ rfl; (with_reducible repeat (first | refine zk ?_ _ | refine zm ?_ | refine zi ?_ _)); exact BK432.out) Tryz.underlying26 rfl (by kernel_rfl)) rfl ?_
   exact ⟨_, by first | rfl | (simp [zC, zB] <;> rfl) | (simp [*, zC, zB] <;> rfl), by (with_reducible repeat (first | apply Kd.zo | apply Kd.zq | apply Kd.zA)); exact Kd.zZ (Kd.R_far (p := ⟨gb432, 0, none⟩) (Kd.zUa HO436.out BK432.out (by decide)) (fun _ hk => hk.2) (.slice Ao_1 t434.length co_1)) (fun _ hk => trivial), by repeat (first | (with_reducible first | exact HB.out | apply zg | apply ze | apply zf | refine zh ?_ (za.ge HI433.out) | refine zh ?_ GE432.out | refine zh ?_ GE439.out) | exact HB.out)⟩
  ·(first | (go_at_call 127; (with_reducible refine (zM.calls gb433 l0 t447 t448 2 _ t454 t455 w _ ?side1 ?side2 A9.out).mono ?_); (case side1 => repeat (first | (with_reducible first | exact HI433.out | apply za.alloc | apply za.drewN | apply za.drew | apply za.zca | apply za.zba | refine za.far ?_ NB433_432.out _ | refine za.far ?_ NB433_439.out _) | exact HI433.out)); (case side2 => repeat (first | (with_reducible first | exact HB.out | apply zg | apply ze | apply zf | refine zh ?_ (za.ge HI433.out) | refine zh ?_ GE432.out | refine zh ?_ GE439.out) | exact HB.out)); rintro e w_10 ⟨rfl, hi, hb, hk⟩; have n0_ := zb.mk (zn.blk hk (g' := gb432) (o := .cells #[.slice none 0 0] 26 (0, 0)) (by (with_reducible repeat (first | refine zk ?_ _ | refine zm ?_ | refine zi ?_ _)); exact BK432.out) NB432_433.out (by simp)); have n1_ := zb.mk (Kd.zZ (Kd.zGa (za.apart (show za w _ gb433 l0 t447 t448 from by repeat (first | (with_reducible first | exact HI433.out | apply za.alloc | apply za.drewN | apply za.drew | apply za.zca | apply za.zba | refine za.far ?_ NB433_432.out _ | refine za.far ?_ NB433_439.out _) | exact HI433.out)) (by (with_reducible repeat (first | apply Kd.zo | apply Kd.zq | apply Kd.zA)); exact HO436.out) (by decide)) hk (fun _ h => h.2)) (fun _ h => h.1)); have n2_ := zb.mk (zn.blk hk (g' := gb439) (o := .cells #[.slice Ao_1 t434.length co_1] 26 (0, 0)) (by (with_reducible repeat (first | refine zk ?_ _ | refine zm ?_ | refine zi ?_ _)); exact BK439.out) NB439_433.out (by simp)); have n3_ := zb.mk (Kd.zZ (Kd.zGa (za.apart (show za w _ gb433 l0 t447 t448 from by repeat (first | (with_reducible first | exact HI433.out | apply za.alloc | apply za.drewN | apply za.drew | apply za.zca | apply za.zba | refine za.far ?_ NB433_432.out _ | refine za.far ?_ NB433_439.out _) | exact HI433.out)) (by (with_reducible repeat (first | apply Kd.zo | apply Kd.zq | apply Kd.zA)); exact HO442.out) (by decide)) hk (fun _ h => h.2)) (fun _ h => h.1)); have n4_ := zb.mk (Kd.zZ (Kd.zGa (za.apart (show za w _ gb433 l0 t447 t448 from by repeat (first | (with_reducible first | exact HI433.out | apply za.alloc | apply za.drewN | apply za.drew | apply za.zca | apply za.zba | refine za.far ?_ NB433_432.out _ | refine za.far ?_ NB433_439.out _) | exact HI433.out)) (by (with_reducible repeat (first | apply Kd.zo | apply Kd.zq | apply Kd.zA)); exact HO445.out) (by decide)) hk (fun _ h => h.2)) (fun _ h => h.1)); have n5_ := zb.mk (Kd.zZ (Kd.zGa (za.apart (show za w _ gb433 l0 t447 t448 from by repeat (first | (with_reducible first | exact HI433.out | apply za.alloc | apply za.drewN | apply za.drew | apply za.zca | apply za.zba | refine za.far ?_ NB433_432.out _ | refine za.far ?_ NB433_439.out _) | exact HI433.out)) (by (with_reducible repeat (first | apply Kd.zo | apply Kd.zq | apply Kd.zA)); exact HO451.out) (by decide)) hk (fun _ h => h.2)) (fun _ h => h.1)); have n6_ := zb.mk (hb); have n7_ := zb.mk (hi); clear BK432; clear HO436; clear BK439; clear HO442; clear HO445; clear HO451; clear HB; clear HI433; have BK432 := n0_; have HO436 := n1_; have BK439 := n2_; have HO442 := n3_; have HO445 := n4_; have HO451 := n5_; have HB := n6_; have HI433 := n7_; clear n0_ n1_ n2_ n3_ n4_ n5_ n6_ n7_; (try clear hb); (try clear hb_1); (try clear hk); (try clear hi)) | skip); try go_wp2_with (first | (go_at_call 127; (with_reducible refine (zM.calls gb433 l0 t447 t448 2 _ t454 t455 w _ ?side1 ?side2 A9.out).mono ?_); (case side1 => repeat (first | (with_reducible first | exact HI433.out | apply za.alloc | apply za.drewN | apply za.drew | apply za.zca | apply za.zba | refine za.far ?_ NB433_432.out _ | refine za.far ?_ NB433_439.out _) | exact HI433.out)); (case side2 => repeat (first | (with_reducible first | exact HB.out | apply zg | apply ze | apply zf | refine zh ?_ (za.ge HI433.out) | refine zh ?_ GE432.out | refine zh ?_ GE439.out) | exact HB.out)); rintro e w_10 ⟨rfl, hi, hb, hk⟩; have n0_ := zb.mk (zn.blk hk (g' := gb432) (o := .cells #[.slice none 0 0] 26 (0, 0)) (by (with_reducible repeat (first | refine zk ?_ _ | refine zm ?_ | refine zi ?_ _)); exact BK432.out) NB432_433.out (by simp)); have n1_ := zb.mk (Kd.zZ (Kd.zGa (za.apart (show za w _ gb433 l0 t447 t448 from by repeat (first | (with_reducible first | exact HI433.out | apply za.alloc | apply za.drewN | apply za.drew | apply za.zca | apply za.zba | refine za.far ?_ NB433_432.out _ | refine za.far ?_ NB433_439.out _) | exact HI433.out)) (by (with_reducible repeat (first | apply Kd.zo | apply Kd.zq | apply Kd.zA)); exact HO436.out) (by decide)) hk (fun _ h => h.2)) (fun _ h => h.1)); have n2_ := zb.mk (zn.blk hk (g' := gb439) (o := .cells #[.slice Ao_1 t434.length co_1] 26 (0, 0)) (by (with_reducible repeat (first | refine zk ?_ _ | refine zm ?_ | refine zi ?_ _)); exact BK439.out) NB439_433.out (by simp)); have n3_ := zb.mk (Kd.zZ (Kd.zGa (za.apart (show za w _ gb433 l0 t447 t448 from by repeat (first | (with_reducible first | exact HI433.out | apply za.alloc | apply za.drewN | apply za.drew | apply za.zca | apply za.zba | refine za.far ?_ NB433_432.out _ | refine za.far ?_ NB433_439.out _) | exact HI433.out)) (by (with_reducible repeat (first | apply Kd.zo | apply Kd.zq | apply Kd.zA)); exact HO442.out) (by decide)) hk (fun _ h => h.2)) (fun _ h => h.1)); have n4_ := zb.mk (Kd.zZ (Kd.zGa (za.apart (show za w _ gb433 l0 t447 t448 from by repeat (first | (with_reducible first | exact HI433.out | apply za.alloc | apply za.drewN | apply za.drew | apply za.zca | apply za.zba | refine za.far ?_ NB433_432.out _ | refine za.far ?_ NB433_439.out _) | exact HI433.out)) (by (with_reducible repeat (first | apply Kd.zo | apply Kd.zq | apply Kd.zA)); exact HO445.out) (by decide)) hk (fun _ h => h.2)) (fun _ h => h.1)); have n5_ := zb.mk (Kd.zZ (Kd.zGa (za.apart (show za w _ gb433 l0 t447 t448 from by repeat (first | (with_reducible first | exact HI433.out | apply za.alloc | apply za.drewN | apply za.drew | apply za.zca | apply za.zba | refine za.far ?_ NB433_432.out _ | refine za.far ?_ NB433_439.out _) | exact HI433.out)) (by (with_reducible repeat (first | apply Kd.zo | apply Kd.zq | apply Kd.zA)); exact HO451.out) (by decide)) hk (fun _ h => h.2)) (fun _ h => h.1)); have n6_ := zb.mk (hb); have n7_ := zb.mk (hi); clear BK432; clear HO436; clear BK439; clear HO442; clear HO445; clear HO451; clear HB; clear HI433; have BK432 := n0_; have HO436 := n1_; have BK439 := n2_; have HO442 := n3_; have HO445 := n4_; have HO451 := n5_; have HB := n6_; have HI433 := n7_; clear n0_ n1_ n2_ n3_ n4_ n5_ n6_ n7_; (try clear hb); (try clear hb_1); (try clear hk); (try clear hi)) | ((with_reducible refine zH (f := 128) rfl ?_); refine zra (some 29) rfl rfl Tryz.func128 (by kernel_rfl) rfl #[.slice Ao_4 t449.length co_4] rfl (by (try simp only [List.map_toArray, List.map_cons, List.map_nil]); first | done | rfl | (simp only [List.length_drop, List.length_take]; rfl)) ?_; (with_reducible refine (l2of.calls _ _ t449 t456 _ ?side1 ?side2 A11.out).mono ?_); (case side1 => repeat (first | exact (Kd.zQ HO451.out).2.2 | (with_reducible refine Kd.zga ?_ _) | (with_reducible refine Kd.zia ?_ _) | (with_reducible refine Kd.zAa ?_))); (case side2 => exact (Kd.zQ HO451.out).2.1); rintro e w_11 ⟨v457, rfl, ho_1, hb⟩; refine ⟨_, rfl, ?_⟩; have n0_ := zb.mk (Kd.R_elder' (by (with_reducible repeat (first | apply Kd.zo | apply Kd.zq | apply Kd.zA)); exact HO436.out) (Kd.R_base ho_1) hb); have n1_ := zb.mk (Kd.zta (by (with_reducible repeat (first | apply Kd.zo | apply Kd.zq | apply Kd.zA)); exact HO442.out) hb); have n2_ := zb.mk (Kd.zta (by (with_reducible repeat (first | apply Kd.zo | apply Kd.zq | apply Kd.zA)); exact HO445.out) hb); have n3_ := zb.mk (Kd.zta (by (with_reducible repeat (first | apply Kd.zo | apply Kd.zq | apply Kd.zA)); exact HO451.out) hb); have n4_ := zb.mk (Kd.zua (Kd.R_new' ho_1 (Kd.R_lt (by (with_reducible repeat (first | apply Kd.zo | apply Kd.zq | apply Kd.zA)); exact HO436.out))) (zt (by repeat (first | (with_reducible first | exact HB.out | apply zg | apply ze | apply zf | refine zh ?_ (za.ge HI433.out) | refine zh ?_ GE432.out | refine zh ?_ GE439.out) | exact HB.out)))); have n5_ := zb.mk (zG (g := gb432) (o := .cells #[.slice none 0 0] 26 (0, 0)) (by (with_reducible repeat (first | refine zk ?_ _ | refine zm ?_ | refine zi ?_ _)); exact BK432.out) hb); have n6_ := zb.mk (za.below (by repeat (first | (with_reducible first | exact HI433.out | apply za.alloc | apply za.drewN | apply za.drew | apply za.zca | apply za.zba | refine za.far ?_ NB433_432.out _ | refine za.far ?_ NB433_439.out _) | exact HI433.out)) hb); have n7_ := zb.mk (zG (g := gb439) (o := .cells #[.slice Ao_1 t434.length co_1] 26 (0, 0)) (by (with_reducible repeat (first | refine zk ?_ _ | refine zm ?_ | refine zi ?_ _)); exact BK439.out) hb); have n8_ := zb.mk (zw (by repeat (first | (with_reducible first | exact HB.out | apply zg | apply ze | apply zf | refine zh ?_ (za.ge HI433.out) | refine zh ?_ GE432.out | refine zh ?_ GE439.out) | exact HB.out)) hb); clear HO436; clear HO442; clear HO445; clear HO451; clear BK432; clear HI433; clear BK439; clear HB; have HO436 := n0_; have HO442 := n1_; have HO445 := n2_; have HO451 := n3_; have HO458 := n4_; have BK432 := n5_; have HI433 := n6_; have BK439 := n7_; have HB := n8_; clear n0_ n1_ n2_ n3_ n4_ n5_ n6_ n7_ n8_; (try clear hb); (try clear hb_1); (try clear hk); (try clear hi); (try clear ho_1); obtain ⟨Ao_5, co_5, eo_5⟩ := Kd.zpa HO458.out; subst eo_5; have hnb_3 := NB432_433.out; have hnc_3 := NB433_432.out; have hcz_3_0 : w_11.cell? ⟨gb432, 0, none⟩ = some (.slice none 0 0) := (zD BK432.out 0).trans rfl; have hfz_3_0 := zz BK432.out 0))
   refine bodyPost_ret (results_cell_row rfl _ _ gb432 26 #[.slice Ao_5 t456.length co_5] (0, 0) _ rfl (by (with_reducible repeat (first | refine zk ?_ _ | refine zm ?_ | refine zi ?_ _)); refine blk_put (cs := #[.slice none 0 0]) ?_ 0 _ rfl; (with_reducible repeat (first | refine zk ?_ _ | refine zm ?_ | refine zi ?_ _)); exact BK432.out) Tryz.underlying26 rfl (by kernel_rfl)) rfl ?_
   exact ⟨_, by first | rfl | (simp [zC, zB] <;> rfl) | (simp [*, zC, zB] <;> rfl), by (with_reducible repeat (first | apply Kd.zo | apply Kd.zq | apply Kd.zA)); exact Kd.zZ (Kd.R_far (p := ⟨gb432, 0, none⟩) (Kd.zUa HO458.out BK432.out (by decide)) (fun _ hk => hk.2) (.slice Ao_5 t456.length co_5)) (fun _ hk => trivial), by repeat (first | (with_reducible first | exact HB.out | apply zg | apply ze | apply zf | refine zh ?_ (za.ge HI433.out) | refine zh ?_ GE432.out | refine zh ?_ GE439.out) | exact HB.out)⟩
end Go.Proofs.YtfabennfhmlihaaGreatDoor.P
end
section
namespace Go.Proofs.YtfabennfhmlihaaGreatDoor.P
open Go.RowKit Go.Proofs.YtfabennfhmlihaaGreatDoorW.zJ Go.Proofs.YtfabennfhmlihaaGreatDoorW.zU Go.Proofs.YtfabennfhmlihaaGreatDoorW.PrintMore
set_option linter.unusedVariables false
set_option linter.unusedSimpArgs false
def zxa.j0 : Nat → ByteArray → Bool → List (zL) → Option (List ByteArray × Bool)
 | 0, _, _, _ => none
 | k + 1, x1, x13, x398000 => if x13 = true then (some ((([] : List ByteArray)), false)) else ((zW.f k x398000).bind fun t403 => ((zfa.f k t403 x1).bind fun t406 => (some (t406, true))))
def zxa.f (k : Nat) (l0_0 : List (zL)) (a1 : ByteArray) : Option (List ByteArray × Bool) := (zea.f k l0_0).bind fun t398 => (if t398 = true then ((zqa.f k a1).bind fun t399 => (zxa.j0 k a1 (!t399) l0_0)) else (zxa.j0 k a1 true l0_0))
set_option maxHeartbeats 8000000 in
set_option maxRecDepth 100000 in
theorem zxa.calls (k : Nat) (A0_0 : Option Addr) (c0_0 : Nat) (l0_0 : List (zL)) (a1 : ByteArray) (r1 : List ByteArray) (r2 : Bool) (w : World) (hr0_0 : Kd.C zXa w A0_0 l0_0.length l0_0) (hc0_0 : l0_0.length ≤ c0_0) (h : zxa.f k l0_0 a1 = some (r1, r2)) :
  Calls Tryz.prog 14 #[.agg #[.slice A0_0 l0_0.length c0_0], .string a1] w fun e w' => ∃ v0_ : Value, e = .returned (.tuple #[v0_, .bool r2]) ∧ Kd.R Kd.string 9 w' w.heap.size (fun _ => True) v0_ r1 ∧ Below w.heap.size w w' := by
 have hu26 := Tryz.underlying26
 have HR0_0 := zb.mk hr0_0
 have HC0_0 := zb.mk hc0_0
 clear hr0_0 hc0_0
 have HB := zb.mk (Below.refl w.heap.size w)
 have H : ((zea.f k l0_0).bind fun t398 => (if t398 = true then ((zqa.f k a1).bind fun t399 => (zxa.j0 k a1 (!t399) l0_0)) else (zxa.j0 k a1 true l0_0))) = some (r1, r2) := h
 clear h
 have HC3 := zb.mk H
 clear H
 go_enter Tryz.func14, Tryz.ntmps14
 go_upto_region 1 with (first | ((with_reducible refine zoa (N := 2) rfl ?_); refine zEa ?hg (N := 2) ?hd (cs := #[.slice A0_0 l0_0.length c0_0]) (t := 26) ?hr ?_; (case hd => rfl); (case hg => rfl); (case hr => first | (go_simp; done) | (go_simp; rfl)); intro gb397 hg w4 hbox hb; have n0_ := zb.mk (zw (by repeat (first | (with_reducible first | exact HB.out | apply zg | apply ze | apply zf) | exact HB.out)) hb); have n1_ := zb.mk (hbox); have n2_ := zb.mk ((by rw [hg]; exact (zt (by repeat (first | (with_reducible first | exact HB.out | apply zg | apply ze | apply zf) | exact HB.out))) : w.heap.size ≤ gb397)); have n3_ := zb.mk ((by rw [hg]; exact (zt (by repeat (first | (with_reducible first | exact HB.out | apply zg | apply ze | apply zf) | exact HB.out))) : w.heap.size ≤ gb397)); clear HB; have HB := n0_; have BK397 := n1_; have GW397 := n2_; have GE397 := n3_; clear n0_ n1_ n2_ n3_; clear hb hbox hg))
 (try simp only [Act.put, List.setIfInBounds_toArray, List.set_cons_zero, List.set_cons_succ])
 go_cut [13] (fun v13 wc => ∃ (kq : Nat) (x13_2 : Bool), v13 = .bool x13_2 ∧ zb (zxa.j0 kq a1 x13_2 l0_0 = some (r1, r2)) ∧ zb (kq ≤ k) ∧ zb (wc.heap[gb397]? = some (.cells #[(.slice A0_0 l0_0.length c0_0)] 26 (0, 0))) ∧ zb (Below w.heap.size w wc))
 case first =>
  have H := HC3.out
  clear HC3
  replace H := Option.bind_eq_some_iff.mp H
  obtain ⟨t398, A50, H⟩ := H
  replace H : (if t398 = true then ((zqa.f k a1).bind fun t399 => (zxa.j0 k a1 (!t399) l0_0)) else (zxa.j0 k a1 true l0_0)) = some (r1, r2) := H
  have A5 := zb.mk A50
  clear A50
  by_cases c6 : t398 = true
  ·subst c6
   have H1 : ((zqa.f k a1).bind fun t399 => (zxa.j0 k a1 (!t399) l0_0)) = some (r1, r2) := by rw [if_pos rfl] at H; exact H
   clear H
   have H := H1
   clear H1
   replace H := Option.bind_eq_some_iff.mp H
   obtain ⟨t399, A70, H⟩ := H
   replace H : (zxa.j0 k a1 (!t399) l0_0) = some (r1, r2) := H
   have A7 := zb.mk A70
   clear A70
   have H' := zb.mk H
   clear H
   have hcz8_0 : w4.cell? ⟨gb397, 0, none⟩ = some (.slice A0_0 l0_0.length c0_0) := (zD BK397.out 0).trans rfl
   have hfz8_0 := zz BK397.out 0
   go_wp2_with (first | ((with_reducible refine zH (f := 118) rfl ?_); refine zra (some 7) rfl rfl Tryz.func118 (by kernel_rfl) rfl #[.agg #[.slice A0_0 l0_0.length c0_0]] rfl (by (try simp only [List.map_toArray, List.map_cons, List.map_nil]); first | done | rfl | (simp only [List.length_drop, List.length_take]; rfl)) ?_; (with_reducible refine (zea.calls k _ _ l0_0 true _ ?side1 ?side2 A5.out).mono ?_); (case side1 => repeat (first | exact (Kd.zV HR0_0.out HB.out) | (with_reducible refine Kd.zga ?_ _) | (with_reducible refine Kd.zia ?_ _) | (with_reducible refine Kd.zAa ?_))); (case side2 => exact HC0_0.out); rintro e w9 ⟨rfl, hb⟩; refine ⟨_, rfl, ?_⟩; have n0_ := zb.mk (zG (g := gb397) (o := .cells #[.slice A0_0 l0_0.length c0_0] 26 (0, 0)) (by (with_reducible repeat (first | refine zk ?_ _ | refine zm ?_ | refine zi ?_ _)); exact BK397.out) hb); have n1_ := zb.mk (zw (by repeat (first | (with_reducible first | exact HB.out | apply zg | apply ze | apply zf | refine zh ?_ GE397.out) | exact HB.out)) hb); clear BK397; clear HB; have BK397 := n0_; have HB := n1_; clear n0_ n1_; (try clear hb); (try clear hb2); (try clear hk); (try clear hi)) | (go_at_call 122; (with_reducible refine (zqa.calls k a1 t399 _ A7.out).mono ?_); rintro e w' ⟨rfl, ⟨nd, rfl⟩⟩))
   go_meet
   case rel => exact ⟨_, (!t399), (by first | rfl | (simp; done) | (simp [*]; done)), H', ⟨by first | omega | exact Nat.le_refl _⟩, ⟨by (with_reducible repeat (first | refine zk ?_ _ | refine zm ?_ | refine zi ?_ _)); exact BK397.out⟩, ⟨by repeat (first | (with_reducible first | exact HB.out | apply zg | apply ze | apply zf | refine zh ?_ GE397.out) | exact HB.out)⟩⟩
  ·replace c6 := Bool.eq_false_iff.mpr c6
   subst c6
   have H1 : (zxa.j0 k a1 true l0_0) = some (r1, r2) := by rw [if_neg (show ¬ (false = true) by decide)] at H; exact H
   clear H
   have H := H1
   clear H1
   have H' := zb.mk H
   clear H
   have hcz10_0 : w4.cell? ⟨gb397, 0, none⟩ = some (.slice A0_0 l0_0.length c0_0) := (zD BK397.out 0).trans rfl
   have hfz10_0 := zz BK397.out 0
   go_wp2_with (first | ((with_reducible refine zH (f := 118) rfl ?_); refine zra (some 7) rfl rfl Tryz.func118 (by kernel_rfl) rfl #[.agg #[.slice A0_0 l0_0.length c0_0]] rfl (by (try simp only [List.map_toArray, List.map_cons, List.map_nil]); first | done | rfl | (simp only [List.length_drop, List.length_take]; rfl)) ?_; (with_reducible refine (zea.calls k _ _ l0_0 false _ ?side1 ?side2 A5.out).mono ?_); (case side1 => repeat (first | exact (Kd.zV HR0_0.out HB.out) | (with_reducible refine Kd.zga ?_ _) | (with_reducible refine Kd.zia ?_ _) | (with_reducible refine Kd.zAa ?_))); (case side2 => exact HC0_0.out); rintro e w11 ⟨rfl, hb⟩; refine ⟨_, rfl, ?_⟩; have n0_ := zb.mk (zG (g := gb397) (o := .cells #[.slice A0_0 l0_0.length c0_0] 26 (0, 0)) (by (with_reducible repeat (first | refine zk ?_ _ | refine zm ?_ | refine zi ?_ _)); exact BK397.out) hb); have n1_ := zb.mk (zw (by repeat (first | (with_reducible first | exact HB.out | apply zg | apply ze | apply zf | refine zh ?_ GE397.out) | exact HB.out)) hb); clear BK397; clear HB; have BK397 := n0_; have HB := n1_; clear n0_ n1_; (try clear hb); (try clear hb2); (try clear hk); (try clear hi)))
   go_meet
   case rel => exact ⟨_, (true), (by first | rfl | (simp; done) | (simp [*]; done)), H', ⟨by first | omega | exact Nat.le_refl _⟩, ⟨by (with_reducible repeat (first | refine zk ?_ _ | refine zm ?_ | refine zi ?_ _)); exact BK397.out⟩, ⟨by repeat (first | (with_reducible first | exact HB.out | apply zg | apply ze | apply zf | refine zh ?_ GE397.out) | exact HB.out)⟩⟩
 case rest =>
  clear HC3
  try clear c1
  try clear p2
  try clear c6
  try clear c11
  try clear hcz10_0
  try clear hcz8_0
  try clear hfz10_0
  try clear hfz8_0
  obtain ⟨kq, x13_2, rfl, HA, HJ2, BK397, HB⟩ := hcut
  cases kq with
  | zero => exact absurd HA.out (by simp [zxa.j0])
  | succ kj2 =>
   have H := HA.out
   clear HA
   simp only [zxa.j0] at H
   by_cases c12 : x13_2 = true
   ·subst c12
    have H1 : (some ((([] : List ByteArray)), false)) = some (r1, r2) := by rw [if_pos rfl] at H; exact H
    clear H
    have H := H1
    clear H1
    obtain ⟨y400, hy400⟩ : ∃ y_ : List ByteArray, y_ = (([] : List ByteArray)) := ⟨_, rfl⟩
    replace H : (some (y400, false)) = some (r1, r2) := by first | (rw [hy400]; with_reducible exact H) | (have H2_ := (Option.bind_some _ _).symm.trans H; rw [hy400]; with_reducible exact H2_) | (have H2_ := (Option.bind_some _ _).symm.trans H; with_reducible exact H2_) | with_reducible exact H | (rw [hy400]; exact H) | exact H
    have Ny400 := zb.mk hy400
    clear hy400
    simp only [Option.some.injEq, Prod.mk.injEq] at H
    obtain ⟨rfl, rfl⟩ := H
    go_wp2_with (first | ((with_reducible refine zoa (N := 14) rfl ?_); refine Kd.R_lit Kd.string _ 9 ?hg (N := 14) ?hd (xs := ([] : List ByteArray)) (inner := []) (ok := fun _ => True) (okp := fun _ => True) ?hr ?hp (fun _ hk => hk) trivial (Below.refl _ _) (Nat.le_refl _) (by simp) ?_; (case hd => rfl); (case hg => rfl); (case hr => first | (go_simp; done) | (go_simp; rfl)); (case hp => exact (Reps.none _ _)); intro v401 w13 ho14 hb hg_ hnew_; clear hg_ hnew_; (first | rw [← Ny400.out] at ho14 | (simp only [Int.reduceToNat] at ho14; rw [← Ny400.out] at ho14)); have n0_ := zb.mk (Kd.zua ho14 (zt (by repeat (first | (with_reducible first | exact HB.out | apply zg | apply ze | apply zf | refine zh ?_ GE397.out) | exact HB.out)))); have n1_ := zb.mk (zG (g := gb397) (o := .cells #[.slice A0_0 l0_0.length c0_0] 26 (0, 0)) (by (with_reducible repeat (first | refine zk ?_ _ | refine zm ?_ | refine zi ?_ _)); exact BK397.out) hb); have n2_ := zb.mk (zw (by repeat (first | (with_reducible first | exact HB.out | apply zg | apply ze | apply zf | refine zh ?_ GE397.out) | exact HB.out)) hb); clear BK397; clear HB; have HO402 := n0_; have BK397 := n1_; have HB := n2_; clear n0_ n1_ n2_; clear hb ho14))
    go_ret2
    exact ⟨_, by first | rfl | (simp [zC, zB] <;> rfl) | (simp [*, zC, zB] <;> rfl), by (with_reducible repeat (first | apply Kd.zo | apply Kd.zq | apply Kd.zA)); exact HO402.out, by repeat (first | (with_reducible first | exact HB.out | apply zg | apply ze | apply zf | refine zh ?_ GE397.out) | exact HB.out)⟩
   ·replace c12 := Bool.eq_false_iff.mpr c12
    subst c12
    have H1 : ((zW.f kj2 l0_0).bind fun t403 => ((zfa.f kj2 t403 a1).bind fun t406 => (some (t406, true)))) = some (r1, r2) := by rw [if_neg (show ¬ (false = true) by decide)] at H; exact H
    clear H
    have H := H1
    clear H1
    replace H := Option.bind_eq_some_iff.mp H
    obtain ⟨t403, A150, H⟩ := H
    replace H : ((zfa.f kj2 t403 a1).bind fun t406 => (some (t406, true))) = some (r1, r2) := H
    have A15 := zb.mk A150
    clear A150
    replace H := Option.bind_eq_some_iff.mp H
    obtain ⟨t406, A160, H⟩ := H
    replace H : (some (t406, true)) = some (r1, r2) := H
    have A16 := zb.mk A160
    clear A160
    simp only [Option.some.injEq, Prod.mk.injEq] at H
    obtain ⟨rfl, rfl⟩ := H
    have hcz17_0 : wc.cell? ⟨gb397, 0, none⟩ = some (.slice A0_0 l0_0.length c0_0) := (zD BK397.out 0).trans rfl
    have hfz17_0 := zz BK397.out 0
    go_wp2_with (first | ((with_reducible refine zH (f := 120) rfl ?_); refine zra (some 16) rfl rfl Tryz.func120 (by kernel_rfl) rfl #[.agg #[.slice A0_0 l0_0.length c0_0]] rfl (by (try simp only [List.map_toArray, List.map_cons, List.map_nil]); first | done | rfl | (simp only [List.length_drop, List.length_take]; rfl)) ?_; (with_reducible refine (zW.calls kj2 _ _ l0_0 t403 _ ?side1 ?side2 A15.out).mono ?_); (case side1 => repeat (first | exact (Kd.zV HR0_0.out HB.out) | (with_reducible refine Kd.zga ?_ _) | (with_reducible refine Kd.zia ?_ _) | (with_reducible refine Kd.zAa ?_))); (case side2 => exact HC0_0.out); rintro e w18 ⟨v404, rfl, ho0, hb⟩; refine ⟨_, rfl, ?_⟩; have n0_ := zb.mk (Kd.zua ho0 (zt (by repeat (first | (with_reducible first | exact HB.out | apply zg | apply ze | apply zf | refine zh ?_ GE397.out) | exact HB.out)))); have n1_ := zb.mk (zG (g := gb397) (o := .cells #[.slice A0_0 l0_0.length c0_0] 26 (0, 0)) (by (with_reducible repeat (first | refine zk ?_ _ | refine zm ?_ | refine zi ?_ _)); exact BK397.out) hb); have n2_ := zb.mk (zw (by repeat (first | (with_reducible first | exact HB.out | apply zg | apply ze | apply zf | refine zh ?_ GE397.out) | exact HB.out)) hb); clear BK397; clear HB; have HO405 := n0_; have BK397 := n1_; have HB := n2_; clear n0_ n1_ n2_; (try clear hb); (try clear hb2); (try clear hk); (try clear hi); (try clear ho0); obtain ⟨Ao19, co19, eo19⟩ := Kd.zpa HO405.out; subst eo19) | ((with_reducible refine zH (f := 123) rfl ?_); refine zra (some 18) rfl rfl Tryz.func123 (by kernel_rfl) rfl #[.slice Ao19 t403.length co19, .string a1] rfl (by (try simp only [List.map_toArray, List.map_cons, List.map_nil]); first | done | rfl | (simp only [List.length_drop, List.length_take]; rfl)) ?_; (with_reducible refine (zfa.calls kj2 _ _ t403 a1 t406 _ ?side1 ?side2 A16.out).mono ?_); (case side1 => repeat (first | exact (Kd.zQ HO405.out).2.2 | (with_reducible refine Kd.zga ?_ _) | (with_reducible refine Kd.zia ?_ _) | (with_reducible refine Kd.zAa ?_))); (case side2 => exact (Kd.zQ HO405.out).2.1); rintro e w20 ⟨v407, rfl, ho0, hb⟩; refine ⟨_, rfl, ?_⟩; have n0_ := zb.mk (Kd.R_elder' (by (with_reducible repeat (first | apply Kd.zo | apply Kd.zq | apply Kd.zA)); exact HO405.out) (Kd.R_base ho0) hb); have n1_ := zb.mk (Kd.zua (Kd.R_new' ho0 (Kd.R_lt (by (with_reducible repeat (first | apply Kd.zo | apply Kd.zq | apply Kd.zA)); exact HO405.out))) (zt (by repeat (first | (with_reducible first | exact HB.out | apply zg | apply ze | apply zf | refine zh ?_ GE397.out) | exact HB.out)))); have n2_ := zb.mk (zG (g := gb397) (o := .cells #[.slice A0_0 l0_0.length c0_0] 26 (0, 0)) (by (with_reducible repeat (first | refine zk ?_ _ | refine zm ?_ | refine zi ?_ _)); exact BK397.out) hb); have n3_ := zb.mk (zw (by repeat (first | (with_reducible first | exact HB.out | apply zg | apply ze | apply zf | refine zh ?_ GE397.out) | exact HB.out)) hb); clear HO405; clear BK397; clear HB; have HO405 := n0_; have HO408 := n1_; have BK397 := n2_; have HB := n3_; clear n0_ n1_ n2_ n3_; (try clear hb); (try clear hb2); (try clear hk); (try clear hi); (try clear ho0)))
    go_ret2
    exact ⟨_, by first | rfl | (simp [zC, zB] <;> rfl) | (simp [*, zC, zB] <;> rfl), by (with_reducible repeat (first | apply Kd.zo | apply Kd.zq | apply Kd.zA)); exact Kd.zZ HO408.out (fun _ hk => trivial), by repeat (first | (with_reducible first | exact HB.out | apply zg | apply ze | apply zf | refine zh ?_ GE397.out) | exact HB.out)⟩
end Go.Proofs.YtfabennfhmlihaaGreatDoor.P
end
section
namespace Go.Proofs.YtfabennfhmlihaaGreatDoor.P
open Go.RowKit Go.Proofs.YtfabennfhmlihaaGreatDoorW.zJ Go.Proofs.YtfabennfhmlihaaGreatDoorW.zU Go.Proofs.YtfabennfhmlihaaGreatDoorW.PrintMore
set_option linter.unusedVariables false
set_option linter.unusedSimpArgs false
def zwa.j0 : Nat → ByteArray → Bool → List (zL) → Option (ByteArray × Bool)
 | 0, _, _, _ => none
 | k + 1, x1, x14, x423000 => if x14 = true then (some ((⟨#[]⟩ : ByteArray), false)) else ((zW.f k x423000).bind fun t425 => ((zfa.f k t425 x1).bind fun t428 => (if (t428.length : Int) = 0 then (some ((⟨#[]⟩ : ByteArray), false)) else ((zFa.f k t428).bind fun t431 => (some (t431, true))))))
def zwa.f (k : Nat) (l0_0 : List (zL)) (a1 : ByteArray) : Option (ByteArray × Bool) := (zea.f k l0_0).bind fun t423 => (if t423 = true then ((zqa.f k a1).bind fun t424 => (zwa.j0 k a1 (!t424) l0_0)) else (zwa.j0 k a1 true l0_0))
set_option maxHeartbeats 8000000 in
set_option maxRecDepth 100000 in
theorem zwa.calls (k : Nat) (A0_0 : Option Addr) (c0_0 : Nat) (l0_0 : List (zL)) (a1 : ByteArray) (r1 : ByteArray) (r2 : Bool) (w : World) (hr0_0 : Kd.C zXa w A0_0 l0_0.length l0_0) (hc0_0 : l0_0.length ≤ c0_0) (h : zwa.f k l0_0 a1 = some (r1, r2)) :
  Calls Tryz.prog 16 #[.agg #[.slice A0_0 l0_0.length c0_0], .string a1] w fun e w' => e = .returned (.tuple #[.string r1, .bool r2]) ∧ Below w.heap.size w w' := by
 have hu26 := Tryz.underlying26
 have HR0_0 := zb.mk hr0_0
 have HC0_0 := zb.mk hc0_0
 clear hr0_0 hc0_0
 have HB := zb.mk (Below.refl w.heap.size w)
 have H : ((zea.f k l0_0).bind fun t423 => (if t423 = true then ((zqa.f k a1).bind fun t424 => (zwa.j0 k a1 (!t424) l0_0)) else (zwa.j0 k a1 true l0_0))) = some (r1, r2) := h
 clear h
 have HC3 := zb.mk H
 clear H
 go_enter Tryz.func16, Tryz.ntmps16
 go_upto_region 1 with (first | ((with_reducible refine zoa (N := 2) rfl ?_); refine zEa ?hg (N := 2) ?hd (cs := #[.slice A0_0 l0_0.length c0_0]) (t := 26) ?hr ?_; (case hd => rfl); (case hg => rfl); (case hr => first | (go_simp; done) | (go_simp; rfl)); intro gb422 hg w4 hbox hb; have n0_ := zb.mk (zw (by repeat (first | (with_reducible first | exact HB.out | apply zg | apply ze | apply zf) | exact HB.out)) hb); have n1_ := zb.mk (hbox); have n2_ := zb.mk ((by rw [hg]; exact (zt (by repeat (first | (with_reducible first | exact HB.out | apply zg | apply ze | apply zf) | exact HB.out))) : w.heap.size ≤ gb422)); have n3_ := zb.mk ((by rw [hg]; exact (zt (by repeat (first | (with_reducible first | exact HB.out | apply zg | apply ze | apply zf) | exact HB.out))) : w.heap.size ≤ gb422)); clear HB; have HB := n0_; have BK422 := n1_; have GW422 := n2_; have GE422 := n3_; clear n0_ n1_ n2_ n3_; clear hb hbox hg))
 (try simp only [Act.put, List.setIfInBounds_toArray, List.set_cons_zero, List.set_cons_succ])
 go_cut [14] (fun v14 wc => ∃ (kq : Nat) (x14_2 : Bool), v14 = .bool x14_2 ∧ zb (zwa.j0 kq a1 x14_2 l0_0 = some (r1, r2)) ∧ zb (kq ≤ k) ∧ zb (wc.heap[gb422]? = some (.cells #[(.slice A0_0 l0_0.length c0_0)] 26 (0, 0))) ∧ zb (Below w.heap.size w wc))
 case first =>
  have H := HC3.out
  clear HC3
  replace H := Option.bind_eq_some_iff.mp H
  obtain ⟨t423, A50, H⟩ := H
  replace H : (if t423 = true then ((zqa.f k a1).bind fun t424 => (zwa.j0 k a1 (!t424) l0_0)) else (zwa.j0 k a1 true l0_0)) = some (r1, r2) := H
  have A5 := zb.mk A50
  clear A50
  by_cases c6 : t423 = true
  ·subst c6
   have H1 : ((zqa.f k a1).bind fun t424 => (zwa.j0 k a1 (!t424) l0_0)) = some (r1, r2) := by rw [if_pos rfl] at H; exact H
   clear H
   have H := H1
   clear H1
   replace H := Option.bind_eq_some_iff.mp H
   obtain ⟨t424, A70, H⟩ := H
   replace H : (zwa.j0 k a1 (!t424) l0_0) = some (r1, r2) := H
   have A7 := zb.mk A70
   clear A70
   have H' := zb.mk H
   clear H
   have hcz8_0 : w4.cell? ⟨gb422, 0, none⟩ = some (.slice A0_0 l0_0.length c0_0) := (zD BK422.out 0).trans rfl
   have hfz8_0 := zz BK422.out 0
   go_wp2_with (first | ((with_reducible refine zH (f := 118) rfl ?_); refine zra (some 8) rfl rfl Tryz.func118 (by kernel_rfl) rfl #[.agg #[.slice A0_0 l0_0.length c0_0]] rfl (by (try simp only [List.map_toArray, List.map_cons, List.map_nil]); first | done | rfl | (simp only [List.length_drop, List.length_take]; rfl)) ?_; (with_reducible refine (zea.calls k _ _ l0_0 true _ ?side1 ?side2 A5.out).mono ?_); (case side1 => repeat (first | exact (Kd.zV HR0_0.out HB.out) | (with_reducible refine Kd.zga ?_ _) | (with_reducible refine Kd.zia ?_ _) | (with_reducible refine Kd.zAa ?_))); (case side2 => exact HC0_0.out); rintro e w9 ⟨rfl, hb⟩; refine ⟨_, rfl, ?_⟩; have n0_ := zb.mk (zG (g := gb422) (o := .cells #[.slice A0_0 l0_0.length c0_0] 26 (0, 0)) (by (with_reducible repeat (first | refine zk ?_ _ | refine zm ?_ | refine zi ?_ _)); exact BK422.out) hb); have n1_ := zb.mk (zw (by repeat (first | (with_reducible first | exact HB.out | apply zg | apply ze | apply zf | refine zh ?_ GE422.out) | exact HB.out)) hb); clear BK422; clear HB; have BK422 := n0_; have HB := n1_; clear n0_ n1_; (try clear hb); (try clear hb2); (try clear hk); (try clear hi)) | (go_at_call 122; (with_reducible refine (zqa.calls k a1 t424 _ A7.out).mono ?_); rintro e w' ⟨rfl, ⟨nd, rfl⟩⟩))
   go_meet
   case rel => exact ⟨_, (!t424), (by first | rfl | (simp; done) | (simp [*]; done)), H', ⟨by first | omega | exact Nat.le_refl _⟩, ⟨by (with_reducible repeat (first | refine zk ?_ _ | refine zm ?_ | refine zi ?_ _)); exact BK422.out⟩, ⟨by repeat (first | (with_reducible first | exact HB.out | apply zg | apply ze | apply zf | refine zh ?_ GE422.out) | exact HB.out)⟩⟩
  ·replace c6 := Bool.eq_false_iff.mpr c6
   subst c6
   have H1 : (zwa.j0 k a1 true l0_0) = some (r1, r2) := by rw [if_neg (show ¬ (false = true) by decide)] at H; exact H
   clear H
   have H := H1
   clear H1
   have H' := zb.mk H
   clear H
   have hcz10_0 : w4.cell? ⟨gb422, 0, none⟩ = some (.slice A0_0 l0_0.length c0_0) := (zD BK422.out 0).trans rfl
   have hfz10_0 := zz BK422.out 0
   go_wp2_with (first | ((with_reducible refine zH (f := 118) rfl ?_); refine zra (some 8) rfl rfl Tryz.func118 (by kernel_rfl) rfl #[.agg #[.slice A0_0 l0_0.length c0_0]] rfl (by (try simp only [List.map_toArray, List.map_cons, List.map_nil]); first | done | rfl | (simp only [List.length_drop, List.length_take]; rfl)) ?_; (with_reducible refine (zea.calls k _ _ l0_0 false _ ?side1 ?side2 A5.out).mono ?_); (case side1 => repeat (first | exact (Kd.zV HR0_0.out HB.out) | (with_reducible refine Kd.zga ?_ _) | (with_reducible refine Kd.zia ?_ _) | (with_reducible refine Kd.zAa ?_))); (case side2 => exact HC0_0.out); rintro e w11 ⟨rfl, hb⟩; refine ⟨_, rfl, ?_⟩; have n0_ := zb.mk (zG (g := gb422) (o := .cells #[.slice A0_0 l0_0.length c0_0] 26 (0, 0)) (by (with_reducible repeat (first | refine zk ?_ _ | refine zm ?_ | refine zi ?_ _)); exact BK422.out) hb); have n1_ := zb.mk (zw (by repeat (first | (with_reducible first | exact HB.out | apply zg | apply ze | apply zf | refine zh ?_ GE422.out) | exact HB.out)) hb); clear BK422; clear HB; have BK422 := n0_; have HB := n1_; clear n0_ n1_; (try clear hb); (try clear hb2); (try clear hk); (try clear hi)))
   go_meet
   case rel => exact ⟨_, (true), (by first | rfl | (simp; done) | (simp [*]; done)), H', ⟨by first | omega | exact Nat.le_refl _⟩, ⟨by (with_reducible repeat (first | refine zk ?_ _ | refine zm ?_ | refine zi ?_ _)); exact BK422.out⟩, ⟨by repeat (first | (with_reducible first | exact HB.out | apply zg | apply ze | apply zf | refine zh ?_ GE422.out) | exact HB.out)⟩⟩
 case rest =>
  clear HC3
  try clear c1
  try clear p2
  try clear c6
  try clear c11
  try clear hcz10_0
  try clear hcz8_0
  try clear hfz10_0
  try clear hfz8_0
  obtain ⟨kq, x14_2, rfl, HA, HJ2, BK422, HB⟩ := hcut
  cases kq with
  | zero => exact absurd HA.out (by simp [zwa.j0])
  | succ kj2 =>
   have H := HA.out
   clear HA
   simp only [zwa.j0] at H
   by_cases c12 : x14_2 = true
   ·subst c12
    have H1 : (some ((⟨#[]⟩ : ByteArray), false)) = some (r1, r2) := by rw [if_pos rfl] at H; exact H
    clear H
    have H := H1
    clear H1
    simp only [Option.some.injEq, Prod.mk.injEq] at H
    obtain ⟨rfl, rfl⟩ := H
    go_wp2
    go_ret2
    exact ⟨by first | rfl | (simp [zC, zB] <;> rfl) | (simp [*, zC, zB] <;> rfl), by repeat (first | (with_reducible first | exact HB.out | apply zg | apply ze | apply zf | refine zh ?_ GE422.out) | exact HB.out)⟩
   ·replace c12 := Bool.eq_false_iff.mpr c12
    subst c12
    have H1 : ((zW.f kj2 l0_0).bind fun t425 => ((zfa.f kj2 t425 a1).bind fun t428 => (if (t428.length : Int) = 0 then (some ((⟨#[]⟩ : ByteArray), false)) else ((zFa.f kj2 t428).bind fun t431 => (some (t431, true)))))) = some (r1, r2) := by rw [if_neg (show ¬ (false = true) by decide)] at H; exact H
    clear H
    have H := H1
    clear H1
    replace H := Option.bind_eq_some_iff.mp H
    obtain ⟨t425, A130, H⟩ := H
    replace H : ((zfa.f kj2 t425 a1).bind fun t428 => (if (t428.length : Int) = 0 then (some ((⟨#[]⟩ : ByteArray), false)) else ((zFa.f kj2 t428).bind fun t431 => (some (t431, true))))) = some (r1, r2) := H
    have A13 := zb.mk A130
    clear A130
    replace H := Option.bind_eq_some_iff.mp H
    obtain ⟨t428, A140, H⟩ := H
    replace H : (if (t428.length : Int) = 0 then (some ((⟨#[]⟩ : ByteArray), false)) else ((zFa.f kj2 t428).bind fun t431 => (some (t431, true)))) = some (r1, r2) := H
    have A14 := zb.mk A140
    clear A140
    by_cases c15 : (t428.length : Int) = 0
    ·rw [if_pos c15] at H
     have c15b0 : ((t428.length : Int) == 0) = true := beq_iff_eq.mpr c15
     have c15b1 : ((t428.length : Int) != 0) = false := bne_eq_false_iff_eq.mpr c15
     clear c15
     simp only [Option.some.injEq, Prod.mk.injEq] at H
     obtain ⟨rfl, rfl⟩ := H
     have hcz16_0 : wc.cell? ⟨gb422, 0, none⟩ = some (.slice A0_0 l0_0.length c0_0) := (zD BK422.out 0).trans rfl
     have hfz16_0 := zz BK422.out 0
     go_wp2_with (first | ((with_reducible refine zH (f := 120) rfl ?_); refine zra (some 16) rfl rfl Tryz.func120 (by kernel_rfl) rfl #[.agg #[.slice A0_0 l0_0.length c0_0]] rfl (by (try simp only [List.map_toArray, List.map_cons, List.map_nil]); first | done | rfl | (simp only [List.length_drop, List.length_take]; rfl)) ?_; (with_reducible refine (zW.calls kj2 _ _ l0_0 t425 _ ?side1 ?side2 A13.out).mono ?_); (case side1 => repeat (first | exact (Kd.zV HR0_0.out HB.out) | (with_reducible refine Kd.zga ?_ _) | (with_reducible refine Kd.zia ?_ _) | (with_reducible refine Kd.zAa ?_))); (case side2 => exact HC0_0.out); rintro e w17 ⟨v426, rfl, ho0, hb⟩; refine ⟨_, rfl, ?_⟩; have n0_ := zb.mk (Kd.zua ho0 (zt (by repeat (first | (with_reducible first | exact HB.out | apply zg | apply ze | apply zf | refine zh ?_ GE422.out) | exact HB.out)))); have n1_ := zb.mk (zG (g := gb422) (o := .cells #[.slice A0_0 l0_0.length c0_0] 26 (0, 0)) (by (with_reducible repeat (first | refine zk ?_ _ | refine zm ?_ | refine zi ?_ _)); exact BK422.out) hb); have n2_ := zb.mk (zw (by repeat (first | (with_reducible first | exact HB.out | apply zg | apply ze | apply zf | refine zh ?_ GE422.out) | exact HB.out)) hb); clear BK422; clear HB; have HO427 := n0_; have BK422 := n1_; have HB := n2_; clear n0_ n1_ n2_; (try clear hb); (try clear hb2); (try clear hk); (try clear hi); (try clear ho0); obtain ⟨Ao18, co18, eo18⟩ := Kd.zpa HO427.out; subst eo18) | ((with_reducible refine zH (f := 123) rfl ?_); refine zra (some 18) rfl rfl Tryz.func123 (by kernel_rfl) rfl #[.slice Ao18 t425.length co18, .string a1] rfl (by (try simp only [List.map_toArray, List.map_cons, List.map_nil]); first | done | rfl | (simp only [List.length_drop, List.length_take]; rfl)) ?_; (with_reducible refine (zfa.calls kj2 _ _ t425 a1 t428 _ ?side1 ?side2 A14.out).mono ?_); (case side1 => repeat (first | exact (Kd.zQ HO427.out).2.2 | (with_reducible refine Kd.zga ?_ _) | (with_reducible refine Kd.zia ?_ _) | (with_reducible refine Kd.zAa ?_))); (case side2 => exact (Kd.zQ HO427.out).2.1); rintro e w19 ⟨v429, rfl, ho0, hb⟩; refine ⟨_, rfl, ?_⟩; have n0_ := zb.mk (Kd.R_elder' (by (with_reducible repeat (first | apply Kd.zo | apply Kd.zq | apply Kd.zA)); exact HO427.out) (Kd.R_base ho0) hb); have n1_ := zb.mk (Kd.zua (Kd.R_new' ho0 (Kd.R_lt (by (with_reducible repeat (first | apply Kd.zo | apply Kd.zq | apply Kd.zA)); exact HO427.out))) (zt (by repeat (first | (with_reducible first | exact HB.out | apply zg | apply ze | apply zf | refine zh ?_ GE422.out) | exact HB.out)))); have n2_ := zb.mk (zG (g := gb422) (o := .cells #[.slice A0_0 l0_0.length c0_0] 26 (0, 0)) (by (with_reducible repeat (first | refine zk ?_ _ | refine zm ?_ | refine zi ?_ _)); exact BK422.out) hb); have n3_ := zb.mk (zw (by repeat (first | (with_reducible first | exact HB.out | apply zg | apply ze | apply zf | refine zh ?_ GE422.out) | exact HB.out)) hb); clear HO427; clear BK422; clear HB; have HO427 := n0_; have HO430 := n1_; have BK422 := n2_; have HB := n3_; clear n0_ n1_ n2_ n3_; (try clear hb); (try clear hb2); (try clear hk); (try clear hi); (try clear ho0); obtain ⟨Ao20, co20, eo20⟩ := Kd.zpa HO430.out; subst eo20))
     go_ret2
     exact ⟨by first | rfl | (simp [zC, zB] <;> rfl) | (simp [*, zC, zB] <;> rfl), by repeat (first | (with_reducible first | exact HB.out | apply zg | apply ze | apply zf | refine zh ?_ GE422.out) | exact HB.out)⟩
    ·rw [if_neg c15] at H
     have c15b0 : ((t428.length : Int) == 0) = false := beq_eq_false_iff_ne.mpr c15
     have c15b1 : ((t428.length : Int) != 0) = true := bne_iff_ne.mpr c15
     have c15b2 : ¬ (t428 = []) := fun h_ => c15 (by rw [h_]; rfl)
     replace H := Option.bind_eq_some_iff.mp H
     obtain ⟨t431, A210, H⟩ := H
     replace H : (some (t431, true)) = some (r1, r2) := H
     have A21 := zb.mk A210
     clear A210
     simp only [Option.some.injEq, Prod.mk.injEq] at H
     obtain ⟨rfl, rfl⟩ := H
     have hcz22_0 : wc.cell? ⟨gb422, 0, none⟩ = some (.slice A0_0 l0_0.length c0_0) := (zD BK422.out 0).trans rfl
     have hfz22_0 := zz BK422.out 0
     go_wp2_with (first | ((with_reducible refine zH (f := 120) rfl ?_); refine zra (some 16) rfl rfl Tryz.func120 (by kernel_rfl) rfl #[.agg #[.slice A0_0 l0_0.length c0_0]] rfl (by (try simp only [List.map_toArray, List.map_cons, List.map_nil]); first | done | rfl | (simp only [List.length_drop, List.length_take]; rfl)) ?_; (with_reducible refine (zW.calls kj2 _ _ l0_0 t425 _ ?side1 ?side2 A13.out).mono ?_); (case side1 => repeat (first | exact (Kd.zV HR0_0.out HB.out) | (with_reducible refine Kd.zga ?_ _) | (with_reducible refine Kd.zia ?_ _) | (with_reducible refine Kd.zAa ?_))); (case side2 => exact HC0_0.out); rintro e w23 ⟨v426, rfl, ho0, hb⟩; refine ⟨_, rfl, ?_⟩; have n0_ := zb.mk (Kd.zua ho0 (zt (by repeat (first | (with_reducible first | exact HB.out | apply zg | apply ze | apply zf | refine zh ?_ GE422.out) | exact HB.out)))); have n1_ := zb.mk (zG (g := gb422) (o := .cells #[.slice A0_0 l0_0.length c0_0] 26 (0, 0)) (by (with_reducible repeat (first | refine zk ?_ _ | refine zm ?_ | refine zi ?_ _)); exact BK422.out) hb); have n2_ := zb.mk (zw (by repeat (first | (with_reducible first | exact HB.out | apply zg | apply ze | apply zf | refine zh ?_ GE422.out) | exact HB.out)) hb); clear BK422; clear HB; have HO427 := n0_; have BK422 := n1_; have HB := n2_; clear n0_ n1_ n2_; (try clear hb); (try clear hb2); (try clear hk); (try clear hi); (try clear ho0); obtain ⟨Ao24, co24, eo24⟩ := Kd.zpa HO427.out; subst eo24) | ((with_reducible refine zH (f := 123) rfl ?_); refine zra (some 18) rfl rfl Tryz.func123 (by kernel_rfl) rfl #[.slice Ao24 t425.length co24, .string a1] rfl (by (try simp only [List.map_toArray, List.map_cons, List.map_nil]); first | done | rfl | (simp only [List.length_drop, List.length_take]; rfl)) ?_; (with_reducible refine (zfa.calls kj2 _ _ t425 a1 t428 _ ?side1 ?side2 A14.out).mono ?_); (case side1 => repeat (first | exact (Kd.zQ HO427.out).2.2 | (with_reducible refine Kd.zga ?_ _) | (with_reducible refine Kd.zia ?_ _) | (with_reducible refine Kd.zAa ?_))); (case side2 => exact (Kd.zQ HO427.out).2.1); rintro e w25 ⟨v429, rfl, ho0, hb⟩; refine ⟨_, rfl, ?_⟩; have n0_ := zb.mk (Kd.R_elder' (by (with_reducible repeat (first | apply Kd.zo | apply Kd.zq | apply Kd.zA)); exact HO427.out) (Kd.R_base ho0) hb); have n1_ := zb.mk (Kd.zua (Kd.R_new' ho0 (Kd.R_lt (by (with_reducible repeat (first | apply Kd.zo | apply Kd.zq | apply Kd.zA)); exact HO427.out))) (zt (by repeat (first | (with_reducible first | exact HB.out | apply zg | apply ze | apply zf | refine zh ?_ GE422.out) | exact HB.out)))); have n2_ := zb.mk (zG (g := gb422) (o := .cells #[.slice A0_0 l0_0.length c0_0] 26 (0, 0)) (by (with_reducible repeat (first | refine zk ?_ _ | refine zm ?_ | refine zi ?_ _)); exact BK422.out) hb); have n3_ := zb.mk (zw (by repeat (first | (with_reducible first | exact HB.out | apply zg | apply ze | apply zf | refine zh ?_ GE422.out) | exact HB.out)) hb); clear HO427; clear BK422; clear HB; have HO427 := n0_; have HO430 := n1_; have BK422 := n2_; have HB := n3_; clear n0_ n1_ n2_ n3_; (try clear hb); (try clear hb2); (try clear hk); (try clear hi); (try clear ho0); obtain ⟨Ao26, co26, eo26⟩ := Kd.zpa HO430.out; subst eo26) | ((with_reducible refine zH (f := 125) rfl ?_); refine zra (some 23) rfl rfl Tryz.func125 (by kernel_rfl) rfl #[.slice Ao26 t428.length co26] rfl (by (try simp only [List.map_toArray, List.map_cons, List.map_nil]); first | done | rfl | (simp only [List.length_drop, List.length_take]; rfl)) ?_; (with_reducible refine (zFa.calls kj2 _ _ t428 t431 _ ?side1 ?side2 A21.out).mono ?_); (case side1 => repeat (first | exact (Kd.zQ HO430.out).2.2 | (with_reducible refine Kd.zga ?_ _) | (with_reducible refine Kd.zia ?_ _) | (with_reducible refine Kd.zAa ?_))); (case side2 => exact (Kd.zQ HO430.out).2.1); rintro e w27 ⟨rfl, hb⟩; refine ⟨_, rfl, ?_⟩; have n0_ := zb.mk (Kd.zta (by (with_reducible repeat (first | apply Kd.zo | apply Kd.zq | apply Kd.zA)); exact HO427.out) hb); have n1_ := zb.mk (Kd.zta (by (with_reducible repeat (first | apply Kd.zo | apply Kd.zq | apply Kd.zA)); exact HO430.out) hb); have n2_ := zb.mk (zG (g := gb422) (o := .cells #[.slice A0_0 l0_0.length c0_0] 26 (0, 0)) (by (with_reducible repeat (first | refine zk ?_ _ | refine zm ?_ | refine zi ?_ _)); exact BK422.out) hb); have n3_ := zb.mk (zw (by repeat (first | (with_reducible first | exact HB.out | apply zg | apply ze | apply zf | refine zh ?_ GE422.out) | exact HB.out)) hb); clear HO427; clear HO430; clear BK422; clear HB; have HO427 := n0_; have HO430 := n1_; have BK422 := n2_; have HB := n3_; clear n0_ n1_ n2_ n3_; (try clear hb); (try clear hb2); (try clear hk); (try clear hi)))
     go_ret2
     exact ⟨by first | rfl | (simp [zC, zB] <;> rfl) | (simp [*, zC, zB] <;> rfl), by repeat (first | (with_reducible first | exact HB.out | apply zg | apply ze | apply zf | refine zh ?_ GE422.out) | exact HB.out)⟩
end Go.Proofs.YtfabennfhmlihaaGreatDoor.P
end
section
namespace Go.Proofs.YtfabennfhmlihaaGreatDoor.P
open Go.RowKit Go.Proofs.YtfabennfhmlihaaGreatDoorW.zJ Go.Proofs.YtfabennfhmlihaaGreatDoorW.zU Go.Proofs.YtfabennfhmlihaaGreatDoorW.PrintMore
set_option linter.unusedVariables false
set_option linter.unusedSimpArgs false
def zka.j0 : Nat → Bool → List (zL) → Option (ByteArray × Bool)
 | 0, _, _ => none
 | k + 1, x12, x489000 => if x12 = true then (some ((⟨#[]⟩ : ByteArray), false)) else ((zW.f k x489000).bind fun t493 => ((zFa.f k t493).bind fun t496 => (some (t496, true))))
def zka.f (k : Nat) (l0_0 : List (zL)) : Option (ByteArray × Bool) := (zea.f k l0_0).bind fun t489 => (if t489 = true then ((zW.f k l0_0).bind fun t490 => (zka.j0 k ((t490.length : Int) == 0) l0_0)) else (zka.j0 k true l0_0))
set_option maxHeartbeats 8000000 in
set_option maxRecDepth 100000 in
theorem zka.calls (k : Nat) (A0_0 : Option Addr) (c0_0 : Nat) (l0_0 : List (zL)) (r1 : ByteArray) (r2 : Bool) (w : World) (hr0_0 : Kd.C zXa w A0_0 l0_0.length l0_0) (hc0_0 : l0_0.length ≤ c0_0) (h : zka.f k l0_0 = some (r1, r2)) :
  Calls Tryz.prog 20 #[.agg #[.slice A0_0 l0_0.length c0_0]] w fun e w' => e = .returned (.tuple #[.string r1, .bool r2]) ∧ Below w.heap.size w w' := by
 have hu26 := Tryz.underlying26
 have HR0_0 := zb.mk hr0_0
 have HC0_0 := zb.mk hc0_0
 clear hr0_0 hc0_0
 have HB := zb.mk (Below.refl w.heap.size w)
 have H : ((zea.f k l0_0).bind fun t489 => (if t489 = true then ((zW.f k l0_0).bind fun t490 => (zka.j0 k ((t490.length : Int) == 0) l0_0)) else (zka.j0 k true l0_0))) = some (r1, r2) := h
 clear h
 have HC2 := zb.mk H
 clear H
 go_enter Tryz.func20, Tryz.ntmps20
 go_upto_region 1 with (first | ((with_reducible refine zoa (N := 1) rfl ?_); (try (refine zOa (by rfl) ?_; dsimp only)); refine zEa ?hg (N := 1) ?hd (cs := #[.slice A0_0 l0_0.length c0_0]) (t := 26) ?hr ?_; (case hd => rfl); (case hg => rfl); (case hr => first | (go_simp; done) | (go_simp; rfl)); intro gb488 hg w3 hbox hb; have n0_ := zb.mk (zw (by repeat (first | (with_reducible first | exact HB.out | apply zg | apply ze | apply zf) | exact HB.out)) hb); have n1_ := zb.mk (hbox); have n2_ := zb.mk ((by rw [hg]; exact (zt (by repeat (first | (with_reducible first | exact HB.out | apply zg | apply ze | apply zf) | exact HB.out))) : w.heap.size ≤ gb488)); have n3_ := zb.mk ((by rw [hg]; exact (zt (by repeat (first | (with_reducible first | exact HB.out | apply zg | apply ze | apply zf) | exact HB.out))) : w.heap.size ≤ gb488)); clear HB; have HB := n0_; have BK488 := n1_; have GW488 := n2_; have GE488 := n3_; clear n0_ n1_ n2_ n3_; clear hb hbox hg))
 (try simp only [Act.put, List.setIfInBounds_toArray, List.set_cons_zero, List.set_cons_succ])
 go_cut [12] (fun v12 wc => ∃ (kq : Nat) (x12_1 : Bool), v12 = .bool x12_1 ∧ zb (zka.j0 kq x12_1 l0_0 = some (r1, r2)) ∧ zb (kq ≤ k) ∧ zb (wc.heap[gb488]? = some (.cells #[(.slice A0_0 l0_0.length c0_0)] 26 (0, 0))) ∧ zb (Below w.heap.size w wc))
 case first =>
  have H := HC2.out
  clear HC2
  replace H := Option.bind_eq_some_iff.mp H
  obtain ⟨t489, A40, H⟩ := H
  replace H : (if t489 = true then ((zW.f k l0_0).bind fun t490 => (zka.j0 k ((t490.length : Int) == 0) l0_0)) else (zka.j0 k true l0_0)) = some (r1, r2) := H
  have A4 := zb.mk A40
  clear A40
  by_cases c5 : t489 = true
  ·subst c5
   have H1 : ((zW.f k l0_0).bind fun t490 => (zka.j0 k ((t490.length : Int) == 0) l0_0)) = some (r1, r2) := by rw [if_pos rfl] at H; exact H
   clear H
   have H := H1
   clear H1
   replace H := Option.bind_eq_some_iff.mp H
   obtain ⟨t490, A60, H⟩ := H
   replace H : (zka.j0 k ((t490.length : Int) == 0) l0_0) = some (r1, r2) := H
   have A6 := zb.mk A60
   clear A60
   have H' := zb.mk H
   clear H
   have hcz7_0 : w3.cell? ⟨gb488, 0, none⟩ = some (.slice A0_0 l0_0.length c0_0) := (zD BK488.out 0).trans rfl
   have hfz7_0 := zz BK488.out 0
   go_wp2_with (first | ((with_reducible refine zH (f := 118) rfl ?_); refine zra (some 5) rfl rfl Tryz.func118 (by kernel_rfl) rfl #[.agg #[.slice A0_0 l0_0.length c0_0]] rfl (by (try simp only [List.map_toArray, List.map_cons, List.map_nil]); first | done | rfl | (simp only [List.length_drop, List.length_take]; rfl)) ?_; (with_reducible refine (zea.calls k _ _ l0_0 true _ ?side1 ?side2 A4.out).mono ?_); (case side1 => repeat (first | exact (Kd.zV HR0_0.out HB.out) | (with_reducible refine Kd.zga ?_ _) | (with_reducible refine Kd.zia ?_ _) | (with_reducible refine Kd.zAa ?_))); (case side2 => exact HC0_0.out); rintro e w8 ⟨rfl, hb⟩; refine ⟨_, rfl, ?_⟩; have n0_ := zb.mk (zG (g := gb488) (o := .cells #[.slice A0_0 l0_0.length c0_0] 26 (0, 0)) (by (with_reducible repeat (first | refine zk ?_ _ | refine zm ?_ | refine zi ?_ _)); exact BK488.out) hb); have n1_ := zb.mk (zw (by repeat (first | (with_reducible first | exact HB.out | apply zg | apply ze | apply zf | refine zh ?_ GE488.out) | exact HB.out)) hb); clear BK488; clear HB; have BK488 := n0_; have HB := n1_; clear n0_ n1_; (try clear hb); (try clear hb2); (try clear hk); (try clear hi); have hcz9_0 : w8.cell? ⟨gb488, 0, none⟩ = some (.slice A0_0 l0_0.length c0_0) := (zD BK488.out 0).trans rfl; have hfz9_0 := zz BK488.out 0) | (go_at_call 120; (with_reducible refine (zW.calls k _ _ l0_0 t490 _ ?side1 ?side2 A6.out).mono ?_); (case side1 => repeat (first | exact (Kd.zV HR0_0.out HB.out) | (with_reducible refine Kd.zga ?_ _) | (with_reducible refine Kd.zia ?_ _) | (with_reducible refine Kd.zAa ?_))); (case side2 => exact HC0_0.out); rintro e w10 ⟨v491, rfl, ho0, hb⟩; have n0_ := zb.mk (Kd.zua ho0 (zt (by repeat (first | (with_reducible first | exact HB.out | apply zg | apply ze | apply zf | refine zh ?_ GE488.out) | exact HB.out)))); have n1_ := zb.mk (zG (g := gb488) (o := .cells #[.slice A0_0 l0_0.length c0_0] 26 (0, 0)) (by (with_reducible repeat (first | refine zk ?_ _ | refine zm ?_ | refine zi ?_ _)); exact BK488.out) hb); have n2_ := zb.mk (zw (by repeat (first | (with_reducible first | exact HB.out | apply zg | apply ze | apply zf | refine zh ?_ GE488.out) | exact HB.out)) hb); clear BK488; clear HB; have HO492 := n0_; have BK488 := n1_; have HB := n2_; clear n0_ n1_ n2_; (try clear hb); (try clear hb2); (try clear hk); (try clear hi); (try clear ho0); obtain ⟨Ao11, co11, eo11⟩ := Kd.zpa HO492.out; subst eo11))
   go_meet
   case rel => exact ⟨_, (((t490.length : Int) == 0)), (by first | rfl | (simp; done) | (simp [*]; done)), H', ⟨by first | omega | exact Nat.le_refl _⟩, ⟨by (with_reducible repeat (first | refine zk ?_ _ | refine zm ?_ | refine zi ?_ _)); exact BK488.out⟩, ⟨by repeat (first | (with_reducible first | exact HB.out | apply zg | apply ze | apply zf | refine zh ?_ GE488.out) | exact HB.out)⟩⟩
  ·replace c5 := Bool.eq_false_iff.mpr c5
   subst c5
   have H1 : (zka.j0 k true l0_0) = some (r1, r2) := by rw [if_neg (show ¬ (false = true) by decide)] at H; exact H
   clear H
   have H := H1
   clear H1
   have H' := zb.mk H
   clear H
   have hcz12_0 : w3.cell? ⟨gb488, 0, none⟩ = some (.slice A0_0 l0_0.length c0_0) := (zD BK488.out 0).trans rfl
   have hfz12_0 := zz BK488.out 0
   go_wp2_with (first | ((with_reducible refine zH (f := 118) rfl ?_); refine zra (some 5) rfl rfl Tryz.func118 (by kernel_rfl) rfl #[.agg #[.slice A0_0 l0_0.length c0_0]] rfl (by (try simp only [List.map_toArray, List.map_cons, List.map_nil]); first | done | rfl | (simp only [List.length_drop, List.length_take]; rfl)) ?_; (with_reducible refine (zea.calls k _ _ l0_0 false _ ?side1 ?side2 A4.out).mono ?_); (case side1 => repeat (first | exact (Kd.zV HR0_0.out HB.out) | (with_reducible refine Kd.zga ?_ _) | (with_reducible refine Kd.zia ?_ _) | (with_reducible refine Kd.zAa ?_))); (case side2 => exact HC0_0.out); rintro e w13 ⟨rfl, hb⟩; refine ⟨_, rfl, ?_⟩; have n0_ := zb.mk (zG (g := gb488) (o := .cells #[.slice A0_0 l0_0.length c0_0] 26 (0, 0)) (by (with_reducible repeat (first | refine zk ?_ _ | refine zm ?_ | refine zi ?_ _)); exact BK488.out) hb); have n1_ := zb.mk (zw (by repeat (first | (with_reducible first | exact HB.out | apply zg | apply ze | apply zf | refine zh ?_ GE488.out) | exact HB.out)) hb); clear BK488; clear HB; have BK488 := n0_; have HB := n1_; clear n0_ n1_; (try clear hb); (try clear hb2); (try clear hk); (try clear hi)))
   go_meet
   case rel => exact ⟨_, (true), (by first | rfl | (simp; done) | (simp [*]; done)), H', ⟨by first | omega | exact Nat.le_refl _⟩, ⟨by (with_reducible repeat (first | refine zk ?_ _ | refine zm ?_ | refine zi ?_ _)); exact BK488.out⟩, ⟨by repeat (first | (with_reducible first | exact HB.out | apply zg | apply ze | apply zf | refine zh ?_ GE488.out) | exact HB.out)⟩⟩
 case rest =>
  clear HC2
  try clear c1
  try clear c2
  try clear p2
  try clear c5
  try clear c11
  try clear hcz12_0
  try clear hcz7_0
  try clear hcz9_0
  try clear hfz12_0
  try clear hfz7_0
  try clear hfz9_0
  obtain ⟨kq, x12_1, rfl, HA, HJ1, BK488, HB⟩ := hcut
  cases kq with
  | zero => exact absurd HA.out (by simp [zka.j0])
  | succ kj1 =>
   have H := HA.out
   clear HA
   simp only [zka.j0] at H
   by_cases c14 : x12_1 = true
   ·subst c14
    have H1 : (some ((⟨#[]⟩ : ByteArray), false)) = some (r1, r2) := by rw [if_pos rfl] at H; exact H
    clear H
    have H := H1
    clear H1
    simp only [Option.some.injEq, Prod.mk.injEq] at H
    obtain ⟨rfl, rfl⟩ := H
    go_wp2
    go_ret2
    exact ⟨by first | rfl | (simp [zC, zB] <;> rfl) | (simp [*, zC, zB] <;> rfl), by repeat (first | (with_reducible first | exact HB.out | apply zg | apply ze | apply zf | refine zh ?_ GE488.out) | exact HB.out)⟩
   ·replace c14 := Bool.eq_false_iff.mpr c14
    subst c14
    have H1 : ((zW.f kj1 l0_0).bind fun t493 => ((zFa.f kj1 t493).bind fun t496 => (some (t496, true)))) = some (r1, r2) := by rw [if_neg (show ¬ (false = true) by decide)] at H; exact H
    clear H
    have H := H1
    clear H1
    replace H := Option.bind_eq_some_iff.mp H
    obtain ⟨t493, A150, H⟩ := H
    replace H : ((zFa.f kj1 t493).bind fun t496 => (some (t496, true))) = some (r1, r2) := H
    have A15 := zb.mk A150
    clear A150
    replace H := Option.bind_eq_some_iff.mp H
    obtain ⟨t496, A160, H⟩ := H
    replace H : (some (t496, true)) = some (r1, r2) := H
    have A16 := zb.mk A160
    clear A160
    simp only [Option.some.injEq, Prod.mk.injEq] at H
    obtain ⟨rfl, rfl⟩ := H
    have hcz17_0 : wc.cell? ⟨gb488, 0, none⟩ = some (.slice A0_0 l0_0.length c0_0) := (zD BK488.out 0).trans rfl
    have hfz17_0 := zz BK488.out 0
    go_wp2_with (first | ((with_reducible refine zH (f := 120) rfl ?_); refine zra (some 14) rfl rfl Tryz.func120 (by kernel_rfl) rfl #[.agg #[.slice A0_0 l0_0.length c0_0]] rfl (by (try simp only [List.map_toArray, List.map_cons, List.map_nil]); first | done | rfl | (simp only [List.length_drop, List.length_take]; rfl)) ?_; (with_reducible refine (zW.calls kj1 _ _ l0_0 t493 _ ?side1 ?side2 A15.out).mono ?_); (case side1 => repeat (first | exact (Kd.zV HR0_0.out HB.out) | (with_reducible refine Kd.zga ?_ _) | (with_reducible refine Kd.zia ?_ _) | (with_reducible refine Kd.zAa ?_))); (case side2 => exact HC0_0.out); rintro e w18 ⟨v494, rfl, ho0, hb⟩; refine ⟨_, rfl, ?_⟩; have n0_ := zb.mk (Kd.zua ho0 (zt (by repeat (first | (with_reducible first | exact HB.out | apply zg | apply ze | apply zf | refine zh ?_ GE488.out) | exact HB.out)))); have n1_ := zb.mk (zG (g := gb488) (o := .cells #[.slice A0_0 l0_0.length c0_0] 26 (0, 0)) (by (with_reducible repeat (first | refine zk ?_ _ | refine zm ?_ | refine zi ?_ _)); exact BK488.out) hb); have n2_ := zb.mk (zw (by repeat (first | (with_reducible first | exact HB.out | apply zg | apply ze | apply zf | refine zh ?_ GE488.out) | exact HB.out)) hb); clear BK488; clear HB; have HO495 := n0_; have BK488 := n1_; have HB := n2_; clear n0_ n1_ n2_; (try clear hb); (try clear hb2); (try clear hk); (try clear hi); (try clear ho0); obtain ⟨Ao19, co19, eo19⟩ := Kd.zpa HO495.out; subst eo19) | ((with_reducible refine zH (f := 125) rfl ?_); refine zra (some 15) rfl rfl Tryz.func125 (by kernel_rfl) rfl #[.slice Ao19 t493.length co19] rfl (by (try simp only [List.map_toArray, List.map_cons, List.map_nil]); first | done | rfl | (simp only [List.length_drop, List.length_take]; rfl)) ?_; (with_reducible refine (zFa.calls kj1 _ _ t493 t496 _ ?side1 ?side2 A16.out).mono ?_); (case side1 => repeat (first | exact (Kd.zQ HO495.out).2.2 | (with_reducible refine Kd.zga ?_ _) | (with_reducible refine Kd.zia ?_ _) | (with_reducible refine Kd.zAa ?_))); (case side2 => exact (Kd.zQ HO495.out).2.1); rintro e w20 ⟨rfl, hb⟩; refine ⟨_, rfl, ?_⟩; have n0_ := zb.mk (Kd.zta (by (with_reducible repeat (first | apply Kd.zo | apply Kd.zq | apply Kd.zA)); exact HO495.out) hb); have n1_ := zb.mk (zG (g := gb488) (o := .cells #[.slice A0_0 l0_0.length c0_0] 26 (0, 0)) (by (with_reducible repeat (first | refine zk ?_ _ | refine zm ?_ | refine zi ?_ _)); exact BK488.out) hb); have n2_ := zb.mk (zw (by repeat (first | (with_reducible first | exact HB.out | apply zg | apply ze | apply zf | refine zh ?_ GE488.out) | exact HB.out)) hb); clear HO495; clear BK488; clear HB; have HO495 := n0_; have BK488 := n1_; have HB := n2_; clear n0_ n1_ n2_; (try clear hb); (try clear hb2); (try clear hk); (try clear hi)))
    go_ret2
    exact ⟨by first | rfl | (simp [zC, zB] <;> rfl) | (simp [*, zC, zB] <;> rfl), by repeat (first | (with_reducible first | exact HB.out | apply zg | apply ze | apply zf | refine zh ?_ GE488.out) | exact HB.out)⟩
end Go.Proofs.YtfabennfhmlihaaGreatDoor.P
end
section
namespace Go.Proofs.YtfabennfhmlihaaGreatDoor.P
open Go.RowKit Go.Proofs.YtfabennfhmlihaaGreatDoorW.zJ Go.Proofs.YtfabennfhmlihaaGreatDoorW.zU Go.Proofs.YtfabennfhmlihaaGreatDoorW.PrintMore
set_option linter.unusedVariables false
set_option linter.unusedSimpArgs false
def zeb.l0 : Nat → List ByteArray → List ByteArray → Int → Option (Bool)
 | 0, _, _, _ => none
 | k + 1, x0, x1, x5 => if x5 < (x0.length : Int) then (if 0 ≤ x5 then (if x5 < (x1.length : Int) then (if (rdOf ByteArray.empty x0 x5).toList = (rdOf ByteArray.empty x1 x5).toList then (zeb.l0 k x0 x1 (wrap64 (x5 + 1))) else (some false)) else (none)) else (none)) else (some true)
def zeb.f (k : Nat) (l0 : List ByteArray) (l1 : List ByteArray) : Option (Bool) := if (l0.length : Int) = (l1.length : Int) then (zeb.l0 k l0 l1 0) else (some false)
set_option maxHeartbeats 8000000 in
set_option maxRecDepth 100000 in
theorem zeb.calls (k : Nat) (A0 : Option Addr) (c0 : Nat) (l0 : List ByteArray) (A1 : Option Addr) (c1 : Nat) (l1 : List ByteArray) (r : Bool) (w : World) (hr0 : Kd.C Kd.string w A0 l0.length l0) (hc0 : l0.length ≤ c0) (hr1 : Kd.C Kd.string w A1 l1.length l1) (hc1 : l1.length ≤ c1) (h : zeb.f k l0 l1 = some r) :
  Calls Tryz.prog 21 #[.slice A0 l0.length c0, .slice A1 l1.length c1] w fun e w' => e = .returned (.bool r) ∧ zX w w' := by
 have HR0 := zb.mk hr0
 have HC0 := zb.mk hc0
 clear hr0 hc0
 have HR1 := zb.mk hr1
 have HC1 := zb.mk hc1
 clear hr1 hc1
 have H : (if (l0.length : Int) = (l1.length : Int) then (zeb.l0 k l0 l1 0) else (some false)) = some r := h
 clear h
 by_cases c3 : (l0.length : Int) = (l1.length : Int)
 ·rw [if_pos c3] at H
  have c3b0 : ((l0.length : Int) == (l1.length : Int)) = true := beq_iff_eq.mpr c3
  have c3b1 : ((l0.length : Int) != (l1.length : Int)) = false := bne_eq_false_iff_eq.mpr c3
  have c3b2 : (l0.length == l1.length) = true := by first | simpa using c3 | (simp at c3 ⊢; omega)
  clear c3
  have H' := zb.mk H
  clear H
  go_enter Tryz.func21, Tryz.ntmps21
  go_wp2
  repeat (go_quiet (fail); try go_wp2)
  go_loopg [5] k (fun kq v5 w' => ∃ (x5_1 : Int), v5 = .int .i64 x5_1 ∧ zb (zeb.l0 kq l0 l1 x5_1 = some r) ∧ zb (kq ≤ k) ∧ zX w w')
  case atStart => exact ⟨(0), (by first | rfl | (simp; done) | (simp [*]; done)), H', ⟨Nat.le_refl _⟩, by repeat (first | exact zX.refl _ | apply zX.step)⟩
  case round =>
   clear H'
   try clear c1
   try clear c2
   try clear p2
   try clear c3
   try clear c3b0
   try clear c3b1
   try clear c3b2
   obtain ⟨x5_1, rfl, HA, HK1, ⟨m1, rfl⟩⟩ := hrel
   cases gk with
   | zero => exact absurd HA.out (by simp [zeb.l0])
   | succ k1 =>
    have H := HA.out
    clear HA
    simp only [zeb.l0] at H
    by_cases c4 : x5_1 < (l0.length : Int)
    ·rw [if_pos c4] at H
     have c4b0 : decide (x5_1 < (l0.length : Int)) = true := decide_eq_true c4
     clear c4
     by_cases c5 : 0 ≤ x5_1
     ·rw [if_pos c5] at H
      have c5b0 : decide (0 ≤ x5_1) = true := decide_eq_true c5
      clear c5
      by_cases c6 : x5_1 < (l1.length : Int)
      ·rw [if_pos c6] at H
       have c6b0 : decide (x5_1 < (l1.length : Int)) = true := decide_eq_true c6
       clear c6
       by_cases c7 : (rdOf ByteArray.empty l0 x5_1).toList = (rdOf ByteArray.empty l1 x5_1).toList
       ·rw [if_pos c7] at H
        have c7b0 : ((rdOf ByteArray.empty l0 x5_1).toList == (rdOf ByteArray.empty l1 x5_1).toList) = true := beq_iff_eq.mpr c7
        have c7b1 : ((rdOf ByteArray.empty l0 x5_1).toList != (rdOf ByteArray.empty l1 x5_1).toList) = false := bne_eq_false_iff_eq.mpr c7
        clear c7
        have H' := zb.mk H
        clear H
        have p497 : 0 ≤ (x5_1 : Int) := of_decide_eq_true (by first | (with_reducible assumption) | assumption)
        have q497 : x5_1 < (l0.length : Int) := of_decide_eq_true (by first | (with_reducible assumption) | assumption)
        obtain ⟨ad497, e497, hx497_0⟩ := Kd.zza HR0.out x5_1 p497 q497
        cases e497
        replace p497 := eq_true p497
        replace q497 := eq_true q497
        have p498 : 0 ≤ (x5_1 : Int) := of_decide_eq_true (by first | (with_reducible assumption) | assumption)
        have q498 : x5_1 < (l1.length : Int) := of_decide_eq_true (by first | (with_reducible assumption) | assumption)
        obtain ⟨ad498, e498, hx498_0⟩ := Kd.zza HR1.out x5_1 p498 q498
        cases e498
        replace p498 := eq_true p498
        replace q498 := eq_true q498
        go_wp2
        repeat (go_quiet (fail); try go_wp2)
        go_roundg k1
        case measure => have := HK1.out; omega
        case rel => exact ⟨(wrap64 (x5_1 + 1)), (by first | rfl | (simp; done) | (simp [*]; done)), H', ⟨by have := HK1.out; omega⟩, by repeat (first | exact zX.refl _ | apply zX.step)⟩
       ·rw [if_neg c7] at H
        have c7b0 : ((rdOf ByteArray.empty l0 x5_1).toList == (rdOf ByteArray.empty l1 x5_1).toList) = false := beq_eq_false_iff_ne.mpr c7
        have c7b1 : ((rdOf ByteArray.empty l0 x5_1).toList != (rdOf ByteArray.empty l1 x5_1).toList) = true := bne_iff_ne.mpr c7
        obtain rfl := Option.some.inj H
        have p497 : 0 ≤ (x5_1 : Int) := of_decide_eq_true (by first | (with_reducible assumption) | assumption)
        have q497 : x5_1 < (l0.length : Int) := of_decide_eq_true (by first | (with_reducible assumption) | assumption)
        obtain ⟨ad497, e497, hx497_0⟩ := Kd.zza HR0.out x5_1 p497 q497
        cases e497
        replace p497 := eq_true p497
        replace q497 := eq_true q497
        have p498 : 0 ≤ (x5_1 : Int) := of_decide_eq_true (by first | (with_reducible assumption) | assumption)
        have q498 : x5_1 < (l1.length : Int) := of_decide_eq_true (by first | (with_reducible assumption) | assumption)
        obtain ⟨ad498, e498, hx498_0⟩ := Kd.zza HR1.out x5_1 p498 q498
        cases e498
        replace p498 := eq_true p498
        replace q498 := eq_true q498
        go_wp2
        repeat (go_quiet (fail); try go_wp2)
        go_ret
        exact ⟨by first | rfl | (simp; done) | (simp [*]; done), by repeat (first | exact zX.refl _ | apply zX.step)⟩
      ·rw [if_neg c6] at H
       exact absurd H (by simp)
     ·rw [if_neg c5] at H
      exact absurd H (by simp)
    ·rw [if_neg c4] at H
     have c4b0 : decide (x5_1 < (l0.length : Int)) = false := decide_eq_false c4
     clear c4
     obtain rfl := Option.some.inj H
     go_wp2
     repeat (go_quiet (fail); try go_wp2)
     go_ret
     exact ⟨by first | rfl | (simp; done) | (simp [*]; done), by repeat (first | exact zX.refl _ | apply zX.step)⟩
 ·rw [if_neg c3] at H
  have c3b0 : ((l0.length : Int) == (l1.length : Int)) = false := beq_eq_false_iff_ne.mpr c3
  have c3b1 : ((l0.length : Int) != (l1.length : Int)) = true := bne_iff_ne.mpr c3
  have c3b2 : (l0.length == l1.length) = false := by first | simpa using c3 | (simp at c3 ⊢; omega)
  obtain rfl := Option.some.inj H
  go_enter Tryz.func21, Tryz.ntmps21
  go_wp2
  repeat (go_quiet (fail); try go_wp2)
  go_ret
  exact ⟨by first | rfl | (simp; done) | (simp [*]; done), by repeat (first | exact zX.refl _ | apply zX.step)⟩
end Go.Proofs.YtfabennfhmlihaaGreatDoor.P
end
section
namespace Go.Proofs.YtfabennfhmlihaaGreatDoor.P
open Go.RowKit Go.Proofs.YtfabennfhmlihaaGreatDoorW.zJ Go.Proofs.YtfabennfhmlihaaGreatDoorW.zU Go.Proofs.YtfabennfhmlihaaGreatDoorW.PrintMore
set_option linter.unusedVariables false
set_option linter.unusedSimpArgs false
def laws_vCut.f (l0 : List Int) (a1 : Int) : Option (List Int) := if a1 > (l0.length : Int) then ((some (([] : List Int) : List Int)).bind fun y459 => (if 0 ≤ (l0.length : Int) then (if (l0.length : Int) ≤ (l0.length : Int) then (if y459.length + (l0.drop ((l0.length : Int) : Int).toNat).length < 140737488355328 then ((some (y459 ++ (l0.drop ((l0.length : Int) : Int).toNat) : List Int)).bind fun y463 => (if y463.length < 140737488355328 then (some (y463 ++ [((l0.length : Int)) % 256])) else (none))) else (none)) else (none)) else (none))) else ((some (([] : List Int) : List Int)).bind fun y469 => (if 0 ≤ a1 then (if a1 ≤ (l0.length : Int) then (if y469.length + (l0.drop (a1 : Int).toNat).length < 140737488355328 then ((some (y469 ++ (l0.drop (a1 : Int).toNat) : List Int)).bind fun y473 => (if y473.length < 140737488355328 then (some (y473 ++ [(a1) % 256])) else (none))) else (none)) else (none)) else (none)))
set_option maxHeartbeats 8000000 in
set_option maxRecDepth 100000 in
theorem laws_vCut.calls (A0 : Option Addr) (c0 : Nat) (l0 : List Int) (a1 : Int) (r : List Int) (w : World) (hr0 : Kd.C (Kd.int .u8) w A0 l0.length l0) (hc0 : l0.length ≤ c0) (hle_ : a1 ≤ (l0.length : Int)) (h : laws_vCut.f l0 a1 = some r) :
  Calls Tryz.prog 18 #[.slice A0 l0.length c0, .int .i64 a1] w fun e w' => ∃ v0_ : Value, e = .returned (v0_) ∧ Kd.R (Kd.int .u8) 5 w' w.heap.size (fun _ => True) v0_ r ∧ Below w.heap.size w w' := by
 have HR0 := zb.mk hr0
 have HC0 := zb.mk hc0
 clear hr0 hc0
 have HB := zb.mk (Below.refl w.heap.size w)
 have H : (if a1 > (l0.length : Int) then ((some (([] : List Int) : List Int)).bind fun y459 => (if 0 ≤ (l0.length : Int) then (if (l0.length : Int) ≤ (l0.length : Int) then (if y459.length + (l0.drop ((l0.length : Int) : Int).toNat).length < 140737488355328 then ((some (y459 ++ (l0.drop ((l0.length : Int) : Int).toNat) : List Int)).bind fun y463 => (if y463.length < 140737488355328 then (some (y463 ++ [((l0.length : Int)) % 256])) else (none))) else (none)) else (none)) else (none))) else ((some (([] : List Int) : List Int)).bind fun y469 => (if 0 ≤ a1 then (if a1 ≤ (l0.length : Int) then (if y469.length + (l0.drop (a1 : Int).toNat).length < 140737488355328 then ((some (y469 ++ (l0.drop (a1 : Int).toNat) : List Int)).bind fun y473 => (if y473.length < 140737488355328 then (some (y473 ++ [(a1) % 256])) else (none))) else (none)) else (none)) else (none)))) = some r := h
 clear h
 by_cases c3 : a1 > (l0.length : Int)
 ·exact absurd hle_ (by omega)
 ·rw [if_neg c3] at H
  have c3b0 : decide ((l0.length : Int) < a1) = false := decide_eq_false c3
  clear c3
  obtain ⟨y469, hy469⟩ : ∃ y_ : List Int, y_ = (([] : List Int)) := ⟨_, rfl⟩
  replace H : (if 0 ≤ a1 then (if a1 ≤ (l0.length : Int) then (if y469.length + (l0.drop (a1 : Int).toNat).length < 140737488355328 then ((some (y469 ++ (l0.drop (a1 : Int).toNat) : List Int)).bind fun y473 => (if y473.length < 140737488355328 then (some (y473 ++ [(a1) % 256])) else (none))) else (none)) else (none)) else (none)) = some r := by first | (rw [hy469]; with_reducible exact H) | (have H2_ := (Option.bind_some _ _).symm.trans H; rw [hy469]; with_reducible exact H2_) | (have H2_ := (Option.bind_some _ _).symm.trans H; with_reducible exact H2_) | with_reducible exact H | (rw [hy469]; exact H) | exact H
  have Ny469 := zb.mk hy469
  clear hy469
  by_cases c13 : 0 ≤ a1
  ·rw [if_pos c13] at H
   have c13b0 := eq_true c13
   have c13b1 : decide (0 ≤ a1) = true := decide_eq_true c13
   clear c13
   by_cases c14 : a1 ≤ (l0.length : Int)
   ·rw [if_pos c14] at H
    have c14b0 := eq_true c14
    have c14b1 : decide (a1 ≤ (l0.length : Int)) = true := decide_eq_true c14
    clear c14
    by_cases c15 : y469.length + (l0.drop (a1 : Int).toNat).length < 140737488355328
    ·rw [if_pos c15] at H
     have LMc15 := zb.mk c15
     clear c15
     obtain ⟨y473, hy473⟩ : ∃ y_ : List Int, y_ = (y469 ++ (l0.drop (a1 : Int).toNat)) := ⟨_, rfl⟩
     replace H : (if y473.length < 140737488355328 then (some (y473 ++ [(a1) % 256])) else (none)) = some r := by first | (rw [hy473]; with_reducible exact H) | (have H2_ := (Option.bind_some _ _).symm.trans H; rw [hy473]; with_reducible exact H2_) | (have H2_ := (Option.bind_some _ _).symm.trans H; with_reducible exact H2_) | with_reducible exact H | (rw [hy473]; exact H) | exact H
     have Ny473 := zb.mk hy473
     clear hy473
     by_cases c16 : y473.length < 140737488355328
     ·rw [if_pos c16] at H
      have LMc16 := zb.mk c16
      clear c16
      obtain ⟨y476, hy476⟩ : ∃ y_ : List Int, y_ = (y473 ++ [(a1) % 256]) := ⟨_, rfl⟩
      replace H : (some y476) = some r := by first | (rw [hy476]; with_reducible exact H) | (have H2_ := (Option.bind_some _ _).symm.trans H; rw [hy476]; with_reducible exact H2_) | (have H2_ := (Option.bind_some _ _).symm.trans H; with_reducible exact H2_) | with_reducible exact H | (rw [hy476]; exact H) | exact H
      have Ny476 := zb.mk hy476
      clear hy476
      obtain rfl := Option.some.inj H
      go_enter Tryz.func18, Tryz.ntmps18
      go_wp2_with (first | ((with_reducible refine zoa (N := 11) rfl ?_); refine Kd.R_lit (Kd.int .u8) _ 5 ?hg (N := 11) ?hd (xs := ([] : List Int)) (inner := []) (ok := fun _ => True) (okp := fun _ => True) ?hr ?hp (fun _ hk => hk) trivial (Below.refl _ _) (Nat.le_refl _) (by simp) ?_; (case hd => rfl); (case hg => rfl); (case hr => first | (go_simp; done) | (go_simp; rfl)); (case hp => exact (Reps.none _ _)); intro v470 w17 ho18 hb hg_ hnew_; clear hg_ hnew_; (first | rw [← Ny469.out] at ho18 | (simp only [Int.reduceToNat] at ho18; rw [← Ny469.out] at ho18)); have n0_ := zb.mk (Kd.zua ho18 (zt (by repeat (first | (with_reducible first | exact HB.out | apply zg | apply ze | apply zf) | exact HB.out)))); have n1_ := zb.mk (zw (by repeat (first | (with_reducible first | exact HB.out | apply zg | apply ze | apply zf) | exact HB.out)) hb); clear HB; have HO471 := n0_; have HB := n1_; clear n0_ n1_; clear hb ho18; obtain ⟨i019, hi019, _, hsz19, _⟩ := info_parts info5; obtain ⟨A19, hcut19, hA19, hC19⟩ := print_drop_of (P := Tryz.prog) (Value.int .u8) 0 22 5 .i64 Tryz.underlying22 hi019 hsz19 A0 c0 l0 a1 (of_decide_eq_true (by first | (with_reducible assumption) | assumption)) (of_decide_eq_true (by first | (with_reducible assumption) | assumption)) HC0.out; have HR472 := zb.mk (Kd.C_of_reads (h1 := fun _ => rfl) (hA19 _ (Kd.reads_of_C HR0.out))); have HC472 := zb.mk hC19; clear hA19 hC19 hi019 hsz19) | ((with_reducible refine zZa (b := .append) (xs := #[.tmp 11, .tmp 14]) rfl ?_); at_builtin; refine Kd.R_append_rows (Kd.int .u8) (w0 := w) w.heap.size rfl (.tmp 11) (.tmp 14) 22 5 (.int .u8 0) 1 rfl Tryz.underlying22 info5 rfl (by decide) (by omega) v470 y469 (l0.drop (a1 : Int).toNat) _ _ _ (fun _ => True) (fun _ => False) rfl rfl ?aO ?aR (fun _ _ h => h) (fun _ h => h.elim) ?aF ?aB ?aS ?aL ?_; (case aR => first | (rw [← show (l0.drop (a1 : Int).toNat).length = (l0.length - a1.toNat) from List.length_drop]; repeat (first | exact (Kd.zV HR472.out HB.out) | (with_reducible refine Kd.zga ?_ _) | (with_reducible refine Kd.zia ?_ _) | (with_reducible refine Kd.zAa ?_))) | (repeat (first | exact (Kd.zV HR472.out HB.out) | (with_reducible refine Kd.zga ?_ _) | (with_reducible refine Kd.zia ?_ _) | (with_reducible refine Kd.zAa ?_)))); (case aB => exact (by repeat (first | (with_reducible first | exact HB.out | apply zg | apply ze | apply zf) | exact HB.out))); (case aF => exact (fun _ _ => trivial)); (case aO => exact (by (with_reducible repeat (first | apply Kd.zo | apply Kd.zq | apply Kd.zA)); exact HO471.out)); (case aS => exact (zt (by repeat (first | (with_reducible first | exact HB.out | apply zg | apply ze | apply zf) | exact HB.out)))); (case aL => have := LMc15.out; have hlx_ := (show (l0.drop (a1 : Int).toNat).length = (l0.length - a1.toNat) from List.length_drop); omega); intro v474 w20 ho hb hg hat; rw [← Ny473.out] at ho; have n0_ := zb.mk (hb); have n1_ := zb.mk (ho); clear HB; clear HO471; have HB := n0_; have HO475 := n1_; clear n0_ n1_; clear ho hb hg hat) | ((with_reducible refine zZa (b := .append) (xs := #[.tmp 15, .tmp 18]) rfl ?_); at_builtin; refine Kd.R_append (Kd.int .u8) (w0 := w) w.heap.size rfl (.tmp 15) (.tmp 18) 22 5 (.int .u8 0) 1 rfl Tryz.underlying22 info5 rfl (by decide) (by omega) v474 y473 ((a1) % 256) [.int .u8 ((a1) % 256)] (fun _ => True) (fun _ => False) rfl rfl ?aP (fun _ hk => hk.elim) ?aF ?aO ?aB ?aS ?aL ?_; (case aP => exact rfl); (case aB => exact (by repeat (first | (with_reducible first | exact HB.out | apply zg | apply ze | apply zf) | exact HB.out))); (case aF => exact (fun _ _ => trivial)); (case aO => exact (by (with_reducible repeat (first | apply Kd.zo | apply Kd.zq | apply Kd.zA)); exact HO475.out)); (case aS => exact (zt (by repeat (first | (with_reducible first | exact HB.out | apply zg | apply ze | apply zf) | exact HB.out)))); (case aL => have := LMc16.out; omega); intro v477 w21 ho hb hg hat; rw [← Ny476.out] at ho; have n0_ := zb.mk (hb); have n1_ := zb.mk (ho); clear HB; clear HO475; have HB := n0_; have HO478 := n1_; clear n0_ n1_; clear ho hb hg hat))
      go_ret
      exact ⟨_, by first | rfl | (simp [zC, zB] <;> rfl) | (simp [*, zC, zB] <;> rfl), by (with_reducible repeat (first | apply Kd.zo | apply Kd.zq | apply Kd.zA)); exact HO478.out, by repeat (first | (with_reducible first | exact HB.out | apply zg | apply ze | apply zf) | exact HB.out)⟩
     ·rw [if_neg c16] at H
      exact absurd H (by simp)
    ·rw [if_neg c15] at H
     exact absurd H (by simp)
   ·rw [if_neg c14] at H
    exact absurd H (by simp)
  ·rw [if_neg c13] at H
   exact absurd H (by simp)
end Go.Proofs.YtfabennfhmlihaaGreatDoor.P
end
section
namespace Go.Proofs.YtfabennfhmlihaaGreatDoor.P
open Go Go.RowKit Go.Proofs.YtfabennfhmlihaaGreatDoorW.zJ Go.Proofs.YtfabennfhmlihaaGreatDoorW.zU Go.Proofs.YtfabennfhmlihaaGreatDoorW.PrintMore
set_option linter.unusedVariables false
set_option maxRecDepth 100000 in
set_option maxHeartbeats 2000000 in
theorem laws_vCut.empty (A0 : Option Addr) (c0 : Nat) (w : World) :
    Calls Tryz.prog 18 #[.slice A0 0 c0, .int .i64 1] w fun e w' => ∃ v0_ : Value, e = .returned (v0_) ∧ Kd.R (Kd.int .u8) 5 w' w.heap.size (fun _ => True) v0_ [0] ∧ Below w.heap.size w w' := by
  have hC : ∀ W (A : Option Addr), Kd.C (Kd.int .u8) W A 0 [] := fun W A => ⟨rfl, by omega, fun h => absurd h (by omega)⟩
  rcases A0 with _ | ad
  all_goals
    go_enter Tryz.func18, Tryz.ntmps18
    go_wp2_with (first | ((with_reducible refine zoa (N := 11) rfl ?_); refine Kd.R_lit (Kd.int .u8) _ 5 ?hg (N := 11) ?hd (xs := ([] : List Int)) (inner := []) (ok := fun _ => True) (okp := fun _ => True) ?hr ?hp (fun _ hk => hk) trivial (Below.refl _ _) (Nat.le_refl _) (by simp) ?_; (case hd => rfl); (case hg => rfl); (case hr => first | (go_simp; done) | (go_simp; rfl)); (case hp => exact (Reps.none _ _)); intro v1 w1 ho hb hg_ hnew_; clear hg_ hnew_; obtain ⟨Ao, co, eo⟩ := Kd.zpa ho; subst eo; have hO := zb.mk ho; have hB := zb.mk hb; clear ho hb) | ((with_reducible refine zZa (b := .append) (xs := #[.tmp 11, .tmp 14]) rfl ?_); at_builtin; refine Kd.R_append_rows (Kd.int .u8) (w0 := w) w.heap.size rfl (.tmp 11) (.tmp 14) 22 5 (.int .u8 0) 1 rfl Tryz.underlying22 info5 rfl (by decide) (by omega) _ [] [] _ _ _ (fun _ => True) (fun _ => False) rfl rfl ?aO ?aR (fun _ _ h => h) (fun _ h => h.elim) ?aF ?aB ?aS ?aL ?_; (case aR => exact hC _ _); (case aB => exact hB.out); (case aF => exact (fun _ _ => trivial)); (case aO => exact hO.out); (case aS => exact zt hB.out); (case aL => simp); intro v2 w2 ho hb hg hat; obtain ⟨Ao2, co2, eo2⟩ := Kd.zpa ho; subst eo2; have hO2 : zb (Kd.R (Kd.int .u8) 5 w2 w.heap.size (fun _ => True) (.slice Ao2 0 co2) []) := ⟨ho⟩; have hB2 := zb.mk hb; clear ho hb hg hat) | ((with_reducible refine zZa (b := .append) (xs := #[.tmp 15, .tmp 18]) rfl ?_); at_builtin; refine Kd.R_append (Kd.int .u8) (w0 := w) w.heap.size rfl (.tmp 15) (.tmp 18) 22 5 (.int .u8 0) 1 rfl Tryz.underlying22 info5 rfl (by decide) (by omega) (.slice Ao2 0 co2) ([] : List Int) 0 [.int .u8 0] (fun _ => True) (fun _ => False) rfl (by first | rfl | (go_simp; done)) ?aP (fun _ hk => hk.elim) ?aF ?aO ?aB ?aS ?aL ?_; (case aP => exact rfl); (case aB => exact hB2.out); (case aF => exact (fun _ _ => trivial)); (case aO => exact hO2.out); (case aS => exact zt hB2.out); (case aL => simp); intro v3 w3 ho hb hg hat; have hO3 := zb.mk ho; have hB3 := zb.mk hb; clear ho hb hg hat))
    go_ret
    exact ⟨_, rfl, hO3.out, hB3.out⟩
/-- What it makes of a code, n being 1. -/
def cutF (l0 : List Int) : List Int := if l0 = [] then [0] else l0.drop 1 ++ [1]
theorem laws_vCut.one (A0 : Option Addr) (c0 : Nat) (l0 : List Int) (w : World) (hr0 : Kd.C (Kd.int .u8) w A0 l0.length l0) (hc0 : l0.length ≤ c0) (hl : l0.length ≤ 140737488355000) :
    Calls Tryz.prog 18 #[.slice A0 l0.length c0, .int .i64 1] w fun e w' => ∃ v0_ : Value, e = .returned (v0_) ∧ Kd.R (Kd.int .u8) 5 w' w.heap.size (fun _ => True) v0_ (cutF l0) ∧ Below w.heap.size w w' := by
  by_cases h : l0 = []
  · subst h
    simpa [cutF] using laws_vCut.empty A0 c0 w
  · have hp : 0 < l0.length := List.length_pos_iff.2 h
    refine laws_vCut.calls A0 c0 l0 1 _ w hr0 hc0 (by omega) ?_
    unfold laws_vCut.f cutF
    have h1 : ¬ (1 : Int) > (l0.length : Int) := by omega
    have h2 : (1 : Int) ≤ (l0.length : Int) := by omega
    have h3 : ([] : List Int).length + (l0.drop (1 : Int).toNat).length < 140737488355328 := by simp; omega
    have h4 : ([] ++ l0.drop (1 : Int).toNat : List Int).length < 140737488355328 := by simp; omega
    simp only [if_neg h1, Option.bind_some, if_pos h2, if_pos h3, if_pos h4, if_neg h]
    simp
end Go.Proofs.YtfabennfhmlihaaGreatDoor.P
end
