/- A part of the proof of FnPrefixes. -/
import Derived.Test.YtfabennfhmlihaaGreatDoorCpreD
import Derived.Test.YtfabennfhmlihaaGreatDoorCpreE
import Derived.Test.YtfabennfhmlihaaGreatDoorCpreH
import Derived.ArgAppend
import Derived.Below
import Derived.BigQuiet
import Derived.Deep.AppendLies
import Derived.Deep.CutBlock
import Derived.Deep.DeepCutAuto
import Derived.Deep.Draws
import Derived.Deep.LoopGhost
import Derived.Deep.OwnRows
import Derived.Deep.QuietTactic
import Derived.Deep.RegionHeld3
import Derived.Deep.WholeRow
import Derived.Ground.NamesProg
import Derived.Ground.SlgfProg
import Derived.KernelRfl
import Derived.Laws.BitsLemmas
import Derived.Laws.BytesArg
import Derived.Laws.IdiomCopy
import Derived.Laws.MakeOwn
import Derived.Laws.OwnMore
import Derived.Laws.Rows
import Derived.Laws.Slices
import Derived.Laws.StructEq
import Derived.Lib.AppendStr
import Derived.Lib.ConvBytes
import Derived.Lib.SliceRun
import Derived.LoopIn
import Derived.LoopNIn
import Derived.Maps.AppendAt
import Derived.OrdersHeld
import Derived.Outline
import Derived.OwnWalk
import Derived.OwnWalkIn
import Derived.RangeFuncBox
import Derived.RangeFuncLeaves
import Derived.RowKit
import Derived.RowKit3
import Derived.Shelf.Abstract
import Derived.Shelf.SlGeneric
import Derived.Shelf.Slices.CompactS
import Derived.Shelf.Slices.In.SortNone
import Derived.Shelf.SlicesE.DeleteFunc
import Derived.Shelf.SlicesE.IndexFunc
import Derived.Shelf.Sort.Plain
import Derived.Shelf.Strings.SlTrimAscii
import Derived.Sort.EncStr
import Derived.Sort.OwnSorted
import Derived.Tactics
import Derived.TacticsInMore
import Derived.WalkKit
import Derived.WideLaws
section
namespace Go.Proofs.YtfabennfhmlihaaGreatDoor.P
open Go Go.RowKit Go.Shelf Go.Sort Go.Proofs.YtfabennfhmlihaaGreatDoorW.zJ Go.Proofs.YtfabennfhmlihaaGreatDoorW.zU Go.Proofs.YtfabennfhmlihaaGreatDoorW.PrintMore
set_option linter.unusedVariables false
attribute [local go_sem] Oper.semAt_some
theorem add_block (a : Addr) (k : Nat) : (a.add k).block = a.block := by unfold Addr.add; split <;> rfl
/-- What has come when k rounds are over. -/
def upto {α : Type} (f : Nat → α) (k : Nat) : List α := (List.range k).map f
theorem upto_succ {α : Type} (f : Nat → α) (k : Nat) : upto f (k + 1) = upto f k ++ [f k] := by simp [upto, List.range_succ]
theorem upto_length {α : Type} (f : Nat → α) (k : Nat) : (upto f k).length = k := by simp [upto]
theorem upto_all {α : Type} (zs : List α) (d : α) : upto (fun j => zs.getD j d) zs.length = zs := by
  apply List.ext_getElem
  · simp [upto]
  · intro i h1 h2
    simp [upto, List.getD_eq_getElem?_getD, h2]
set_option maxRecDepth 100000 in
set_option maxHeartbeats 2000000 in
theorem values1_in (n : Nat) (hn : 1 ≤ n) (l Bs n₀ : Nat) (ad : Addr) (len cap : Nat) (zs : List (List UInt8)) (hreach : len ≤ 8796093022208) (hb : ad.block < n₀) (J Jx : List (List UInt8) → World → Prop)
    (hY : ∀ pre x W, J pre W → pre.length < len → YieldAt Fence.wide (n - 1) Tryz.prog l #[encStr x] W fun e W' =>
      (e = .returned (.bool true) ∧ J (pre ++ [x]) W' ∧ Below n₀ W W') ∨ (e = .returned (.bool false) ∧ Jx (pre ++ [x]) W'))
    (W : World) (hBs : W.cell? ⟨Bs, 0, none⟩ = some (.slice (some ad) len cap)) (hc : ∀ j, j < len → W.cell? (ad.add j) = some (encStr (zs.getD j []))) (h0 : J [] W) :
    CallsIn Fence.wide n Tryz.prog 251 #[.func (.yield l) #[] #[], .pointer (some ⟨Bs, 0, none⟩)] W fun e W' => (∃ v, e = .returned v) ∧
      ((∃ ys, ys = upto (fun j => zs.getD j []) len ∧ J ys W') ∨ (∃ pre, Jx pre W')) := by
  refine callsIn_of_wp Tryz.func251 rfl trivial ?_ rfl
  simp only [Tryz.ntmps251, List.size_toArray, List.length_cons, List.length_nil, Nat.reduceAdd, Nat.reduceSub, Array.replicate_succ, Array.replicate_zero, List.push_toArray, List.append_toArray, List.nil_append, List.cons_append]
  gi_wp2
  gi_loopw [7] (fun i wr => ∃ k : Nat, k ≤ len ∧ i = .int .i64 k ∧ J (upto (fun j => zs.getD j []) k) wr ∧ Below n₀ W wr)
    (fun i _ => len - (intOf i).toNat)
  case atStart => exact ⟨0, Nat.zero_le _, rfl, h0, Below.refl _ _⟩
  case round =>
    obtain ⟨k, hk, rfl, hJs, hnx⟩ := hrel
    have hcx : k < len → wr.cell? (ad.add k) = some (encStr (zs.getD k [])) := fun h => (hnx.cell (p := ad.add k) (by rw [add_block]; exact hb)).trans (hc k h)
    by_cases hlt : k < len
    · have hcx' := hcx hlt
      clear hcx
      obtain ⟨fn, tmps, assign, body, hy, hR⟩ := hY _ (zs.getD k []) wr hJs (by rw [upto_length]; exact hlt)
      obtain ⟨z, hz⟩ : ∃ z : Value, z = encStr (zs.getD k []) := ⟨_, rfl⟩
      rw [← hz] at hcx' hy
      clear hz
      gi_wp2
      refine hR.mono ?_
      rintro e W3 (⟨rfl, hJ3, hk3⟩ | ⟨rfl, hJx3⟩)
      · gi_wp2
        go_roundw
        case rel => exact ⟨k + 1, by omega, by simp, by rw [upto_succ]; exact hJ3, hnx.trans hk3⟩
        case measure => simp [intOf]; omega
      · gi_wp2
        refine bodyPost_ret (results_none rfl _ _ _) rfl ?_
        exact ⟨⟨_, rfl⟩, .inr ⟨_, hJx3⟩⟩
    · obtain rfl : k = len := by omega
      gi_wp2
      go_end0
      exact ⟨⟨_, rfl⟩, .inl ⟨_, rfl, hJs⟩⟩
set_option maxRecDepth 100000 in
set_option maxHeartbeats 1000000 in
/-- At a slice of no text. -/
theorem values1_nil_in (n : Nat) (l Bs : Nat) (A : Option Addr) (cap : Nat) (J : List (List UInt8) → World → Prop) (W : World) (hBs : W.cell? ⟨Bs, 0, none⟩ = some (.slice A 0 cap)) (h0 : J [] W) :
    CallsIn Fence.wide n Tryz.prog 251 #[.func (.yield l) #[] #[], .pointer (some ⟨Bs, 0, none⟩)] W fun e W' => (∃ v, e = .returned v) ∧ J [] W' := by
  refine callsIn_of_wp Tryz.func251 rfl trivial ?_ rfl
  simp only [Tryz.ntmps251, List.size_toArray, List.length_cons, List.length_nil, Nat.reduceAdd, Nat.reduceSub, Array.replicate_succ, Array.replicate_zero, List.push_toArray, List.append_toArray, List.nil_append, List.cons_append]
  gi_wp2
  gi_loopw [7] (fun i wr => i = .int .i64 0 ∧ J [] wr) (fun _ _ => 0)
  case atStart => exact ⟨rfl, h0⟩
  case round =>
    obtain ⟨rfl, hJs⟩ := hrel
    gi_wp2
    go_end0
    exact ⟨⟨_, rfl⟩, hJs⟩
/-- The slice value sv holds the texts zs, in a block below n₀; or there are none. -/
def Txs (n₀ : Nat) (W : World) (sv : Value) (zs : List (List UInt8)) : Prop :=
  (∃ A cap, sv = .slice A 0 cap ∧ zs = []) ∨ ∃ ad cap, sv = .slice (some ad) zs.length cap ∧ ad.block < n₀ ∧ ∀ j, j < zs.length → W.cell? (ad.add j) = some (encStr (zs.getD j []))
theorem Txs.below {n₀ : Nat} {A B : World} (h : Below n₀ A B) {sv : Value} {zs : List (List UInt8)} : Txs n₀ A sv zs → Txs n₀ B sv zs
  | .inl e => .inl e
  | .inr ⟨ad, cap, e, hb, hc⟩ => .inr ⟨ad, cap, e, hb, fun j hj => (h.cell (p := ad.add j) (by rw [add_block]; exact hb)).trans (hc j hj)⟩
theorem values_stops (n : Nat) (hn : 1 ≤ n) (Bs n₀ : Nat) (sv : Value) (zs : List (List UInt8)) (hreach : zs.length ≤ 8796093022208) (w : World) (hBs : Bs < w.heap.size) (hn₀ : n₀ ≤ w.heap.size)
    (hc : w.cell? ⟨Bs, 0, none⟩ = some sv) (hI : Txs n₀ w sv zs) :
    SeqStopsK Fence.wide n Tryz.prog 251 #[.pointer (some ⟨Bs, 0, none⟩)] (fun x : List UInt8 => #[encStr x]) (Below n₀) (fun ys => ys = zs) (fun _ => True) zs.length w := fun l J Jx W hW _ _ hY h0 => by
  have hc' := (hW.cell (p := ⟨Bs, 0, none⟩) hBs).trans hc
  rcases hI.below (hW.mono hn₀) with ⟨A, cap, rfl, rfl⟩ | ⟨ad, cap, rfl, hb, hcs⟩
  · exact (values1_nil_in n l Bs A cap J W hc' h0).mono fun e W' ⟨he, hj⟩ => ⟨he, .inl ⟨_, rfl, hj⟩⟩
  · refine (values1_in n hn l Bs n₀ ad zs.length cap zs hreach hb J Jx hY W hc' hcs h0).mono ?_
    rintro e W' ⟨he, ⟨ys, rfl, hj⟩ | ⟨pre, hj⟩⟩
    · exact ⟨he, .inl ⟨_, upto_all zs [], hj⟩⟩
    · exact ⟨he, .inr ⟨_, trivial, hj⟩⟩
set_option maxHeartbeats 1000000 in
theorem values_in (n : Nat) (a : Option Addr) (len cap : Nat) (w : World) :
    CallsIn Fence.wide n Tryz.prog 228 #[.slice a len cap] w fun e w' => e = .returned (.func (.func 251) #[] #[.pointer (some ⟨w.heap.size, 0, none⟩)]) ∧ w' = w.alloc (.cells #[.slice a len cap] 31) := by
  refine callsIn_of_wp Tryz.func228 rfl trivial ?_ rfl
  simp only [Tryz.ntmps228, List.size_toArray, List.length_cons, List.length_nil, Nat.reduceAdd, Nat.reduceSub, Array.replicate_succ, Array.replicate_zero, List.push_toArray, List.append_toArray, List.nil_append, List.cons_append]
  gi_wp2
  go_ret
  exact ⟨rfl, rfl⟩
set_option maxRecDepth 100000 in
set_option maxHeartbeats 2000000 in
/-- slices.AppendSeq(nil, slices.Values(zs)): a slice of the call's own that holds zs. -/
theorem appendSeq_in (n : Nat) (hn : 3 ≤ n) (Bs : Nat) (sv : Value) (zs : List (List UInt8)) (hreach : zs.length ≤ 8796093022208) (w : World) (hBs : Bs < w.heap.size)
    (hc : w.cell? ⟨Bs, 0, none⟩ = some sv) (hI : Txs w.heap.size w sv zs) :
    CallsIn Fence.wide n Tryz.prog 262 #[.slice none 0 0, .func (.func 251) #[] #[.pointer (some ⟨Bs, 0, none⟩)]] w fun e W' => ∃ v, e = .returned v ∧ W'.ownsRow w.heap.size 9 1 v zs.length (zs.map encStr) ∧ (v = .slice none 0 0 ↔ zs = []) ∧ Below w.heap.size w W' := by
  have h1 : 1 ≤ n := by omega
  obtain ⟨i0, hi, hz0, hz1, hz2⟩ := info_parts info9
  refine callsIn_of_wp_marks Tryz.func262 rfl trivial ?_ rfl
  simp only [Tryz.ntmps262, List.size_toArray, List.length_cons, List.length_nil, Nat.reduceAdd, Nat.reduceSub, Array.replicate_succ, Array.replicate_zero, List.push_toArray, List.append_toArray, List.nil_append, List.cons_append]
  gi_wp2
  have bO := Boxed.new w 31 (.slice none 0 0)
  have hB0 : Below w.heap.size w (w.alloc (.cells #[.slice none 0 0] 31)) := (Below.refl _ w).alloc (Nat.le_refl _) _
  refine wpIn_rangeFunc_ownG rfl h1 (gf := 251) (lb := #[.pointer (some ⟨Bs, 0, none⟩)]) rfl trivial (enters_of Tryz.func251 (by kernel_rfl) rfl)
    (values_stops (n - 1) (by omega) Bs w.heap.size sv zs hreach (w.alloc (.cells #[.slice none 0 0] 31)) (by simp; omega) (by simp) ((hB0.cell (p := ⟨Bs, 0, none⟩) hBs).trans hc) (hI.below hB0)) belowK_t (belowK_b (by simp)) (Below.refl _ _) (fun _ => rfl)
    (fun pre W => (∃ v, Boxed W w.heap.size 31 v ∧ W.ownsRow w.heap.size 9 1 v pre.length (pre.map encStr) ∧ (v = .slice none 0 0 ↔ pre = [])) ∧ Below w.heap.size w W)
    (fun _ _ _ => False)
    (OwnFrom.and (Own.from (holdsRow_own w.heap.size w.heap.size 31 9 1 (fun pre : List (List UInt8) => pre.length) (fun pre => pre.map encStr) (fun pre v => v = .slice none 0 0 ↔ pre = [])) _) (ownFrom_below (Nat.le_refl _) (by simp)))
    (fun _ _ _ _ _ hs _ _ => hs)
    ⟨⟨_, bO, World.ownsRow_nil _ _ _ _, by simp⟩, hB0⟩
    (fun x => { tmps := #[.slice none 0 0, .func (.func 251) #[] #[.pointer (some ⟨Bs, 0, none⟩)], .pointer (some ⟨w.heap.size, 0, none⟩), undef, .slice none 0 0, encStr x, .func (.func 251) #[] #[.pointer (some ⟨Bs, 0, none⟩)], encStr x, undef, undef, undef, undef, undef], defers := [] }) ?assign ?body ?done ?stop
  case assign =>
    intro l x W K hK
    gi_wp2
    exact hK
  case body =>
    rintro l pre x W ⟨⟨v, hv, hrow, hnil⟩, hB⟩ hlt
    have hc := hv.cell
    have hml : zs.length ≤ maxLen := by simp only [maxLen]; omega
    gi_wp2_with (gi_at_builtin; refine wpListIn_append_own _ rfl _ _ 31 rfl w.heap.size 9 i0 (.string ⟨#[]⟩) 1 16 Tryz.underlying31 hi hz0 hz1 hz2 rfl (by decide) _ _ _ rfl (hrow.alloc _) ⟨W.heap.size, 0, none⟩ 1 1 [encStr x] rfl rfl (cell_one_new _ _ _) (by simp [Value.oneCell']) (by omega) (by omega) (by have := hB.size; simp; omega) ?_; intro v' w1 hown' hgrow _; obtain ⟨g', cap', rfl⟩ := ownsRow_succ hown'; obtain ⟨hv1, hv2, hr2, hk2, hb2⟩ := hv.appended (by decide) hrow hB.size (Nat.le_refl _) hown' hgrow; have hc1 := hv1.cell; have hf1 := hv1.frozen)
    exact ⟨hk2.from _, hb2, ⟨_, hv2, by simpa using hr2, by simp⟩, hB.trans hb2⟩
  case done =>
    rintro D ys W hD rfl ⟨⟨v, hv, hrow, hnil⟩, hB⟩ hK
    have hc := hv.cell
    gi_wp2
    refine ⟨by simp, .inl ⟨_, _, rfl, run_takeDeferred hK, ?_⟩⟩
    exact ⟨_, results_tmp rfl _ _ _, v, rfl, ownsRow_putObj hrow _ hK rfl, hnil, hB.trans (belowK_b (w := w) (Nat.le_refl _) W D _ _ (by simp at hD; omega) hK rfl rfl)⟩
  case stop =>
    rintro D c pre W _ _ h _
    exact h.elim
set_option maxHeartbeats 1000000 in
theorem collect_in (n : Nat) (hn : 4 ≤ n) (Bs : Nat) (sv : Value) (zs : List (List UInt8)) (hreach : zs.length ≤ 8796093022208) (w : World) (hBs : Bs < w.heap.size)
    (hc : w.cell? ⟨Bs, 0, none⟩ = some sv) (hI : Txs w.heap.size w sv zs) :
    CallsIn Fence.wide n Tryz.prog 249 #[.func (.func 251) #[] #[.pointer (some ⟨Bs, 0, none⟩)]] w fun e W' => ∃ v, e = .returned v ∧ W'.ownsRow w.heap.size 9 1 v zs.length (zs.map encStr) ∧ (v = .slice none 0 0 ↔ zs = []) ∧ Below w.heap.size w W' := by
  refine callsIn_of_wp Tryz.func249 rfl trivial ?_ rfl
  simp only [Tryz.ntmps249, List.size_toArray, List.length_cons, List.length_nil, Nat.reduceAdd, Nat.reduceSub, Array.replicate_succ, Array.replicate_zero, List.push_toArray, List.append_toArray, List.nil_append, List.cons_append]
  have h1 : 1 ≤ n := by omega
  have hf1 : Fence.wide.fn 262 := trivial
  gi_wp2_with (gi_at_call 262; refine (appendSeq_in (n - 1) (by omega) Bs sv zs hreach _ hBs hc hI).mono ?_; rintro e W ⟨v, rfl, hrow, hnil, hb⟩)
  go_ret
  exact ⟨v, rfl, hrow, hnil, hb⟩
/-- The texts in ascending order. -/
abbrev sortW (zs : List (List UInt8)) : List (List UInt8) := zs.mergeSort fun x y => decide (x ≤ y)
set_option maxHeartbeats 1000000 in
theorem sorted_in (n : Nat) (hn : 5 ≤ n) (Bs : Nat) (sv : Value) (zs : List (List UInt8)) (hreach : zs.length ≤ 8796093022208) (w : World) (hBs : Bs < w.heap.size)
    (hc : w.cell? ⟨Bs, 0, none⟩ = some sv) (hI : Txs w.heap.size w sv zs) :
    CallsIn Fence.wide n Tryz.prog 227 #[.func (.func 251) #[] #[.pointer (some ⟨Bs, 0, none⟩)]] w fun e W' => ∃ v, e = .returned v ∧ W'.ownsRow w.heap.size 9 1 v (sortW zs).length ((sortW zs).map encStr) ∧ (v = .slice none 0 0 ↔ zs = []) ∧ Below w.heap.size w W' := by
  refine callsIn_of_wp Tryz.func227 rfl trivial ?_ rfl
  simp only [Tryz.ntmps227, List.size_toArray, List.length_cons, List.length_nil, Nat.reduceAdd, Nat.reduceSub, Array.replicate_succ, Array.replicate_zero, List.push_toArray, List.append_toArray, List.nil_append, List.cons_append]
  have h1 : 1 ≤ n := by omega
  have hf1 : Fence.wide.fn 249 := trivial
  have hf2 : Fence.wide.fn 250 := trivial
  gi_wp2_with (gi_at_call 249; refine (collect_in (n - 1) (by omega) Bs sv zs hreach _ hBs hc hI).mono ?_; rintro e W ⟨v, rfl, hrow, hnil, hb⟩)
  rcases hrow.2 with ⟨rfl, hz⟩ | ⟨gb, cap, cur, rfl, hbase, hgb, r1, r2, r3, r4⟩
  · have hss : zs = [] := List.eq_nil_of_length_eq_zero hz
    subst hss
    have cS := Any.slices_Sort_string_none Tryz.sortS none 0 W
    change Calls Tryz.prog 250 _ _ _ at cS
    gi_wp2_with (gi_at_call 250; refine (callsIn_wide.2 cS).mono ?_; rintro e w' ⟨rfl, rfl⟩)
    go_ret
    exact ⟨.slice none 0 0, rfl, by simpa using hrow, by simp, hb⟩
  · have hH : Holds encStr W gb 0 zs.toArray := holds_of_block hgb (by simpa using r4)
    have hgl : gb < W.heap.size := (Array.getElem?_eq_some_iff.1 hgb).1
    have cS := Any.slices_Sort_string Tryz.sortS gb 0 cap zs W hH hgl (by omega)
    change Calls Tryz.prog 250 _ _ _ at cS
    gi_wp2_with (gi_at_call 250; refine (callsIn_wide.2 cS).mono ?_; rintro e w' ⟨rfl, nn, os, rfl⟩)
    go_ret
    refine ⟨_, rfl, ?_, hnil, hb.grown (grownBy_sorted _) hb.size (fun j hj => by cases hj; exact hbase)⟩
    have := ownsRow_sorted (n := nn) (os := os) (ts := sortW zs) (by simp) hbase hgb r1 r2 r3
    simpa using this
/-- Words in ascending order, each once. -/
def setW (zs : List (List UInt8)) : List (List UInt8) := Lib.compact (sortW zs)
theorem txs_of {w : World} {A0 : Option Addr} {c0 : Nat} {l0 : List ByteArray} (h : Kd.C Kd.string w A0 l0.length l0) : Txs w.heap.size w (.slice A0 l0.length c0) (l0.map ByteArray.toList) := by
  rcases Nat.eq_zero_or_pos l0.length with hl | hl
  · exact .inl ⟨A0, c0, by rw [hl], by simpa using hl⟩
  · obtain ⟨ad, rfl, hc0⟩ := Kd.zza h 0 (Int.le_refl _) (by omega)
    refine .inr ⟨ad, c0, by rw [List.length_map], ?_, fun j hj => ?_⟩
    · have := World.block_lt_of_cell? w _ hc0
      rwa [add_block] at this
    · rw [List.length_map] at hj
      obtain ⟨ad', he, hc⟩ := Kd.zza h (j : Int) (by omega) (by omega)
      obtain rfl : ad = ad' := by simpa using he
      rw [Int.toNat_natCast] at hc
      rw [hc]
      have e : l0 = (l0.map ByteArray.toList).map tx := map_tx_surj l0
      conv => lhs; rw [e]
      rw [rdOf_tx]
      simp
theorem grow_none (w : World) : grow w #[] = w := by simp [grow]
/-- Behind the compacting the slice, cut, owns what is left. -/
theorem ownsRow_put {w : World} {base g cap q m : Nat} {e : TypeId} {cur : Array Value} (ts : List (List UInt8)) (hm : m ≤ ts.length) (hbase : base ≤ g) (hb : w.heap[g]? = some (.cells cur e (0, 0)))
    (h1 : ts.length ≤ cap) (h2 : cap ≤ maxLen) (h3 : cur.size = cap * 1) :
    (putRow encStr (Sort.ahead w q) g 0 ts.toArray).ownsRow base e 1 (.slice (some ⟨g, 0, none⟩) m cap) m ((ts.take m).map encStr) := by
  have hh := heap_sorted (n := q) (os := #[]) ts.toArray hb
  rw [grow_none] at hh
  refine ⟨by rw [List.length_map, List.length_take]; omega, .inr ⟨g, cap, _, rfl, hbase, hh, by omega, h2, by simp [putCells, h3], ?_⟩⟩
  have := take_putCells cur ts (by omega)
  rw [Nat.mul_one, List.map_take, ← this, List.take_take]
  congr 1; omega
theorem compact_length (zs : List (List UInt8)) : (Lib.compact zs).length ≤ zs.length := by
  unfold Lib.compact Lib.compactUpTo
  rw [List.length_map]
  exact Nat.le_trans (List.length_filter_le _ _) (by simp)
theorem encs_tx (l : List (List UInt8)) : l.map encStr = encs Value.string (l.map tx) := by simp [encs]
set_option maxRecDepth 100000 in
set_option maxHeartbeats 1000000 in
theorem set_calls (A0 : Option Addr) (c0 : Nat) (l0 : List ByteArray) (w : World) (hr0 : Kd.C Kd.string w A0 l0.length l0) (hl : l0.length ≤ 8796093022208) :
    Calls Tryz.prog 218 #[.slice A0 l0.length c0] w fun e w' => ∃ v0_ : Value, e = .returned (v0_) ∧ Kd.R Kd.string 9 w' w.heap.size (fun _ => True) v0_ ((setW (l0.map ByteArray.toList)).map tx) ∧ Below w.heap.size w w' := by
  refine (callsIn_wide (n := 9)).1 ?_
  have hf1 : Fence.wide.fn 228 := trivial
  have hf2 : Fence.wide.fn 227 := trivial
  have hf3 : Fence.wide.fn 226 := trivial
  have hT := txs_of (c0 := c0) hr0
  obtain ⟨zs, hzs⟩ : ∃ zs, zs = l0.map ByteArray.toList := ⟨_, rfl⟩
  rw [← hzs] at hT ⊢
  have hzl : zs.length ≤ 8796093022208 := by rw [hzs, List.length_map]; exact hl
  clear hzs
  have hB0 : Below w.heap.size w (w.alloc (.cells #[.slice A0 l0.length c0] 31)) := (Below.refl _ w).alloc (Nat.le_refl _) _
  have hT2 : Txs (w.alloc (.cells #[.slice A0 l0.length c0] 31)).heap.size (w.alloc (.cells #[.slice A0 l0.length c0] 31)) (.slice A0 l0.length c0) zs := by
    rcases hT.below hB0 with h | ⟨ad, cap, e, hb, hc⟩
    · exact .inl h
    · exact .inr ⟨ad, cap, e, by simp; omega, hc⟩
  refine callsIn_of_wp Tryz.func218 rfl trivial ?_ rfl
  simp only [Tryz.ntmps218, List.size_toArray, List.length_cons, List.length_nil, Nat.reduceAdd, Nat.reduceSub, Array.replicate_succ, Array.replicate_zero, List.push_toArray, List.append_toArray, List.nil_append, List.cons_append]
  gi_wp2_with (first | (gi_at_call 228; refine (values_in _ _ _ _ _).mono ?_; rintro e w' ⟨rfl, rfl⟩) | (gi_at_call 227; refine (sorted_in _ (by omega) w.heap.size _ zs hzl _ (by simp) (by simp) hT2).mono ?_; rintro e W ⟨v, rfl, hrow, hnil, hb⟩))
  rcases hrow.2 with ⟨rfl, hz⟩ | ⟨gb, cap, cur, rfl, hbase, hgb, r1, r2, r3, r4⟩
  · obtain rfl : zs = [] := hnil.1 rfl
    have cS := Any.slices_Compact_string_empty Tryz.compactS none 0 W
    change Calls Tryz.prog 226 _ _ _ at cS
    refine (callsIn_wide.2 cS).mono ?_
    rintro e w' ⟨rfl, rfl⟩
    gi_wp2
    go_ret
    exact ⟨.slice none 0 0, rfl, by simpa [setW, sortW, Lib.compact, Lib.compactUpTo] using Kd.R_nil Kd.string 9 _ _ _, hB0.trans (hb.mono (by simp))⟩
  · have hH : Holds encStr W gb 0 (sortW zs).toArray := holds_of_block hgb (by simpa using r4)
    have hcl := compact_length (sortW zs)
    have cS := Any.slices_Compact_string Tryz.compactS gb 0 cap (sortW zs) W hH (by simp; omega) r1
    change Calls Tryz.prog 226 _ _ _ at cS
    refine (callsIn_wide.2 cS).mono ?_
    rintro e w' ⟨rfl, q, rfl⟩
    gi_wp2
    go_ret
    have hlen : (Lib.compact (sortW zs) ++ List.replicate ((sortW zs).length - (Lib.compact (sortW zs)).length) []).length = (sortW zs).length := by
      rw [List.length_append, List.length_replicate]; omega
    have ho := ownsRow_put (base := w.heap.size) (q := q) (m := (Lib.compact (sortW zs)).length) (Lib.compact (sortW zs) ++ List.replicate ((sortW zs).length - (Lib.compact (sortW zs)).length) []) (by rw [hlen]; exact hcl) (by simp at hbase; omega) hgb (by rw [hlen]; exact r1) r2 r3
    have hsl : (sortW zs).length = zs.length := by simp
    rw [List.take_left', encs_tx] at ho
    · refine ⟨_, rfl, Kd.R_of_own (h1 := fun _ => rfl) ?_ (fun _ _ => trivial), ?_⟩
      · unfold setW; rw [List.length_map]; rw [hsl] at ho; exact ho
      · have hgr := grownBy_sorted (w := W) (g := gb) (n := q) (os := #[]) (Lib.compact (sortW zs) ++ List.replicate ((sortW zs).length - (Lib.compact (sortW zs)).length) []).toArray
        rw [grow_none, hsl] at hgr
        exact hB0.trans ((hb.mono (by simp)).grown hgr (by have := hb.size; simp at this; omega) (fun j hj => by cases hj; simp at hbase; omega))
    · rfl
end Go.Proofs.YtfabennfhmlihaaGreatDoor.P
end
section
namespace Go.Proofs.YtfabennfhmlihaaGreatDoor.P
open Go
set_option linter.unusedVariables false
theorem bytesLess_iff : ∀ a b : List UInt8, Op.bytesLess a b = true ↔ a < b
  | [], [] => by simp [Op.bytesLess]
  | [], _ :: _ => by simp [Op.bytesLess]
  | _ :: _, [] => by simp [Op.bytesLess]
  | x :: a, y :: b => by
    have ih := bytesLess_iff a b
    rw [List.cons_lt_cons_iff]
    simp only [Op.bytesLess]
    by_cases h1 : x < y
    · simp [h1]
    · by_cases h2 : x = y
      · subst h2; simp [ih]
      · simp [h1, h2]
theorem lt_tri (a b : List UInt8) : a < b ∨ a = b ∨ b < a := by
  rcases Decidable.em (a < b) with h | h
  · exact .inl h
  · rcases List.le_iff_lt_or_eq.1 (List.not_lt.1 h) with h | h
    · exact .inr (.inr h)
    · exact .inr (.inl h.symm)
/-- Strictly ascending. -/
abbrev Asc (l : List (List UInt8)) : Prop := l.Pairwise (· < ·)
theorem asc_unique : ∀ {l m : List (List UInt8)}, Asc l → Asc m → (∀ x, x ∈ l ↔ x ∈ m) → l = m
  | [], [], _, _, _ => rfl
  | [], b :: m, _, _, h => by have := (h b).2 List.mem_cons_self; simp at this
  | a :: l, [], _, _, h => by have := (h a).1 List.mem_cons_self; simp at this
  | a :: l, b :: m, hl, hm, h => by
    have hl1 := List.pairwise_cons.1 hl
    have hm1 := List.pairwise_cons.1 hm
    have hab : a = b := by
      rcases List.mem_cons.1 ((h a).1 List.mem_cons_self) with e | e
      · exact e
      · rcases List.mem_cons.1 ((h b).2 List.mem_cons_self) with e' | e'
        · exact e'.symm
        · exact absurd (List.lt_trans (hm1.1 a e) (hl1.1 b e')) (List.lt_irrefl _)
    subst hab
    congr 1
    refine asc_unique hl1.2 hm1.2 (fun x => ⟨fun hx => ?_, fun hx => ?_⟩)
    · rcases List.mem_cons.1 ((h x).1 (List.mem_cons_of_mem _ hx)) with e | e
      · exact absurd (e ▸ hl1.1 x hx) (List.lt_irrefl _)
      · exact e
    · rcases List.mem_cons.1 ((h x).2 (List.mem_cons_of_mem _ hx)) with e | e
      · exact absurd (e ▸ hm1.1 x hx) (List.lt_irrefl _)
      · exact e
theorem mem_putW (l : List (List UInt8)) (w x : List UInt8) : x ∈ putW l w ↔ x = w ∨ x ∈ l := by
  induction l with
  | nil => simp [putW]
  | cons y l ih =>
    simp only [putW]
    split
    · simp only [List.mem_cons, ih]
      constructor
      · rintro (h | h | h) <;> simp [h]
      · rintro (h | h | h) <;> simp [h]
    · split
      · rename_i e; subst e; simp
      · simp
theorem asc_putW {l : List (List UInt8)} (w : List UInt8) (h : Asc l) : Asc (putW l w) := by
  induction l with
  | nil => simp [putW]
  | cons y l ih =>
    have h1 := List.pairwise_cons.1 h
    simp only [putW]
    split
    · rename_i hb
      have hb := (bytesLess_iff y w).1 hb
      refine List.pairwise_cons.2 ⟨fun x hx => ?_, ih h1.2⟩
      rcases (mem_putW l w x).1 hx with rfl | hx
      · exact hb
      · exact h1.1 x hx
    · split
      · exact h
      · rename_i hb he
        have hwy : w < y := by
          rcases lt_tri y w with h | h | h
          · exact absurd ((bytesLess_iff y w).2 h) hb
          · exact absurd h he
          · exact h
        refine List.pairwise_cons.2 ⟨fun x hx => ?_, h⟩
        rcases List.mem_cons.1 hx with rfl | hx
        · exact hwy
        · exact List.lt_trans hwy (h1.1 x hx)
theorem sortW_sorted (zs : List (List UInt8)) : (sortW zs).Pairwise (· ≤ ·) := by
  have := List.pairwise_mergeSort (le := fun x y : List UInt8 => decide (x ≤ y)) (by
    intro a b c h1 h2
    simp only [decide_eq_true_eq] at *
    exact List.le_trans h1 h2) (by
    intro a b
    simp only [Bool.or_eq_true, decide_eq_true_eq]
    exact List.le_total a b) zs
  exact this.imp (fun h => by simpa using h)
theorem mem_sortW (zs : List (List UInt8)) (x : List UInt8) : x ∈ sortW zs ↔ x ∈ zs := (List.mergeSort_perm zs _).mem_iff
theorem get_bang (l : List (List UInt8)) (j : Nat) (h : j < l.length) : l.toArray[j]! = l[j] := by
  rw [getElem!_pos l.toArray j (by simpa using h)]; simp
theorem mem_compact (l : List (List UInt8)) (x : List UInt8) : x ∈ Lib.compact l ↔ x ∈ l := by
  unfold Lib.compact Lib.compactUpTo
  simp only [List.mem_map, List.mem_filter, List.mem_range]
  constructor
  · rintro ⟨j, ⟨hj, _⟩, rfl⟩
    rw [get_bang l j hj]; exact List.getElem_mem _
  · intro hx
    obtain ⟨j, hj, rfl⟩ := List.getElem_of_mem hx
    clear hx
    induction j with
    | zero => exact ⟨0, ⟨hj, by simp [Lib.keeps]⟩, get_bang l 0 hj⟩
    | succ j ih =>
      by_cases e : l[j + 1] = l[j]
      · obtain ⟨i, hi, he⟩ := ih (by omega)
        exact ⟨i, hi, by rw [he, e]⟩
      · refine ⟨j + 1, ⟨hj, ?_⟩, get_bang l _ hj⟩
        simp only [Lib.keeps, decide_eq_true_eq]
        refine .inr ?_
        rw [get_bang l _ hj, Nat.add_sub_cancel, get_bang l j (by omega)]; exact e
theorem asc_compact {l : List (List UInt8)} (h : l.Pairwise (· ≤ ·)) : Asc (Lib.compact l) := by
  unfold Lib.compact Lib.compactUpTo Asc
  rw [List.pairwise_map]
  have hr : ((List.range l.length).filter (Lib.keeps l.toArray)).Pairwise (fun i j => i < j ∧ j < l.length ∧ Lib.keeps l.toArray j = true) := by
    rw [List.pairwise_filter]
    refine (List.pairwise_lt_range.imp_of_mem ?_)
    intro i j hi hj hij _ hk
    exact ⟨hij, List.mem_range.1 hj, hk⟩
  refine hr.imp ?_
  rintro i j ⟨hij, hj, hk⟩
  rw [get_bang l i (by omega), get_bang l j hj]
  simp only [Lib.keeps, decide_eq_true_eq] at hk
  rcases hk with hk | hk
  · omega
  · rw [get_bang l j hj, get_bang l (j - 1) (by omega)] at hk
    have h1 : l[i] ≤ l[j - 1] := by
      rcases Nat.lt_or_ge i (j - 1) with hlt | hge
      · exact List.pairwise_iff_getElem.1 h i (j - 1) (by omega) (by omega) hlt
      · have : i = j - 1 := by omega
        subst this; exact List.le_refl _
    have h2 : l[j - 1] ≤ l[j] := List.pairwise_iff_getElem.1 h (j - 1) j (by omega) hj (by omega)
    rcases List.le_iff_lt_or_eq.1 h2 with h3 | h3
    · exact List.lt_of_le_of_lt h1 h3
    · exact absurd h3.symm hk
theorem asc_setW (zs : List (List UInt8)) : Asc (setW zs) := asc_compact (sortW_sorted zs)
theorem mem_setW (zs : List (List UInt8)) (x : List UInt8) : x ∈ setW zs ↔ x ∈ zs := by
  unfold setW; rw [mem_compact, mem_sortW]
theorem asc_nodup {l : List (List UInt8)} (h : Asc l) : l.Nodup := h.imp (fun hlt e => absurd (e ▸ hlt) (List.lt_irrefl _))
theorem asc_filter {l : List (List UInt8)} (h : Asc l) (p : List UInt8 → Bool) : Asc (l.filter p) := h.filter p
end Go.Proofs.YtfabennfhmlihaaGreatDoor.P
end
section
namespace Go.Proofs.YtfabennfhmlihaaGreatDoor.P
open Go Go.RowKit Go.Proofs.YtfabennfhmlihaaGreatDoorW.zJ Go.Proofs.YtfabennfhmlihaaGreatDoorW.zU Go.Proofs.YtfabennfhmlihaaGreatDoorW.PrintMore
set_option linter.unusedVariables false
theorem less_f (a b : List UInt8) : cmp_Less_string.f (tx a) (tx b) = some (Op.bytesLess a b) := by
  unfold cmp_Less_string.f cmp_isNaN_string.f
  simp
theorem isNaN_f (a : ByteArray) : slices_isNaN_string.f a = some false := by
  unfold slices_isNaN_string.f; simp
theorem half_f (a b : Nat) (h : a + b ≤ 9223372036854775807) : wrap64 ((IntKind.u64.wrap (wrap64 ((a : Int) + (b : Int)))) / 2) = (((a + b) / 2 : Nat) : Int) := by
  have h1 : wrap64 ((a : Int) + (b : Int)) = (a : Int) + (b : Int) := zSa (by omega) (by omega)
  have : IntKind.u64.wrap ((a : Int) + (b : Int)) = (a : Int) + (b : Int) := by
    simp only [IntKind.wrap, IntKind.bits, IntKind.signed]
    simp
    omega
  rw [h1, this]
  have h2 : ((a : Int) + (b : Int)) / 2 = (((a + b) / 2 : Nat) : Int) := by omega
  rw [h2, zSa (by omega) (by omega)]
theorem search_l0 (xs : List (List UInt8)) (w : List UInt8) (hs : xs.Pairwise (· ≤ ·)) (hl : xs.length ≤ 4611686018427387903) (m : Nat) : ∀ a b : Nat, b - a = m → a ≤ b → b ≤ xs.length →
    (∀ i (hi : i < xs.length), i < a → xs[i] < w) → (∀ i (hi : i < xs.length), b ≤ i → ¬ xs[i] < w) →
    ∃ r : Int, Ev (fun k => zI.l0 k (xs.map tx) (tx w) (xs.length : Int) (a : Int) (b : Int)) (r, decide (w ∈ xs)) := by
  induction m using Nat.strongRecOn with
  | ind m ih =>
    intro a b hm hab hb ha hb2
    rcases Nat.eq_or_lt_of_le hab with e | hlt
    · subst e
      refine ⟨a, Ev.succ ?_⟩
      simp only [zI.l0, List.length_map, rdOf_tx, zbb, Int.toNat_natCast]
      refine Ev.neg (by omega) ?_
      by_cases hal : a < xs.length
      · refine Ev.pos (by omega) (Ev.pos (by omega) (Ev.pos (by omega) ?_))
        have hg : xs.getD a [] = xs[a] := by rw [List.getD_eq_getElem?_getD, List.getElem?_eq_getElem hal]; rfl
        rw [hg]
        by_cases e : xs[a] = w
        · refine Ev.pos e (Ev.const ?_)
          rw [decide_eq_true (e ▸ List.getElem_mem _)]
        · refine Ev.neg e ?_
          simp only [isNaN_f, Option.bind_some]
          refine Ev.neg (by simp) (Ev.const ?_)
          rw [decide_eq_false]
          intro hc
          obtain ⟨i, hi, he⟩ := List.getElem_of_mem hc
          rcases Nat.lt_trichotomy i a with h | h | h
          · exact absurd (he ▸ ha i hi h) (List.lt_irrefl _)
          · subst h; exact e he
          · have h1 : xs[a] ≤ xs[i] := List.pairwise_iff_getElem.1 hs a i hal hi h
            have h2 : ¬ xs[a] < w := hb2 a hal (Nat.le_refl _)
            rw [he] at h1
            rcases List.le_iff_lt_or_eq.1 h1 with h3 | h3
            · exact h2 h3
            · exact e h3
      · refine Ev.neg (by omega) (Ev.const ?_)
        rw [decide_eq_false]
        intro hc
        obtain ⟨i, hi, he⟩ := List.getElem_of_mem hc
        exact absurd (he ▸ ha i hi (by omega)) (List.lt_irrefl _)
    · have hmid : (a + b) / 2 < xs.length := by omega
      have hg : xs.getD ((a + b) / 2) [] = xs[(a + b) / 2] := by rw [List.getD_eq_getElem?_getD, List.getElem?_eq_getElem hmid]; rfl
      by_cases hc : xs[(a + b) / 2] < w
      · obtain ⟨r, hr⟩ := ih (b - ((a + b) / 2 + 1)) (by omega) ((a + b) / 2 + 1) b rfl (by omega) hb (by
          intro i hi hlt2
          rcases Nat.lt_or_ge i ((a + b) / 2) with h | h
          · exact List.lt_of_le_of_lt (List.pairwise_iff_getElem.1 hs i _ hi hmid h) hc
          · have : i = (a + b) / 2 := by omega
            subst this; exact hc) hb2
        refine ⟨r, Ev.succ ?_⟩
        simp only [zI.l0, List.length_map, rdOf_tx]
        rw [half_f a b (by omega)]
        simp only [Int.toNat_natCast, hg, less_f, Option.bind_some]
        refine Ev.pos (by omega) (Ev.pos (by omega) (Ev.pos (by omega) (Ev.pos ((bytesLess_iff _ _).2 hc) ?_)))
        rw [zSa (by omega) (by omega)]
        simpa using hr
      · obtain ⟨r, hr⟩ := ih ((a + b) / 2 - a) (by omega) a ((a + b) / 2) rfl (by omega) (by omega) ha (by
          intro i hi hge
          rcases Nat.eq_or_lt_of_le hge with h | h
          · subst h; exact hc
          · intro hlt2
            exact hc (List.lt_of_le_of_lt (List.pairwise_iff_getElem.1 hs _ i hmid hi h) hlt2))
        refine ⟨r, Ev.succ ?_⟩
        simp only [zI.l0, List.length_map, rdOf_tx]
        rw [half_f a b (by omega)]
        simp only [Int.toNat_natCast, hg, less_f, Option.bind_some]
        exact Ev.pos (by omega) (Ev.pos (by omega) (Ev.pos (by omega) (Ev.neg (fun h => hc ((bytesLess_iff _ _).1 h)) hr)))
theorem search_ev (xs : List (List UInt8)) (w : List UInt8) (hs : xs.Pairwise (· ≤ ·)) (hl : xs.length ≤ 4611686018427387903) :
    ∃ r : Int, Ev (fun k => zI.f k (xs.map tx) (tx w)) (r, decide (w ∈ xs)) := by
  unfold zI.f
  obtain ⟨r, hr⟩ := search_l0 xs w hs hl _ 0 xs.length rfl (Nat.zero_le _) (Nat.le_refl _) (fun i hi h => by omega) (fun i hi h => by omega)
  exact ⟨r, by simpa using hr⟩
end Go.Proofs.YtfabennfhmlihaaGreatDoor.P
end
section
namespace Go.Proofs.YtfabennfhmlihaaGreatDoor.P
open Go Go.RowKit Go.Shelf Go.Sort Go.Lib Go.Proofs.YtfabennfhmlihaaGreatDoorW.zJ Go.Proofs.YtfabennfhmlihaaGreatDoorW.zU Go.Proofs.YtfabennfhmlihaaGreatDoorW.PrintMore
set_option linter.unusedVariables false
theorem hasPrefix_f (a b : List UInt8) : strings_HasPrefix.f (tx a) (tx b) = some (b.isPrefixOf a) := by
  unfold strings_HasPrefix.f stringslite_HasPrefix.f
  simp only [zMa]
  by_cases h : a.length ≥ b.length
  · rw [if_pos (by omega), if_pos (by omega), if_pos (by omega), Option.bind_some]
    rw [tx_extract, zbb, zbb]
    congr 1
    rw [Bool.eq_iff_iff, List.isPrefixOf_iff_prefix, List.prefix_iff_eq_take, beq_iff_eq]
    simp only [Int.toNat_natCast, List.drop_zero]
    exact eq_comm
  · rw [if_neg (by omega), Option.bind_some]
    congr 1
    symm
    rw [Bool.eq_false_iff]
    intro hc
    rw [List.isPrefixOf_iff_prefix] at hc
    have := hc.length_le
    omega
set_option maxHeartbeats 1000000 in
/-- The closure, in whatever world holds the prefix in the cell ⟨B, 0⟩. -/
theorem under_gives (p x : List UInt8) (B : Nat) (W : World) (hc : W.cell? ⟨B, 0, none⟩ = some (.string (tx p))) :
    FnGives Tryz.prog 196 #[.pointer (some ⟨B, 0, none⟩)] #[encStr x] (.bool (!p.isPrefixOf x)) W := by
  show Calls Tryz.prog 196 #[encStr x, .pointer (some ⟨B, 0, none⟩)] W _
  have hp := hasPrefix_f x p
  obtain ⟨E, hE⟩ : ∃ E, E = tx p := ⟨_, rfl⟩
  obtain ⟨X, hX⟩ : ∃ X, X = tx x := ⟨_, rfl⟩
  obtain ⟨b, hb⟩ : ∃ b, b = p.isPrefixOf x := ⟨_, rfl⟩
  show Calls Tryz.prog 196 #[.string (tx x), .pointer (some ⟨B, 0, none⟩)] W _
  rw [← hE, ← hX, ← hb] at hp
  rw [← hE] at hc
  rw [← hX, ← hb]
  have hP := zb.mk hp
  clear hE hX hb hp
  go_enter Tryz.func196, Tryz.ntmps196
  go_wp2_with (go_at_call 197; refine (strings_HasPrefix.calls X E b _ hP.out).mono ?_; rintro e w' ⟨rfl, ⟨nd, rfl⟩⟩)
  go_ret
  exact ⟨by simp, nd, rfl⟩
theorem under_pred (p : List UInt8) (B : Nat) (w : World) (hB : B < w.heap.size) (hc : w.cell? ⟨B, 0, none⟩ = some (.string (tx p))) :
    PredAt Tryz.prog 196 #[.pointer (some ⟨B, 0, none⟩)] encStr (fun x => !p.isPrefixOf x) w :=
  fun W x hb => under_gives p x B W ((hb.cell (p := ⟨B, 0, none⟩) hB).trans hc)
theorem under_over (p : List UInt8) (B blk off size : Nat) (w : World) (hB : B < w.heap.size) (hne : B ≠ blk) (hc : w.cell? ⟨B, 0, none⟩ = some (.string (tx p))) :
    PredOver Tryz.prog 196 #[.pointer (some ⟨B, 0, none⟩)] encStr (fun x => !p.isPrefixOf x) blk off size w :=
  fun n os dk x _ => under_gives p x B _ (by
    unfold sortWorld
    rw [cell?_grow _ _ _ (by show B < (putRow _ _ _ _ _).heap.size; rw [size_putRow]; exact hB), cell?_putRow_other _ _ blk off _ _ (Or.inl hne)]
    exact hc)
set_option maxHeartbeats 1000000 in
theorem delete_none (fv : Value) (c : Nat) (w : World) : Calls Tryz.prog 187 #[.slice none 0 c, fv] w fun e w' => e = .returned (.slice none 0 c) ∧ w' = w := by
  have hI := AnyE.slices_IndexFunc_empty Tryz.indexK none c fv w
  change Calls Tryz.prog 211 _ _ _ at hI
  go_enter Tryz.func187, Tryz.ntmps187
  go_wp2_with (go_at_call 211; refine hI.mono ?_; rintro e w' ⟨rfl, rfl⟩)
  go_ret
  exact ⟨rfl, rfl⟩
/-- The words that begin with p. -/
def zJa (W : List (List UInt8)) (p : List UInt8) : List (List UInt8) := W.filter fun w => p.isPrefixOf w
def zDa.f (l0 : List zL) (a1 : ByteArray) : Option (List ByteArray) :=
  match prefsN l0 with
  | some P => some ((zJa (wordsN P l0) a1.toList).map tx)
  | none => none
theorem filter_notnot (l : List (List UInt8)) (p : List UInt8) : (l.filter fun x => !(fun x => !p.isPrefixOf x) x) = zJa l p := by
  unfold zJa; congr 1; funext x; simp
set_option maxRecDepth 100000 in
set_option maxHeartbeats 2000000 in
theorem zDa.calls (A0_0 : Option Addr) (c0_0 : Nat) (l0_0 : List zL) (a1 : ByteArray) (r : List ByteArray) (w : World) (hr0_0 : Kd.C zXa w A0_0 l0_0.length l0_0) (hc0_0 : l0_0.length ≤ c0_0) (h : zDa.f l0_0 a1 = some r) :
    Calls Tryz.prog 117 #[.agg #[.slice A0_0 l0_0.length c0_0], .string a1] w fun e w' => ∃ v0_ : Value, e = .returned (v0_) ∧ Kd.R Kd.string 9 w' w.heap.size (fun _ => True) v0_ r ∧ RowKit.Below w.heap.size w w' := by
  unfold zDa.f at h
  split at h
  case h_2 => cases h
  rename_i P hP
  obtain rfl := Option.some.inj h
  clear h
  obtain ⟨k, hk⟩ := (words_ev l0_0 P hP).get
  obtain ⟨zs, hzs⟩ : ∃ zs, zs = wordsN P l0_0 := ⟨_, rfl⟩
  rw [← hzs] at hk ⊢
  have hK := zb.mk hk
  have hR := zb.mk hr0_0
  have hC := zb.mk hc0_0
  obtain ⟨p, hp⟩ : ∃ p, p = a1.toList := ⟨_, rfl⟩
  have ha : a1 = tx p := by rw [hp]; exact tx_surj a1
  rw [← hp]
  have hap := zb.mk ha
  clear hzs hk hr0_0 hc0_0 hp hP ha
  have hB0 : RowKit.Below w.heap.size w ((w.alloc (.cells #[.slice A0_0 l0_0.length c0_0] 26)).alloc (.cells #[.string a1] 9)) := ((RowKit.Below.refl _ w).alloc (Nat.le_refl _) _).alloc (by simp) _
  have hcB : ((w.alloc (.cells #[.slice A0_0 l0_0.length c0_0] 26)).alloc (.cells #[.string a1] 9)).cell? ⟨w.heap.size + 1, 0, none⟩ = some (.string (tx p)) := by
    rw [hap.out]
    simp
  have hCB := zb.mk hcB
  have hBB := zb.mk hB0
  clear hcB hB0
  have eg : ∀ args w, (callFunc 196 args).run Tryz.prog w = .ok (.enter 196 args) w := enters_of Tryz.func196 (by kernel_rfl) rfl
  go_enter Tryz.func117, Tryz.ntmps117
  go_wp2_with (go_at_call 130; refine (zT.calls k _ _ l0_0 _ _ (Kd.zV hR.out hBB.out) hC.out hK.out).mono ?_; rintro e W ⟨v, rfl, ho, hb⟩; have hCW := zb.mk ((hb.cell (p := ⟨w.heap.size + 1, 0, none⟩) (by simp)).trans hCB.out); have hrow := zb.mk (Kd.own_of_R ho); have hb := zb.mk hb; clear ho)
  rcases hrow.out.2 with ⟨rfl, hz⟩ | ⟨gb, cap, cur, rfl, hbase, hgb, r1, r2, r3, r4⟩
  · have hz' : zs = [] := List.eq_nil_of_length_eq_zero (by simpa using hz)
    refine (delete_none _ 0 W).mono ?_
    rintro e w' ⟨rfl, rfl⟩
    go_wp2
    go_ret
    rw [hz']
    exact ⟨_, rfl, Kd.R_nil Kd.string 9 _ _ _, hBB.out.trans (hb.out.mono (by simp; omega))⟩
  · rw [List.length_map, ← encs_tx] at *
    have hH : Holds encStr W gb 0 zs.toArray := holds_of_block hgb (by simpa using r4)
    have hlt : w.heap.size + 1 < gb := by have h1 := hbase; simp at h1; omega
    have hzw : ∀ W1, (zeroValue 9).run Tryz.prog W1 = .ok (encStr []) W1 := (zero_of_info (P := Tryz.prog) (t := 9) (v := .string ⟨#[]⟩) (n := 1) (by kernel_rfl)).1
    have hsz : zs.toArray.size = zs.length := by simp
    have hl0 : zs.length ≤ maxLen := Nat.le_trans (by simpa using r1) r2
    have cD := AnyE.slices_DeleteFunc Tryz.deleteK encStr (fun _ => rfl) (fun x => !p.isPrefixOf x) 196 #[.pointer (some ⟨w.heap.size + 1, 0, none⟩)] eg [] hzw gb 0 cap zs.toArray W
      (under_pred p _ W (by have := hb.out.size; simp at this; omega) hCW.out) (under_over p _ gb 0 _ W (by have := hb.out.size; simp at this; omega) (by omega) hCW.out) hH (by rw [hsz]; simp only [maxLen] at hl0; omega) (by rw [hsz]; simpa using r1)
    change Calls Tryz.prog 187 _ _ _ at cD
    simp only [filter_notnot, hsz] at cD
    refine cD.mono ?_
    rintro e w' ⟨rfl, q, rfl⟩
    go_wp2
    go_ret
    have hul : (zJa zs p).length ≤ zs.length := List.length_filter_le _ _
    have hlen : (zJa zs p ++ List.replicate (zs.length - (zJa zs p).length) []).length = zs.length := by
      rw [List.length_append, List.length_replicate]; omega
    have ho := ownsRow_put (base := w.heap.size) (q := q) (m := (zJa zs p).length) (zJa zs p ++ List.replicate (zs.length - (zJa zs p).length) []) (by rw [hlen]; exact hul) (by omega) hgb (by rw [hlen]; simpa using r1) r2 r3
    rw [List.take_left' rfl, encs_tx] at ho
    refine ⟨_, rfl, Kd.R_of_own (h1 := fun _ => rfl) (by rw [List.length_map]; exact ho) (fun _ _ => trivial), ?_⟩
    have hgr := grownBy_sorted (w := W) (g := gb) (n := q) (os := #[]) (zJa zs p ++ List.replicate (zs.length - (zJa zs p).length) []).toArray
    rw [grow_none] at hgr
    exact (hBB.out.trans (hb.out.mono (by simp; omega))).grown hgr (by have := hb.out.size; simp at this; omega) (fun j hj => by cases hj; omega)
end Go.Proofs.YtfabennfhmlihaaGreatDoor.P
end
