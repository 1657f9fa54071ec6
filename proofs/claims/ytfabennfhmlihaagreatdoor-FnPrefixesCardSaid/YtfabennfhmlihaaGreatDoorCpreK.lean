/- A part of the proof of FnPrefixes. -/
import Derived.Test.YtfabennfhmlihaaGreatDoorCpreD
import Derived.Test.YtfabennfhmlihaaGreatDoorCpreE
import Derived.Test.YtfabennfhmlihaaGreatDoorCpreF
import Derived.Test.YtfabennfhmlihaaGreatDoorCpreG
import Derived.Test.YtfabennfhmlihaaGreatDoorCpreH
import Derived.Test.YtfabennfhmlihaaGreatDoorCpreI
import Derived.Test.YtfabennfhmlihaaGreatDoorCpreJ
import Derived.ArgAppend
import Derived.Below
import Derived.BigQuiet
import Derived.BigRegion
import Derived.Deep.AppendLies
import Derived.Deep.CutBlock
import Derived.Deep.DeepCutAuto
import Derived.Deep.Draws
import Derived.Deep.LoopGhost
import Derived.Deep.OwnRows
import Derived.Deep.QuietTactic
import Derived.Deep.RegionHeld3
import Derived.Deep.WholeRow
import Derived.Ground.NamesProg
import Derived.Ground.SlgfProg
import Derived.KernelRfl
import Derived.Laws.BitsLemmas
import Derived.Laws.BytesArg
import Derived.Laws.IdiomCopy
import Derived.Laws.MakeOwn
import Derived.Laws.OwnMore
import Derived.Laws.Rows
import Derived.Laws.Slices
import Derived.Laws.StructEq
import Derived.Lib.AppendStr
import Derived.Lib.ConvBytes
import Derived.Lib.SliceRun
import Derived.LoopIn
import Derived.LoopNIn
import Derived.Maps.AppendAt
import Derived.Maps.Own
import Derived.Maps.OwnOps
import Derived.OrdersHeld
import Derived.Outline
import Derived.OwnWalk
import Derived.OwnWalkIn
import Derived.RangeFuncBox
import Derived.RangeFuncLeaves
import Derived.RowKit
import Derived.RowKit3
import Derived.Shelf.Abstract
import Derived.Shelf.SlGeneric
import Derived.Shelf.Slices.CompactS
import Derived.Shelf.Slices.In.SortNone
import Derived.Shelf.SlicesE.DeleteFunc
import Derived.Shelf.SlicesE.IndexFunc
import Derived.Shelf.Sort.Plain
import Derived.Shelf.Strings.SlTrimAscii
import Derived.Sort.EncStr
import Derived.Sort.OwnSorted
import Derived.StringKeys
import Derived.Tactics
import Derived.TacticsInMore
import Derived.WalkKit
import Derived.WideLaws
section
namespace Go.Proofs.YtfabennfhmlihaaGreatDoor.P
open Go Go.RowKit Go.Proofs.YtfabennfhmlihaaGreatDoorW.zJ Go.Proofs.YtfabennfhmlihaaGreatDoorW.zU Go.Proofs.YtfabennfhmlihaaGreatDoorW.PrintMore
set_option linter.unusedVariables false
theorem mem_prefP (P : List (List UInt8)) (w x : List UInt8) (k : Nat) (hk : k ≤ w.length) : x ∈ prefP P w k ↔ x ∈ P ∨ ∃ j, 1 ≤ j ∧ j ≤ k ∧ x = w.take j := by
  induction k with
  | zero =>
    rw [prefP_zero]
    constructor
    · exact .inl
    · rintro (h | ⟨j, h1, h2, _⟩)
      · exact h
      · omega
  | succ k ih =>
    rw [prefP_succ, mem_putW, ih (by omega)]
    constructor
    · rintro (rfl | h | ⟨j, h1, h2, rfl⟩)
      · exact .inr ⟨k + 1, by omega, by omega, rfl⟩
      · exact .inl h
      · exact .inr ⟨j, h1, by omega, rfl⟩
    · rintro (h | ⟨j, h1, h2, rfl⟩)
      · exact .inr (.inl h)
      · rcases Nat.lt_or_ge j (k + 1) with h | h
        · exact .inr (.inr ⟨j, h1, by omega, rfl⟩)
        · obtain rfl : j = k + 1 := by omega
          exact .inl rfl
theorem asc_prefP {P : List (List UInt8)} (w : List UInt8) (k : Nat) (h : Asc P) : Asc (prefP P w k) := by
  induction k with
  | zero => exact h
  | succ k ih => rw [prefP_succ]; exact asc_putW _ ih
theorem prefix_take (x w : List UInt8) : x <+: w ↔ x = [] ∨ ∃ j, 1 ≤ j ∧ j ≤ w.length ∧ x = w.take j := by
  constructor
  · intro h
    rcases x with _ | ⟨a, x⟩
    · exact .inl rfl
    · exact .inr ⟨(a :: x).length, by simp, h.length_le, List.prefix_iff_eq_take.1 h⟩
  · rintro (rfl | ⟨j, _, _, rfl⟩)
    · exact List.nil_prefix
    · exact List.take_prefix _ _
theorem mem_prefsP (ws : List (List UInt8)) (n : Nat) (hn : n ≤ ws.length) (x : List UInt8) : x ∈ prefsP ws n ↔ x = [] ∨ ∃ w ∈ ws.take n, x <+: w := by
  induction n with
  | zero => simp [prefsP_zero]
  | succ n ih =>
    rw [prefsP_succ ws n (by omega), mem_prefP _ _ _ _ (Nat.le_refl _), ih (by omega), List.take_succ_eq_append_getElem (by omega)]
    have hg : ws.getD n [] = ws[n] := by rw [List.getD_eq_getElem?_getD, List.getElem?_eq_getElem (by omega)]; rfl
    rw [hg]
    constructor
    · rintro ((h | ⟨w, hw, hx⟩) | ⟨j, h1, h2, rfl⟩)
      · exact .inl h
      · exact .inr ⟨w, List.mem_append.2 (.inl hw), hx⟩
      · exact .inr ⟨ws[n], List.mem_append.2 (.inr (List.mem_singleton.2 rfl)), List.take_prefix _ _⟩
    · rintro (h | ⟨w, hw, hx⟩)
      · exact .inl (.inl h)
      · rcases List.mem_append.1 hw with h | h
        · exact .inl (.inr ⟨w, h, hx⟩)
        · obtain rfl := List.mem_singleton.1 h
          rcases (prefix_take x _).1 hx with h | h
          · exact .inl (.inl h)
          · exact .inr h
theorem mem_prefW (ws : List (List UInt8)) (x : List UInt8) : x ∈ zha ws ↔ x = [] ∨ ∃ w ∈ ws, x <+: w := by
  unfold zha; rw [mem_prefsP ws _ (Nat.le_refl _), List.take_length]
theorem asc_prefsP (ws : List (List UInt8)) (n : Nat) (hn : n ≤ ws.length) : Asc (prefsP ws n) := by
  induction n with
  | zero => rw [prefsP_zero]; exact List.pairwise_singleton _ _
  | succ n ih => rw [prefsP_succ ws n (by omega)]; exact asc_prefP _ _ (ih (by omega))
theorem asc_prefW (ws : List (List UInt8)) : Asc (zha ws) := asc_prefsP ws _ (Nat.le_refl _)
theorem prefW_head (ws : List (List UInt8)) : ∃ t, zha ws = [] :: t ∧ ∀ p ∈ t, p ≠ [] := by
  have hm := (mem_prefW ws []).2 (.inl rfl)
  have ha := asc_prefW ws
  rcases hp : zha ws with _ | ⟨a, t⟩
  · rw [hp] at hm; simp at hm
  · rw [hp] at hm ha
    have h1 := List.pairwise_cons.1 ha
    have hnil : a = [] := by
      rcases List.mem_cons.1 hm with h | h
      · exact h.symm
      · have := h1.1 [] h
        simp at this
    subst hnil
    exact ⟨t, rfl, fun p hp e => by have := h1.1 p hp; rw [e] at this; simp at this⟩
theorem prefW_tail (ws : List (List UInt8)) : ∀ p ∈ (zha ws).tail, p ≠ [] := by
  obtain ⟨t, e, h⟩ := prefW_head ws
  rw [e]; exact h
theorem prefW_pos (ws : List (List UInt8)) : 1 ≤ (zha ws).length := by
  obtain ⟨t, e, h⟩ := prefW_head ws
  rw [e]; simp
/-- The same words: the same prefixes. -/
theorem prefW_ext {ws vs : List (List UInt8)} (h : ∀ x, x ∈ ws ↔ x ∈ vs) : zha ws = zha vs :=
  asc_unique (asc_prefW ws) (asc_prefW vs) (fun x => by rw [mem_prefW, mem_prefW]; simp only [h])
theorem ofW_ext {ws vs : List (List UInt8)} (h : ∀ x, x ∈ ws ↔ x ∈ vs) : ofW ws = ofW vs := by
  unfold ofW
  rw [prefW_ext h]
  unfold zTa
  refine List.map_congr_left (fun i _ => ?_)
  unfold nodeP
  simp only [h]
theorem asc_get {l : List (List UInt8)} (h : Asc l) {i j : Nat} (hi : i < l.length) (hj : j < l.length) : l[i] < l[j] ↔ i < j := by
  constructor
  · intro hlt
    rcases Nat.lt_trichotomy i j with hc | hc | hc
    · exact hc
    · subst hc; exact absurd hlt (List.lt_irrefl _)
    · exact absurd (List.lt_trans hlt (List.pairwise_iff_getElem.1 h j i hj hi hc)) (List.lt_irrefl _)
  · exact fun hc => List.pairwise_iff_getElem.1 h i j hi hj hc
theorem take_lt (p : List UInt8) (h : p ≠ []) : p.take (p.length - 1) < p := by
  induction p with
  | nil => exact absurd rfl h
  | cons a p ih =>
    rcases p with _ | ⟨b, p⟩
    · simp
    · have := ih (by simp)
      simpa using this
/-- Letters alone, in all words. -/
def Let (ws : List (List UInt8)) : Prop := ∀ w ∈ ws, lettersW w = true
theorem lettersW_prefix {x w : List UInt8} (h : x <+: w) (hw : lettersW w = true) : lettersW x = true := by
  unfold lettersW at *
  rw [List.all_eq_true] at *
  exact fun b hb => hw b (h.subset hb)
theorem letters_pref {ws : List (List UInt8)} (h : Let ws) {p : List UInt8} (hp : p ∈ zha ws) : lettersW p = true := by
  rcases (mem_prefW ws p).1 hp with rfl | ⟨w, hw, hx⟩
  · rfl
  · exact lettersW_prefix hx (h w hw)
theorem letW_of (b : UInt8) (h : 97 ≤ b.toNat ∧ b.toNat ≤ 122) : letW (((b.toNat : Int) - 97) % 256) = b := by
  unfold letW
  have e : ((97 + (((b.toNat : Int) - 97) % 256)) % 256).toNat = b.toNat := by omega
  rw [e]; simp
theorem parent_mem {ws : List (List UInt8)} {p : List UInt8} (hp : p ∈ zha ws) : p.take (p.length - 1) ∈ zha ws := by
  rcases (mem_prefW ws p).1 hp with rfl | ⟨w, hw, hx⟩
  · exact hp
  · exact (mem_prefW ws _).2 (.inr ⟨w, hw, (List.take_prefix _ _).trans hx⟩)
theorem placeW_mem {P : List (List UInt8)} {p : List UInt8} (h : p ∈ P) : ∃ j : Nat, placeW P p = j ∧ ∃ hj : j < P.length, P[j] = p :=
  ⟨P.idxOf p, if_pos h, List.idxOf_lt_length_iff.2 h, List.getElem_idxOf _⟩
theorem take_append_last (p : List UInt8) (h : p ≠ []) : p.take (p.length - 1) ++ [p.getD (p.length - 1) 0] = p := by
  have hl : p.length - 1 < p.length := by have := List.length_pos_iff.2 h; omega
  rw [List.getD_eq_getElem?_getD, List.getElem?_eq_getElem hl]
  have := List.take_succ_eq_append_getElem hl
  rw [show p.length - 1 + 1 = p.length by omega, List.take_length] at this
  exact this.symm
/-- What a node behind the first one is. -/
theorem nodeP_at {ws : List (List UInt8)} (hL : Let ws) (i : Nat) (h0 : i ≠ 0) (hi : i < (zha ws).length) :
    ∃ j, ∃ hj : j < i, (nodeP (zha ws) ws i).f1 = (j : Int) ∧ (0 ≤ (nodeP (zha ws) ws i).f0 ∧ (nodeP (zha ws) ws i).f0 ≤ 25) ∧ (zha ws)[j]'(by omega) ++ [letW (nodeP (zha ws) ws i).f0] = (zha ws)[i] := by
  have hg : (zha ws).getD i [] = (zha ws)[i] := by rw [List.getD_eq_getElem?_getD, List.getElem?_eq_getElem hi]; rfl
  have hm : (zha ws)[i] ∈ zha ws := List.getElem_mem _
  have hne : (zha ws)[i] ≠ [] := by
    obtain ⟨t, e, h⟩ := prefW_head ws
    obtain ⟨iq, rfl⟩ : ∃ iq, i = iq + 1 := ⟨i - 1, by omega⟩
    have := h (t[iq]'(by rw [e] at hi; simpa using hi)) (List.getElem_mem _)
    simpa [e] using this
  obtain ⟨j, hj, hjl, hje⟩ := placeW_mem (parent_mem hm)
  have hlt : j < i := by
    rw [← asc_get (asc_prefW ws) hjl hi, hje]
    exact take_lt _ hne
  have hb : 97 ≤ ((zha ws)[i].getD ((zha ws)[i].length - 1) 0).toNat ∧ ((zha ws)[i].getD ((zha ws)[i].length - 1) 0).toNat ≤ 122 := by
    have hl := letters_pref hL hm
    unfold lettersW at hl
    rw [List.all_eq_true] at hl
    have hlen : (zha ws)[i].length - 1 < (zha ws)[i].length := by have := List.length_pos_iff.2 hne; omega
    have := hl _ (show (zha ws)[i].getD ((zha ws)[i].length - 1) 0 ∈ (zha ws)[i] by
      rw [List.getD_eq_getElem?_getD, List.getElem?_eq_getElem hlen]; exact List.getElem_mem _)
    simpa [UInt8.le_iff_toNat_le] using this
  have hn : nodeP (zha ws) ws i = ⟨((((zha ws)[i].getD ((zha ws)[i].length - 1) 0).toNat : Int) - 97) % 256, (j : Int), decide ((zha ws)[i] ∈ ws)⟩ := by
    unfold nodeP; rw [if_neg h0, hg, hj]
  rw [hn]
  refine ⟨j, hlt, rfl, ?_, ?_⟩
  · dsimp only; omega
  · dsimp only
    rw [letW_of _ hb, hje]
    exact take_append_last _ hne
theorem preGo_of {ws : List (List UInt8)} (hL : Let ws) (m : Nat) : ∀ i : Nat, (zha ws).length - i = m → 1 ≤ i → i ≤ (zha ws).length → preGo ((zha ws).take i) ((ofW ws).drop i) = some (zha ws) := by
  have hlen : (ofW ws).length = (zha ws).length := by simp [ofW, zTa]
  induction m with
  | zero =>
    intro i hm h1 hi
    have : i = (zha ws).length := by omega
    subst this
    rw [← hlen, List.drop_length, hlen, List.take_length]; rfl
  | succ m ih =>
    intro i hm h1 hi
    have hlt : i < (zha ws).length := by omega
    rw [List.drop_eq_getElem_cons (by omega), preGo]
    have hn : (ofW ws)[i]'(by omega) = nodeP (zha ws) ws i := by simp [ofW, zTa]
    obtain ⟨j, hj, h1', h2, h3⟩ := nodeP_at hL i (by omega) hlt
    rw [hn]
    have hok : okN ((zha ws).take i).length (nodeP (zha ws) ws i) := by
      rw [List.length_take]
      exact ⟨⟨by omega, by omega⟩, h2⟩
    rw [if_pos hok]
    have hg : ((zha ws).take i).getD (nodeP (zha ws) ws i).f1.toNat [] = (zha ws)[j]'(by omega) := by
      rw [h1', Int.toNat_natCast, List.getD_eq_getElem?_getD, List.getElem?_take_of_lt hj, List.getElem?_eq_getElem (by omega)]; rfl
    rw [hg, h3, ← List.take_succ_eq_append_getElem hlt]
    exact ih (i + 1) (by omega) (by omega) (by omega)
theorem prefsN_ofW {ws : List (List UInt8)} (hL : Let ws) (hn : (zha ws).length ≤ 481) : prefsN (ofW ws) = some (zha ws) := by
  have hlen : (ofW ws).length = (zha ws).length := by simp [ofW, zTa]
  have hp := prefW_pos ws
  unfold prefsN
  rw [if_pos ⟨by omega, by omega⟩]
  have := preGo_of hL _ 1 rfl (Nat.le_refl _) hp
  obtain ⟨t, e, _⟩ := prefW_head ws
  rw [List.drop_one] at this
  rw [show (zha ws).take 1 = [[]] by rw [e]; rfl] at this
  exact this
theorem zip_filter (P : List (List UInt8)) (f : Nat → zL) (ws : List (List UInt8)) (h : ∀ i (hi : i < P.length), (f i).f2 = decide (P[i] ∈ ws)) :
    ((P.zip ((List.range P.length).map f)).filter fun x => x.2.f2).map (·.1) = P.filter fun p => decide (p ∈ ws) := by
  induction P generalizing f with
  | nil => rfl
  | cons p P ih =>
    rw [List.length_cons, List.range_succ_eq_map, List.map_cons, List.map_map, List.zip_cons_cons, List.filter_cons, List.filter_cons]
    have h0 := h 0 (by simp)
    have := ih (f ∘ Nat.succ) (fun i hi => by have := h (i + 1) (by simpa using hi); rw [List.getElem_cons_succ] at this; exact this)
    simp only [List.getElem_cons_zero] at h0
    simp only [h0]
    split <;> simp [this]
theorem words_mem_pref {ws : List (List UInt8)} {w : List UInt8} (h : w ∈ ws) : w ∈ zha ws := (mem_prefW ws w).2 (.inr ⟨w, h, List.prefix_refl _⟩)
theorem wordsN_ofW {ws : List (List UInt8)} (ha : Asc ws) : wordsN (zha ws) (ofW ws) = ws := by
  unfold wordsN ofW zTa
  rw [zip_filter (zha ws) (nodeP (zha ws) ws) ws]
  · refine asc_unique (asc_filter (asc_prefW ws) _) ha (fun x => ?_)
    simp only [List.mem_filter, decide_eq_true_eq]
    exact ⟨fun h => h.2, fun h => ⟨words_mem_pref h, h⟩⟩
  · intro i hi
    have hg : (zha ws).getD i [] = (zha ws)[i] := by rw [List.getD_eq_getElem?_getD, List.getElem?_eq_getElem hi]; rfl
    unfold nodeP
    split <;> rw [hg]
end Go.Proofs.YtfabennfhmlihaaGreatDoor.P
end
section
namespace Go.Proofs.YtfabennfhmlihaaGreatDoor.P
open Go Go.RowKit Go.Proofs.YtfabennfhmlihaaGreatDoorW.zJ Go.Proofs.YtfabennfhmlihaaGreatDoorW.zU Go.Proofs.YtfabennfhmlihaaGreatDoorW.PrintMore
set_option linter.unusedVariables false
/-- A word: letters alone, at most twelve. -/
def WordW (w : List UInt8) : Prop := w.length ≤ 12 ∧ lettersW w = true
/-- Words of a valid trie. -/
structure OkW (W : List (List UInt8)) : Prop where
  asc : Asc W
  wrd : ∀ w ∈ W, WordW w
  few : W.length ≤ 40
def Valid (ns : List zL) : Prop := ∃ W, OkW W ∧ ns = ofW W
theorem OkW.lets {W : List (List UInt8)} (h : OkW W) : Let W := fun w hw => (h.wrd w hw).2
theorem OkW.bound {W : List (List UInt8)} (h : OkW W) : (zha W).length ≤ 481 ∧ ∀ p ∈ zha W, p.length ≤ 12 := by
  have := prefsP_bound W 12 (fun x hx => (h.wrd x hx).1) W.length (Nat.le_refl _)
  refine ⟨Nat.le_trans this.1 ?_, this.2⟩
  have := h.few
  omega
theorem OkW.prefs {W : List (List UInt8)} (h : OkW W) : prefsN (ofW W) = some (zha W) := prefsN_ofW h.lets h.bound.1
theorem OkW.words {W : List (List UInt8)} (h : OkW W) : wordsN (zha W) (ofW W) = W := wordsN_ofW h.asc
theorem letW_letter (n : Int) (h0 : 0 ≤ n) (h1 : n ≤ 25) : lettersW [letW n] = true := by
  unfold lettersW letW
  have e : ((97 + n) % 256).toNat = (97 + n).toNat := by omega
  rw [e]
  have e2 : (UInt8.ofNat (97 + n).toNat).toNat = (97 + n).toNat := by
    rw [UInt8.toNat_ofNat']; omega
  simp only [List.all_cons, List.all_nil, Bool.and_true, decide_eq_true_eq, UInt8.le_iff_toNat_le, e2]
  simp
  omega
theorem lettersW_append (a b : List UInt8) : lettersW (a ++ b) = (lettersW a && lettersW b) := by unfold lettersW; exact List.all_append
theorem preGo_letters : ∀ (ns : List zL) (acc P : List (List UInt8)), Let acc → preGo acc ns = some P → Let P
  | [], acc, P, ha, h => by simp only [preGo, Option.some.injEq] at h; rwa [← h]
  | n :: ns, acc, P, ha, h => by
    simp only [preGo] at h
    split at h
    · rename_i hok
      refine preGo_letters ns _ P ?_ h
      intro w hw
      rcases List.mem_append.1 hw with hw | hw
      · exact ha w hw
      · rw [List.mem_singleton.1 hw, lettersW_append, letW_letter _ hok.2.1 hok.2.2, Bool.and_true]
        refine ha _ ?_
        rw [List.getD_eq_getElem?_getD, List.getElem?_eq_getElem (by have := hok.1; omega)]
        exact List.getElem_mem _
    · cases h
theorem prefsN_letters {ns : List zL} {P : List (List UInt8)} (h : prefsN ns = some P) : Let P := by
  unfold prefsN at h
  split at h
  · exact preGo_letters _ _ P (by intro w hw; rw [List.mem_singleton.1 hw]; rfl) h
  · cases h
theorem wordsN_sub {P : List (List UInt8)} {ns : List zL} {w : List UInt8} (h : w ∈ wordsN P ns) : w ∈ P := by
  unfold wordsN at h
  obtain ⟨x, hx, rfl⟩ := List.mem_map.1 h
  exact (List.of_mem_zip (a := x.1) (b := x.2) (List.mem_filter.1 hx).1).1
/-- What the program asks. -/
theorem valid_iff (ns : List zL) : Valid ns ↔ ∃ P, prefsN ns = some P ∧ (∀ p ∈ P, p.length ≤ 12) ∧ (wordsN P ns).length ≤ 40 ∧ (wordsN P ns).Pairwise (· ≤ ·) ∧ ofW (wordsN P ns) = ns := by
  constructor
  · rintro ⟨W, h, rfl⟩
    refine ⟨zha W, h.prefs, h.bound.2, ?_, ?_, ?_⟩
    · rw [h.words]; exact h.few
    · rw [h.words]; exact h.asc.imp (fun h => List.le_of_lt h)
    · rw [h.words]
  · rintro ⟨P, hP, h12, h40, hs, he⟩
    refine ⟨setW (wordsN P ns), ⟨asc_setW _, fun w hw => ?_, ?_⟩, ?_⟩
    · have := wordsN_sub ((mem_setW _ w).1 hw)
      exact ⟨h12 w this, prefsN_letters hP w this⟩
    · refine Nat.le_trans (compact_length _) ?_
      simpa using h40
    · rw [ofW_ext (fun x => mem_setW (wordsN P ns) x), he]
theorem pairwise_adj {xs : List (List UInt8)} (h : ∀ a, ∀ ha : a + 1 < xs.length, xs[a] ≤ xs[a + 1]) : xs.Pairwise (· ≤ ·) := by
  rw [List.pairwise_iff_getElem]
  intro i j hi hj hij
  obtain ⟨d, rfl⟩ : ∃ d, j = i + 1 + d := ⟨j - i - 1, by omega⟩
  induction d with
  | zero => exact h i hj
  | succ d ih => exact List.le_trans (ih (by omega) (by omega)) (h (i + 1 + d) hj)
theorem sorted_l0 (xs : List (List UInt8)) (hl : xs.length ≤ 4611686018427387903) (m : Nat) : ∀ i : Nat, i = m → i ≤ xs.length - 1 → (∀ a (ha : a < xs.length), ∀ j, i < j → ∀ hj : j < xs.length, j = a + 1 → ¬ xs[j] < xs[a]) →
    Ev (fun k => zR.l0 k (xs.map tx) (i : Int)) (decide (xs.Pairwise (· ≤ ·))) := by
  induction m with
  | zero =>
    rintro i rfl hi ha
    refine Ev.succ ?_
    simp only [zR.l0]
    refine Ev.neg (by omega) (Ev.const ?_)
    rw [decide_eq_true]
    refine pairwise_adj (fun a ha' => ?_)
    exact List.not_lt.1 (ha a (by omega) (a + 1) (by omega) ha' rfl)
  | succ m ih =>
    rintro i rfl hi ha
    have hlt : m + 1 < xs.length := by omega
    have hg1 : xs.getD (m + 1) [] = xs[m + 1] := by rw [List.getD_eq_getElem?_getD, List.getElem?_eq_getElem hlt]; rfl
    have hg2 : xs.getD m [] = xs[m] := by rw [List.getD_eq_getElem?_getD, List.getElem?_eq_getElem (by omega)]; rfl
    have hw : wrap64 (((m + 1 : Nat) : Int) - 1) = (m : Int) := by rw [zSa (by omega) (by omega)]; omega
    refine Ev.succ ?_
    simp only [zR.l0, hw, List.length_map, rdOf_tx, Int.toNat_natCast, hg1, hg2, less_f, Option.bind_some]
    refine Ev.pos (by omega) (Ev.pos (by omega) (Ev.pos (by omega) (Ev.pos (by omega) (Ev.pos (by omega) ?_))))
    by_cases hc : xs[m + 1] < xs[m]
    · refine Ev.pos ((bytesLess_iff _ _).2 hc) (Ev.const ?_)
      rw [decide_eq_false]
      intro hp
      exact (List.not_lt.2 (List.pairwise_iff_getElem.1 hp m (m + 1) (by omega) hlt (by omega))) hc
    · refine Ev.neg (fun h => hc ((bytesLess_iff _ _).1 h)) ?_
      refine ih m rfl (by omega) (fun a ha' j hj hjl e => ?_)
      rcases Nat.eq_or_lt_of_le (show m + 1 ≤ j by omega) with h | h
      · subst h
        have : a = m := by omega
        subst this; exact hc
      · exact ha a ha' j h hjl e
theorem sorted_ev (xs : List (List UInt8)) (hl : xs.length ≤ 4611686018427387903) : Ev (fun k => zR.f k (xs.map tx)) (decide (xs.Pairwise (· ≤ ·))) := by
  unfold zR.f
  rw [List.length_map]
  rcases Nat.eq_zero_or_pos xs.length with h | h
  · rw [h]
    have := List.eq_nil_of_length_eq_zero h
    subst this
    refine Ev.succ ?_
    simp only [zR.l0]
    exact Ev.neg (by rw [zSa (by simp) (by simp)]; simp) (Ev.const (by simp))
  · have hw : wrap64 ((xs.length : Int) - 1) = ((xs.length - 1 : Nat) : Int) := by rw [zSa (by omega) (by omega)]; omega
    rw [hw]
    exact sorted_l0 xs hl _ _ rfl (Nat.le_refl _) (fun a ha j hj hjl e => by omega)
theorem node_eq (a b : zL) : a = b ↔ a.f0 = b.f0 ∧ a.f1 = b.f1 ∧ a.f2 = b.f2 := by
  cases a; cases b; simp
instance : DecidableEq zL := fun a b => decidable_of_iff _ (node_eq a b).symm
theorem equal_l0 (a b : List zL) (hab : a.length = b.length) (hl : a.length ≤ 9223372036854775806) (m : Nat) : ∀ i : Nat, a.length - i = m → i ≤ a.length → 
    Ev (fun k => impl_Node.l0 k a b (a.length : Int) (i : Int)) (decide (a.drop i = b.drop i)) := by
  induction m with
  | zero =>
    intro i hm hi
    obtain rfl : i = a.length := by omega
    refine Ev.succ ?_
    simp only [impl_Node.l0]
    refine Ev.neg (by omega) (Ev.const ?_)
    rw [List.drop_length, hab, List.drop_length]; rfl
  | succ m ih =>
    intro i hm hi
    have hlt : i < a.length := by omega
    refine Ev.succ ?_
    simp only [impl_Node.l0, rd_node a i hlt, rd_node b i (by omega)]
    refine Ev.pos (by omega) (Ev.pos (by omega) (Ev.pos (by omega) (Ev.pos (by omega) ?_)))
    rw [List.drop_eq_getElem_cons hlt, List.drop_eq_getElem_cons (show i < b.length by omega)]
    by_cases hc : a[i] = b[i]
    · refine Ev.neg (by rw [hc]; simp) ?_
      rw [zSa (by omega) (by omega)]
      have e : decide (a[i] :: a.drop (i + 1) = b[i] :: b.drop (i + 1)) = decide (a.drop (i + 1) = b.drop (i + 1)) := by
        rw [decide_eq_decide]; exact ⟨fun h => (List.cons.inj h).2, fun h => by rw [hc, h]⟩
      rw [e]
      have := ih (i + 1) (by omega) (by omega)
      rwa [Int.natCast_add] at this
    · refine Ev.pos ?_ (Ev.const ?_)
      · rw [node_eq] at hc
        by_cases h1 : (a[i]).f0 = (b[i]).f0
        · by_cases h2 : (a[i]).f1 = (b[i]).f1
          · by_cases h3 : (a[i]).f2 = (b[i]).f2
            · exact absurd ⟨h1, h2, h3⟩ hc
            · simp [h1, h2, h3]
          · simp [h1, h2]
        · simp [h1]
      · rw [decide_eq_false]
        intro e
        exact hc (List.cons.inj e).1
theorem equal_ev (a b : List zL) (hl : a.length ≤ 9223372036854775806) : Ev (fun k => impl_Node.f k a b) (decide (a = b)) := by
  unfold impl_Node.f
  by_cases h : a.length = b.length
  · refine Ev.pos (by omega) ?_
    have := equal_l0 a b h hl _ 0 rfl (Nat.zero_le _)
    simpa using this
  · refine Ev.neg (by omega) (Ev.const ?_)
    rw [decide_eq_false]
    intro e; exact h (by rw [e])
/-- The program's answer. -/
def validB (ns : List zL) : Bool :=
  match prefsN ns with
  | none => false
  | some P => decide ((∀ p ∈ P, p.length ≤ 12) ∧ (wordsN P ns).length ≤ 40 ∧ (wordsN P ns).Pairwise (· ≤ ·) ∧ ofW (wordsN P ns) = ns)
theorem validB_iff (ns : List zL) : validB ns = true ↔ Valid ns := by
  rw [valid_iff]
  unfold validB
  constructor
  · intro h
    split at h
    · cases h
    · rename_i P hP
      exact ⟨P, hP, by simpa using h⟩
  · rintro ⟨P, hP, h⟩
    rw [hP]
    exact decide_eq_true h
end Go.Proofs.YtfabennfhmlihaaGreatDoor.P
end
section
namespace Go.Proofs.YtfabennfhmlihaaGreatDoor.P
open Go Go.RowKit Go.Proofs.YtfabennfhmlihaaGreatDoorW.zJ Go.Proofs.YtfabennfhmlihaaGreatDoorW.zU Go.Proofs.YtfabennfhmlihaaGreatDoorW.PrintMore
set_option linter.unusedVariables false
theorem l1In_f (a b c : Int) : spec_l1In.f a b c = some (decide (b ≤ a ∧ a ≤ c)) := by
  unfold spec_l1In.f
  by_cases h1 : a ≥ b
  · rw [if_pos h1]; simp [show b ≤ a from h1]
  · rw [if_neg h1]; simp [show ¬ b ≤ a from h1]
instance (w : List UInt8) : Decidable (WordW w) := inferInstanceAs (Decidable (_ ∧ _))
theorem lettersW_take (w : List UInt8) (n : Nat) (hn : n ≤ w.length) (h : ∀ j (hj : j < w.length), j < n → 97 ≤ (w[j]).toNat ∧ (w[j]).toNat ≤ 122) : lettersW (w.take n) = true := by
  unfold lettersW
  rw [List.all_eq_true]
  intro b hb
  obtain ⟨j, hj, rfl⟩ := List.getElem_of_mem hb
  rw [List.length_take] at hj
  have := h j (by omega) (by omega)
  rw [List.getElem_take]
  simpa [UInt8.le_iff_toNat_le] using this
theorem lettersW_get {w : List UInt8} (h : lettersW w = true) (j : Nat) (hj : j < w.length) : 97 ≤ (w[j]).toNat ∧ (w[j]).toNat ≤ 122 := by
  unfold lettersW at h
  rw [List.all_eq_true] at h
  have := h _ (List.getElem_mem hj)
  simpa [UInt8.le_iff_toNat_le] using this
theorem word_l0' (w : List UInt8) (hl : w.length ≤ 4611686018427387904) (m : Nat) : ∀ i : Nat, 13 - i = m → i ≤ 13 → (∀ j (hj : j < w.length), j < i → 97 ≤ (w[j]).toNat ∧ (w[j]).toNat ≤ 122) →
    Ev (fun k => zqa.l0 k (tx w) (i : Int)) (decide (WordW w)) := by
  have fin : ∀ i : Nat, (w.length ≤ i ∨ 13 ≤ i) → (∀ j (hj : j < w.length), j < i → 97 ≤ (w[j]).toNat ∧ (w[j]).toNat ≤ 122) → decide (w.length ≤ 12) = decide (WordW w) := by
    intro i hi h
    rw [decide_eq_decide]
    constructor
    · intro h12
      refine ⟨h12, ?_⟩
      have := lettersW_take w w.length (Nat.le_refl _) (fun j hj _ => h j hj (by omega))
      rwa [List.take_length] at this
    · exact fun h => h.1
  induction m with
  | zero =>
    intro i hm hi h
    refine Ev.succ ?_
    simp only [zqa.l0, zMa]
    by_cases hc : i < w.length
    · refine Ev.pos (by omega) (Ev.succ ?_)
      simp only [zqa.j1, zMa]
      refine Ev.neg (by simp; omega) (Ev.const ?_)
      rw [← fin i (.inr (by omega)) h]; simp; omega
    · refine Ev.neg (by omega) (Ev.succ ?_)
      simp only [zqa.j1, zMa]
      refine Ev.neg (by simp) (Ev.const ?_)
      rw [← fin i (.inl (by omega)) h]; simp; omega
  | succ m ih =>
    intro i hm hi h
    refine Ev.succ ?_
    simp only [zqa.l0, zMa]
    by_cases hc : i < w.length
    · refine Ev.pos (by omega) (Ev.succ ?_)
      have hb : bt (tx w) (i : Int) = ((w[i]).toNat : Int) := by
        rw [tx_bt, Int.toNat_natCast, List.getD_eq_getElem?_getD, List.getElem?_eq_getElem hc]; rfl
      simp only [zqa.j1, zMa, hb]
      refine Ev.pos (by simp; omega) (Ev.pos (by omega) (Ev.pos (by omega) ?_))
      by_cases h1 : ((w[i]).toNat : Int) < 97
      · refine Ev.pos h1 (Ev.const ?_)
        rw [decide_eq_false]
        intro hw
        have := lettersW_get hw.2 i hc
        omega
      · refine Ev.neg h1 ?_
        by_cases h2 : ((w[i]).toNat : Int) > 122
        · refine Ev.pos h2 (Ev.const ?_)
          rw [decide_eq_false]
          intro hw
          have := lettersW_get hw.2 i hc
          omega
        · refine Ev.neg h2 ?_
          rw [zSa (by omega) (by omega)]
          have := ih (i + 1) (by omega) (by omega) (fun j hj hji => by
            rcases Nat.lt_or_ge j i with h3 | h3
            · exact h j hj h3
            · obtain rfl : j = i := by omega
              omega)
          simpa using this
    · refine Ev.neg (by omega) (Ev.succ ?_)
      simp only [zqa.j1, zMa]
      refine Ev.neg (by simp) (Ev.const ?_)
      rw [← fin i (.inl (by omega)) h]; simp; omega
theorem word_ev (w : List UInt8) (hl : w.length ≤ 4611686018427387904) : Ev (fun k => zqa.f k (tx w)) (decide (WordW w)) := by
  unfold zqa.f
  exact word_l0' w hl 13 0 rfl (by omega) (fun j hj h => by omega)
/-- The texts put one by one. -/
def setP (xs : List (List UInt8)) : List (List UInt8) := xs.foldl putW []
theorem foldl_put_asc (xs : List (List UInt8)) : ∀ acc, Asc acc → Asc (xs.foldl putW acc) := by
  induction xs with
  | nil => exact fun acc h => h
  | cons x xs ih => exact fun acc h => ih _ (asc_putW x h)
theorem foldl_put_mem (xs : List (List UInt8)) (y : List UInt8) : ∀ acc, y ∈ xs.foldl putW acc ↔ y ∈ xs ∨ y ∈ acc := by
  induction xs with
  | nil => intro acc; simp
  | cons x xs ih =>
    intro acc
    rw [List.foldl_cons, ih, mem_putW, List.mem_cons]
    constructor
    · rintro (h | h | h)
      · exact .inl (.inr h)
      · exact .inl (.inl h)
      · exact .inr h
    · rintro ((h | h) | h)
      · exact .inr (.inl h)
      · exact .inl h
      · exact .inr (.inr h)
theorem foldl_put_length (xs : List (List UInt8)) : ∀ acc, (xs.foldl putW acc).length ≤ acc.length + xs.length := by
  induction xs with
  | nil => intro acc; simp
  | cons x xs ih =>
    intro acc
    have h1 := ih (putW acc x)
    have h2 := putW_length acc x
    rw [List.foldl_cons, List.length_cons]
    omega
theorem asc_setP (xs : List (List UInt8)) : Asc (setP xs) := foldl_put_asc xs [] List.Pairwise.nil
theorem mem_setP (xs : List (List UInt8)) (y : List UInt8) : y ∈ setP xs ↔ y ∈ xs := by unfold setP; rw [foldl_put_mem]; simp
theorem setP_of_asc {xs : List (List UInt8)} (h : Asc xs) : setP xs = xs := asc_unique (asc_setP xs) h (mem_setP xs)
/-- What the reference's set returns. -/
def setR (xs : List (List UInt8)) : List ByteArray × Bool := if ∀ x ∈ xs, WordW x then ((setP xs).map tx, decide ((setP xs).length ≤ 40)) else ([], false)
theorem set_l0 (xs : List (List UInt8)) (hl : xs.length ≤ 1000000) (hs : ∀ x ∈ xs, x.length ≤ 1000000) (m : Nat) : ∀ (i : Nat), xs.length - i = m → i ≤ xs.length → (∀ x ∈ xs.take i, WordW x) →
    Ev (fun k => zNa.l0 k (xs.map tx) (((xs.take i).foldl putW []).map tx) (i : Int)) (setR xs) := by
  induction m with
  | zero =>
    intro i hm hi hw
    obtain rfl : i = xs.length := by omega
    refine Ev.succ ?_
    simp only [zNa.l0, List.length_map]
    refine Ev.neg (by omega) (Ev.const ?_)
    rw [List.take_length] at hw ⊢
    unfold setR
    rw [if_pos hw]
    have e : xs.foldl putW [] = setP xs := rfl
    rw [e]
    have e2 : decide (((setP xs).length : Int) ≤ 40) = decide ((setP xs).length ≤ 40) := by
      rw [decide_eq_decide]; omega
    rw [e2]
  | succ m ih =>
    intro i hm hi hw
    have hlt : i < xs.length := by omega
    have hg : xs.getD i [] = xs[i] := by rw [List.getD_eq_getElem?_getD, List.getElem?_eq_getElem hlt]; rfl
    refine Ev.succ ?_
    simp only [zNa.l0, List.length_map, rdOf_tx, Int.toNat_natCast, hg]
    refine Ev.pos (by omega) (Ev.pos (by omega) (Ev.bind (word_ev xs[i] (by have := hs _ (List.getElem_mem hlt); omega)) ?_))
    by_cases hc : WordW xs[i]
    · have hput : l2put.f (((xs.take i).foldl putW []).map tx) (tx xs[i]) = some ((putW ((xs.take i).foldl putW []) xs[i]).map tx) := by
        refine l2put.tx _ _ ?_ ?_
        · have := foldl_put_length (xs.take i) []
          simp at this; omega
        · intro x hx
          rcases (foldl_put_mem _ _ _).1 hx with h | h
          · have := hs x (List.mem_of_mem_take h); omega
          · simp at h
      simp only [hput, Option.bind_some]
      refine Ev.pos (by simpa using hc) ?_
      rw [zSa (by omega) (by omega)]
      have := ih (i + 1) (by omega) (by omega) (by
        rw [List.take_succ_eq_append_getElem hlt]
        intro x hx
        rcases List.mem_append.1 hx with h | h
        · exact hw x h
        · rw [List.mem_singleton.1 h]; exact hc)
      rw [List.take_succ_eq_append_getElem hlt, List.foldl_append] at this
      simpa using this
    · refine Ev.neg (by simpa using hc) (Ev.const ?_)
      unfold setR
      rw [if_neg (fun h => hc (h _ (List.getElem_mem hlt)))]
theorem l2Set_ev (xs : List (List UInt8)) (hl : xs.length ≤ 1000000) (hs : ∀ x ∈ xs, x.length ≤ 1000000) : Ev (fun k => zNa.f k (xs.map tx)) (setR xs) := by
  unfold zNa.f
  have := set_l0 xs hl hs _ 0 rfl (Nat.zero_le _) (by simp)
  simpa using this
/-- The prefix of node i, s being behind it. -/
def pxG (ns : List zL) : Nat → Int → List UInt8 → List UInt8
  | 0, _, _ => [63]
  | k + 1, i, s =>
    if 0 < i ∧ s.length ≤ 12 then
      (if 0 ≤ (zl ns i).f0 ∧ (zl ns i).f0 ≤ 25 then (if (zl ns i).f1 ≥ i then [63] else pxG ns k (zl ns i).f1 (letW (zl ns i).f0 :: s)) else [63])
    else if i = 0 then s else [63]
def px (ns : List zL) (i : Nat) : List UInt8 := pxG ns (i + 1) i []
theorem pxG_length (ns : List zL) : ∀ (m : Nat) (i : Int) (s : List UInt8), s.length ≤ 13 → (pxG ns m i s).length ≤ 13
  | 0, _, _, _ => by simp [pxG]
  | m + 1, i, s, hs => by
    unfold pxG
    split
    · rename_i h
      split
      · split
        · simp
        · exact pxG_length ns m _ _ (by simp; omega)
      · simp
    · split
      · exact hs
      · simp
theorem prefix_l0 (ns : List zL) (m : Nat) : ∀ (i : Int) (s : List UInt8), i.toNat < m → i < ns.length → ns.length ≤ 1000000 → s.length ≤ 13 →
    Ev (fun k => zma.l0 k i (tx s) ns) (tx (pxG ns m i s)) := by
  induction m with
  | zero => intro i s h; omega
  | succ m ih =>
    intro i s hm hi hn hs
    refine Ev.succ ?_
    simp only [zma.l0]
    by_cases h0 : i > 0
    · refine Ev.pos h0 (Ev.succ ?_)
      simp only [zma.j1, zMa]
      by_cases h12 : s.length ≤ 12
      · refine Ev.pos (by simp; omega) (Ev.pos (by omega) (Ev.pos hi ?_))
        simp only [l1In_f, Option.bind_some, decide_eq_true_eq]
        by_cases hl : 0 ≤ (zl ns i).f0 ∧ (zl ns i).f0 ≤ 25
        · refine Ev.pos hl ?_
          by_cases hp : (zl ns i).f1 ≥ i
          · have e : pxG ns (m + 1) i s = [63] := by simp only [pxG]; rw [if_pos ⟨h0, h12⟩, if_pos hl, if_pos hp]
            rw [e]; exact Ev.pos hp (Ev.const rfl)
          · have e : pxG ns (m + 1) i s = pxG ns m (zl ns i).f1 (letW (zl ns i).f0 :: s) := by simp only [pxG]; rw [if_pos ⟨h0, h12⟩, if_pos hl, if_neg hp]
            rw [e]
            refine Ev.neg hp ?_
            have hstr : strOfNums [(wrap64 (97 + (zl ns i).f0)) % 256] = tx [letW (zl ns i).f0] := by
              rw [zSa (by omega) (by omega), tx_str]; rfl
            simp only [hstr, tx_append, zMa]
            refine Ev.pos (by simp; omega) ?_
            exact ih _ _ (by omega) (by omega) hn (by simp; omega)
        · have e : pxG ns (m + 1) i s = [63] := by simp only [pxG]; rw [if_pos ⟨h0, h12⟩, if_neg hl]
          rw [e]; exact Ev.neg hl (Ev.const rfl)
      · have e : pxG ns (m + 1) i s = [63] := by simp only [pxG]; rw [if_neg (fun h => h12 h.2), if_neg (show ¬ i = 0 by omega)]
        rw [e]
        exact Ev.neg (by simp; omega) (Ev.neg (by omega) (Ev.const rfl))
    · refine Ev.neg h0 (Ev.succ ?_)
      simp only [zma.j1]
      refine Ev.neg (by simp) ?_
      by_cases hz : i = 0
      · have e : pxG ns (m + 1) i s = s := by simp only [pxG]; rw [if_neg (fun h => h0 h.1), if_pos hz]
        rw [e]; exact Ev.pos hz (Ev.const rfl)
      · have e : pxG ns (m + 1) i s = [63] := by simp only [pxG]; rw [if_neg (fun h => h0 h.1), if_neg hz]
        rw [e]; exact Ev.neg hz (Ev.const rfl)
theorem prefix_ev (ns : List zL) (i : Nat) (hi : i < ns.length) (hn : ns.length ≤ 1000000) : Ev (fun k => zma.f k ns (i : Int)) (tx (px ns i)) := by
  unfold zma.f px
  exact prefix_l0 ns (i + 1) (i : Int) [] (by simp) (by omega) hn (by simp)
/-- All prefixes, whatever the form. -/
def pxs (ns : List zL) : List (List UInt8) := (List.range ns.length).map (px ns)
theorem pxs_length (ns : List zL) : (pxs ns).length = ns.length := by simp [pxs]
theorem specWords_l0 (ns : List zL) (hn : ns.length ≤ 1000000) (m : Nat) : ∀ (i : Nat) (out : List (List UInt8)), ns.length - i = m → i ≤ ns.length → out.length ≤ i →
    Ev (fun k => zW.l0 k (out.map tx) (i : Int) ns) ((out ++ wordsN ((pxs ns).drop i) (ns.drop i)).map tx) := by
  induction m with
  | zero =>
    intro i out hm hi ho
    obtain rfl : i = ns.length := by omega
    refine Ev.succ ?_
    simp only [zW.l0]
    refine Ev.neg (by omega) (Ev.const ?_)
    simp [wordsN]
  | succ m ih =>
    intro i out hm hi ho
    have hlt : i < ns.length := by omega
    have hlp : i < (pxs ns).length := by rw [pxs_length]; omega
    have hp : (pxs ns)[i] = px ns i := by simp [pxs]
    refine Ev.succ ?_
    simp only [zW.l0, rd_node ns i hlt, List.length_map]
    refine Ev.pos (by omega) (Ev.pos (by omega) ?_)
    have hd : wordsN ((pxs ns).drop i) (ns.drop i) = (if (ns[i]).f2 = true then [px ns i] else []) ++ wordsN ((pxs ns).drop (i + 1)) (ns.drop (i + 1)) := by
      rw [List.drop_eq_getElem_cons hlt, List.drop_eq_getElem_cons hlp, hp]
      unfold wordsN
      rw [List.zip_cons_cons, List.filter_cons]
      by_cases h : (ns[i]).f2 = true <;> simp [h]
    rw [hd]
    by_cases he : (ns[i]).f2 = true
    · refine Ev.pos he (Ev.bind (prefix_ev ns i hlt hn) (Ev.pos (by omega) ?_))
      rw [if_pos he, zSa (by omega) (by omega)]
      have := ih (i + 1) (out ++ [px ns i]) (by omega) (by omega) (by simp; omega)
      simpa using this
    · refine Ev.neg he ?_
      rw [if_neg he, zSa (by omega) (by omega)]
      have := ih (i + 1) out (by omega) (by omega) (by omega)
      simpa using this
/-- The words asx the reference reads them. -/
def wordsX (ns : List zL) : List (List UInt8) := wordsN (pxs ns) ns
theorem specWords_ev (ns : List zL) (hn : ns.length ≤ 1000000) : Ev (fun k => zW.f k ns) ((wordsX ns).map tx) := by
  unfold zW.f
  have := specWords_l0 ns hn _ 0 [] rfl (Nat.zero_le _) (Nat.le_refl _)
  simpa [wordsX] using this
theorem wordsN_length (P : List (List UInt8)) (ns : List zL) : (wordsN P ns).length ≤ ns.length := by
  unfold wordsN
  rw [List.length_map]
  refine Nat.le_trans (List.length_filter_le _ _) ?_
  rw [List.length_zip]; omega
theorem wordsX_short (ns : List zL) : ∀ w ∈ wordsX ns, w.length ≤ 13 := by
  intro w hw
  have := wordsN_sub hw
  unfold pxs at this
  obtain ⟨i, _, rfl⟩ := List.mem_map.1 this
  exact pxG_length ns _ _ _ (by simp)
theorem same_l0 (a b : List zL) (ha : a.length ≤ 1000000000000) (m : Nat) : ∀ i : Nat, a.length - i = m → i ≤ a.length → i ≤ b.length →
    Ev (fun k => zBa.l0 k (i : Int) a b) (decide (a.drop i = b.drop i)) := by
  have fin : ∀ i : Nat, i ≤ a.length → i ≤ b.length → (a.length ≤ i ∨ b.length ≤ i) → ((a.length : Int) == (b.length : Int)) = decide (a.drop i = b.drop i) := by
    intro i h1 h2 h
    rw [Bool.eq_iff_iff, beq_iff_eq, decide_eq_true_eq]
    constructor
    · intro e
      rw [List.drop_of_length_le (by omega), List.drop_of_length_le (by omega)]
    · intro e
      have := congrArg List.length e
      rw [List.length_drop, List.length_drop] at this
      omega
  induction m with
  | zero =>
    intro i hm hi hb
    refine Ev.succ ?_
    simp only [zBa.l0]
    refine Ev.neg (by omega) (Ev.succ ?_)
    simp only [zBa.j1]
    exact Ev.neg (by simp) (Ev.const (by rw [fin i hi hb (.inl (by omega))]))
  | succ m ih =>
    intro i hm hi hb
    have hlt : i < a.length := by omega
    refine Ev.succ ?_
    simp only [zBa.l0]
    refine Ev.pos (by omega) (Ev.succ ?_)
    by_cases hlb : i < b.length
    · simp only [zBa.j1, rd_node a i hlt, rd_node b i hlb]
      refine Ev.pos (by simp; omega) (Ev.pos (by omega) (Ev.pos (by omega) (Ev.pos (by omega) ?_)))
      rw [List.drop_eq_getElem_cons hlt, List.drop_eq_getElem_cons hlb]
      by_cases hc : a[i] = b[i]
      · refine Ev.neg (by rw [hc]; simp) ?_
        rw [zSa (by omega) (by omega)]
        have e : decide (a[i] :: a.drop (i + 1) = b[i] :: b.drop (i + 1)) = decide (a.drop (i + 1) = b.drop (i + 1)) := by
          rw [decide_eq_decide]; exact ⟨fun h => (List.cons.inj h).2, fun h => by rw [hc, h]⟩
        rw [e]
        have := ih (i + 1) (by omega) (by omega) (by omega)
        rwa [Int.natCast_add] at this
      · refine Ev.pos ?_ (Ev.const ?_)
        · rw [node_eq] at hc
          by_cases h1 : (a[i]).f0 = (b[i]).f0
          · by_cases h2 : (a[i]).f1 = (b[i]).f1
            · by_cases h3 : (a[i]).f2 = (b[i]).f2
              · exact absurd ⟨h1, h2, h3⟩ hc
              · simp [h1, h2, h3]
            · simp [h1, h2]
          · simp [h1]
        · rw [decide_eq_false]
          intro e
          exact hc (List.cons.inj e).1
    · simp only [zBa.j1]
      exact Ev.neg (by simp; omega) (Ev.const (by rw [fin i hi hb (.inr (by omega))]))
theorem same_ev (a b : List zL) (ha : a.length ≤ 1000000000000) : Ev (fun k => zBa.f k a b) (decide (a = b)) := by
  unfold zBa.f
  have := same_l0 a b ha _ 0 rfl (Nat.zero_le _) (Nat.zero_le _)
  simpa using this
theorem l2of_tx (ws : List (List UInt8)) (hl : ws.length ≤ 262144) (hs : ∀ w ∈ ws, w.length ≤ 262144) : l2of.f (ws.map tx) = some (ofW ws) := by
  unfold l2of.f
  have e : (ws.map tx).map ByteArray.toList = ws := by rw [List.map_map, show (ByteArray.toList ∘ tx) = id from funext zbb, List.map_id]
  have hb : ∀ b ∈ ws.map tx, b.toList.length ≤ 262144 := fun b hb => by
    obtain ⟨w, hw, rfl⟩ := List.mem_map.1 hb
    rw [zbb]; exact hs w hw
  rw [e, if_pos ⟨⟨by simpa using hl, hb⟩, prefW_tail ws⟩]
theorem pxG_ofW {W : List (List UInt8)} (hL : Let W) (h12 : ∀ p ∈ zha W, p.length ≤ 12) (m : Nat) : ∀ (i : Nat) (s : List UInt8) (hi : i < (zha W).length), i < m → ((zha W)[i]).length + s.length ≤ 12 →
    pxG (ofW W) m (i : Int) s = (zha W)[i] ++ s := by
  have hlen : (ofW W).length = (zha W).length := by simp [ofW, zTa]
  induction m with
  | zero => intro i s hi h; omega
  | succ m ih =>
    intro i s hi hm hs
    unfold pxG
    by_cases h0 : i = 0
    · subst h0
      rw [if_neg (by simp), if_pos (by simp)]
      obtain ⟨t, e, _⟩ := prefW_head W
      have : (zha W)[0] = [] := by simp [e]
      rw [this]; rfl
    · have hn : zl (ofW W) (i : Int) = nodeP (zha W) W i := by
        rw [rd_node _ i (by omega)]; simp [ofW, zTa]
      obtain ⟨j, hj, h1, h2, h3⟩ := nodeP_at hL i h0 hi
      rw [if_pos ⟨by omega, by omega⟩, hn, if_pos h2, h1, if_neg (by omega)]
      have hjl : ((zha W)[j]'(by omega)).length + 1 = ((zha W)[i]).length := by rw [← h3]; simp
      rw [ih j _ (by omega) (by omega) (by simp; omega), ← h3]
      simp
theorem pxs_ofW {W : List (List UInt8)} (h : OkW W) : pxs (ofW W) = zha W := by
  have hlen : (ofW W).length = (zha W).length := by simp [ofW, zTa]
  apply List.ext_getElem
  · rw [pxs_length, hlen]
  · intro i h1 h2
    have e : (pxs (ofW W))[i] = px (ofW W) i := by simp [pxs]
    rw [e]
    unfold px
    rw [pxG_ofW h.lets h.bound.2 (i + 1) i [] h2 (by omega) (by have := h.bound.2 _ (List.getElem_mem h2); simpa using this)]
    simp
theorem wordsX_ofW {W : List (List UInt8)} (h : OkW W) : wordsX (ofW W) = W := by
  unfold wordsX
  rw [pxs_ofW h, h.words]
/-- The reference's answer. -/
theorem specTrie_ev (ns : List zL) (hn : ns.length ≤ 1000000) : Ev (fun k => zea.f k ns) (validB ns) := by
  unfold zea.f
  simp only [l1In_f, Option.bind_some, decide_eq_true_eq]
  by_cases hl : (1 : Int) ≤ (ns.length : Int) ∧ (ns.length : Int) ≤ 481
  · refine Ev.pos hl (Ev.bind (specWords_ev ns hn) (Ev.bind (l2Set_ev (wordsX ns) (by have := wordsN_length (pxs ns) ns; unfold wordsX; omega) (fun x hx => by have := wordsX_short ns x hx; omega)) ?_))
    have hXl : (wordsX ns).length ≤ 481 := by have := wordsN_length (pxs ns) ns; unfold wordsX; omega
    unfold setR
    by_cases hw : ∀ x ∈ wordsX ns, WordW x
    · rw [if_pos hw]
      dsimp only
      by_cases h40 : (setP (wordsX ns)).length ≤ 40
      · have hok : OkW (setP (wordsX ns)) := ⟨asc_setP _, fun w hw' => hw w ((mem_setP _ w).1 hw'), h40⟩
        have hof := l2of_tx (setP (wordsX ns)) (by omega) (fun w hw' => by have := (hok.wrd w hw').1; omega)
        rw [hof]
        simp only [Option.bind_some]
        refine Ev.pos (by simpa using h40) ?_
        have hofl : (ofW (setP (wordsX ns))).length ≤ 481 := by
          have : (ofW (setP (wordsX ns))).length = (zha (setP (wordsX ns))).length := by simp [ofW, zTa]
          rw [this]; exact hok.bound.1
        refine Ev.bind (same_ev _ ns (by omega)) (Ev.const ?_)
        congr 1
        rw [Bool.eq_iff_iff, decide_eq_true_eq, validB_iff]
        constructor
        · exact fun e => ⟨_, hok, e.symm⟩
        · rintro ⟨W, hW, rfl⟩
          rw [wordsX_ofW hW, setP_of_asc hW.asc]
      · refine Ev.neg (by simpa using h40) (Ev.const ?_)
        congr 1
        symm
        rw [Bool.eq_false_iff, ne_eq, validB_iff]
        rintro ⟨W, hW, rfl⟩
        rw [wordsX_ofW hW, setP_of_asc hW.asc] at h40
        exact h40 hW.few
    · rw [if_neg hw]
      refine Ev.neg (by simp) (Ev.const ?_)
      congr 1
      symm
      rw [Bool.eq_false_iff, ne_eq, validB_iff]
      rintro ⟨W, hW, rfl⟩
      rw [wordsX_ofW hW] at hw
      exact hw hW.wrd
  · refine Ev.neg hl (Ev.const ?_)
    congr 1
    symm
    rw [Bool.eq_false_iff, ne_eq, validB_iff]
    rintro ⟨W, hW, rfl⟩
    have : (ofW W).length = (zha W).length := by simp [ofW, zTa]
    have h1 := hW.bound.1
    have h2 := prefW_pos W
    omega
end Go.Proofs.YtfabennfhmlihaaGreatDoor.P
end
section
namespace Go.Proofs.YtfabennfhmlihaaGreatDoor.P
open Go Go.RowKit Go.Proofs.YtfabennfhmlihaaGreatDoorW.zJ Go.Proofs.YtfabennfhmlihaaGreatDoorW.zU Go.Proofs.YtfabennfhmlihaaGreatDoorW.PrintMore
set_option linter.unusedVariables false
theorem size_toList (b : ByteArray) : b.toList.length = b.size := by
  conv => rhs; rw [tx_surj b, zMa]
theorem trie_ok {c : List Int} (hc : Bytes c) (a s : Int) (h0 : 0 ≤ a) (h1 : a ≤ 4611686018427340000) :
    Dr (fun k => zP.f k c a s) a 800 (fun t => t.length ≤ 1000) := by
  obtain ⟨r, a1, s1, hr, ⟨hrl, hrs⟩, ha1⟩ := words_ok hc a s h0 (by omega)
  obtain ⟨ws, hws⟩ : ∃ ws, ws = r.map ByteArray.toList := ⟨_, rfl⟩
  have hrw : r = ws.map tx := by rw [hws]; exact map_tx_surj r
  have hwl : ws.length ≤ 100 := by rw [hws]; simpa using hrl
  have hw25 : ∀ w ∈ ws, w.length ≤ 25 := by
    intro w hw
    rw [hws] at hw
    obtain ⟨b, hb, rfl⟩ := List.mem_map.1 hw
    rw [size_toList]; exact hrs b hb
  have hset := l2Set_ev ws (by omega) (fun x hx => by have := hw25 x hx; omega)
  rw [hrw] at hr
  unfold setR at hset
  by_cases hgood : (∀ x ∈ ws, WordW x) ∧ (setP ws).length ≤ 40
  · rw [if_pos hgood.1] at hset
    have hok : OkW (setP ws) := ⟨asc_setP _, fun w hw => hgood.1 w ((mem_setP _ w).1 hw), hgood.2⟩
    have hof := l2of_tx (setP ws) (by have := hgood.2; omega) (fun w hw => by have := (hok.wrd w hw).1; omega)
    obtain ⟨t, ht⟩ : ∃ t, t = ofW (setP ws) := ⟨_, rfl⟩
    have htl : 1 ≤ t.length ∧ t.length ≤ 481 := by
      have e : t.length = (zha (setP ws)).length := by rw [ht]; simp [ofW, zTa]
      have := hok.bound.1
      have := prefW_pos (setP ws)
      omega
    rw [← ht] at hof
    obtain ⟨x, a2, s2, e2, hx, ha2⟩ := pick_ok hc a1 s1 60 (by omega) (by omega) (by omega)
    have pre : ∀ {res : List zL × Int × Int}, Ev (fun k => (some (x, a2, s2)).bind fun bt215 => (if bt215.1 = 0 then ((zK.f c bt215.2.1 bt215.2.2 (t.length : Int)).bind fun bt218 => ((zM.f c bt218.2.1 bt218.2.2 2).bind fun bt221 => (if 0 ≤ bt218.1 then (if bt218.1 < (t.length : Int) then (some ((t.set (bt218.1 : Int).toNat (⟨(zl t bt218.1).f0, (zl t bt218.1).f1, bt221.1⟩ : zL)), bt221.2.1, bt221.2.2)) else (none)) else (none)))) else (if bt215.1 = 1 then ((zK.f c bt215.2.1 bt215.2.2 (t.length : Int)).bind fun bt225 => ((zaa.f c bt225.2.1 bt225.2.2 (([(-1), 26, 0, 3] : List Int))).bind fun bt231 => (if 0 ≤ bt225.1 then (if bt225.1 < (t.length : Int) then (some ((t.set (bt225.1 : Int).toNat (⟨bt231.1, (zl t bt225.1).f1, (zl t bt225.1).f2⟩ : zL)), bt231.2.1, bt231.2.2)) else (none)) else (none)))) else (if bt215.1 = 2 then ((zK.f c bt215.2.1 bt215.2.2 (t.length : Int)).bind fun bt235 => ((zaa.f c bt235.2.1 bt235.2.2 (([(-1), 0, 1, (t.length : Int)] : List Int))).bind fun bt241 => (if 0 ≤ bt235.1 then (if bt235.1 < (t.length : Int) then (some ((t.set (bt235.1 : Int).toNat (⟨(zl t bt235.1).f0, bt241.1, (zl t bt235.1).f2⟩ : zL)), bt241.2.1, bt241.2.2)) else (none)) else (none)))) else (if bt215.1 = 3 then ((zM.f c bt215.2.1 bt215.2.2 2).bind fun bt245 => (if t.length < 5864062014805 then (some ((t ++ [(⟨25, 0, bt245.1⟩ : zL)]), bt245.2.1, bt245.2.2)) else (none))) else (some (t, bt215.2.1, bt215.2.2))))))) res → Ev (fun k => zP.f k c a s) res := by
      intro res h
      unfold zP.f
      refine Ev.bind hr (Ev.bind hset (Ev.pos (by simpa using hgood.2) ?_))
      dsimp only
      rw [hof]
      simp only [Option.bind_some, e2]
      simpa only [Option.bind_some] using h
    simp only [Option.bind_some] at pre
    by_cases x0 : x = 0
    · obtain ⟨q, a3, s3, e3, hq, ha3⟩ := pick_ok hc a2 s2 (t.length : Int) (by omega) (by omega) (by omega)
      obtain ⟨y, a4, s4, e4, ha4⟩ := one_ok hc a3 s3 2 (by omega) (by omega) (by omega)
      refine ⟨t.set q.toNat ⟨(zl t q).f0, (zl t q).f1, y⟩, a4, s4, pre (Ev.pos x0 ?_), ?_, by omega, by omega⟩
      · simp only [e3, e4, Option.bind_some]
        exact Ev.pos hq.1 (Ev.pos hq.2 (Ev.const rfl))
      · show List.length _ ≤ _; rw [List.length_set]; omega
    · by_cases x1 : x = 1
      · obtain ⟨q, a3, s3, e3, hq, ha3⟩ := pick_ok hc a2 s2 (t.length : Int) (by omega) (by omega) (by omega)
        obtain ⟨y, a4, s4, e4, _, ha4⟩ := among_ok hc a3 s3 [-1, 26, 0, 3] (by omega) (by omega) (by simp)
        refine ⟨t.set q.toNat ⟨y, (zl t q).f1, (zl t q).f2⟩, a4, s4, pre (Ev.neg x0 (Ev.pos x1 ?_)), ?_, by omega, by omega⟩
        · simp only [e3, e4, Option.bind_some]
          exact Ev.pos hq.1 (Ev.pos hq.2 (Ev.const rfl))
        · show List.length _ ≤ _; rw [List.length_set]; omega
      · by_cases x2 : x = 2
        · obtain ⟨q, a3, s3, e3, hq, ha3⟩ := pick_ok hc a2 s2 (t.length : Int) (by omega) (by omega) (by omega)
          obtain ⟨y, a4, s4, e4, _, ha4⟩ := among_ok hc a3 s3 [-1, 0, 1, (t.length : Int)] (by omega) (by omega) (by simp)
          refine ⟨t.set q.toNat ⟨(zl t q).f0, y, (zl t q).f2⟩, a4, s4, pre (Ev.neg x0 (Ev.neg x1 (Ev.pos x2 ?_))), ?_, by omega, by omega⟩
          · simp only [e3, e4, Option.bind_some]
            exact Ev.pos hq.1 (Ev.pos hq.2 (Ev.const rfl))
          · show List.length _ ≤ _; rw [List.length_set]; omega
        · by_cases x3 : x = 3
          · obtain ⟨y, a4, s4, e4, ha4⟩ := one_ok hc a2 s2 2 (by omega) (by omega) (by omega)
            refine ⟨t ++ [⟨25, 0, y⟩], a4, s4, pre (Ev.neg x0 (Ev.neg x1 (Ev.neg x2 (Ev.pos x3 ?_)))), ?_, by omega, by omega⟩
            · simp only [e4, Option.bind_some]
              exact Ev.pos (by omega) (Ev.const rfl)
            · show List.length _ ≤ _; rw [List.length_append, List.length_singleton]; omega
          · exact ⟨t, a2, s2, pre (Ev.neg x0 (Ev.neg x1 (Ev.neg x2 (Ev.neg x3 (Ev.const rfl))))), by omega, by omega, by omega⟩
  · refine ⟨[], a1, s1, ?_, by simp, by omega, by omega⟩
    unfold zP.f
    refine Ev.bind hr (Ev.bind hset (Ev.neg ?_ (Ev.const rfl)))
    by_cases hw : ∀ x ∈ ws, WordW x
    · rw [if_pos hw]
      simp only [decide_eq_true_eq]
      exact fun h => hgood ⟨hw, h⟩
    · rw [if_neg hw]; simp
theorem px_ofW_short (t : List zL) (i : Nat) : (px t i).length ≤ 13 := pxG_length t _ _ _ (by simp)
theorem wordOf_ok {c : List Int} (hc : Bytes c) (t : List zL) (ht : t.length ≤ 1000) (a s : Int) (h0 : 0 ≤ a) (h1 : a ≤ 4611686018427341000) :
    Dr (fun k => zN.f k c a s t) a 100 (fun w => w.size ≤ 100) := by
  -- the two ways behind
  have wrd : ∀ (a2 s2 : Int), a ≤ a2 → a2 ≤ a + 2 → ∃ r a' s', Ev (fun k => zN.j0 k (t.length : Int) false c a2 s2 t) (r, a', s') ∧ r.size ≤ 100 ∧ (a ≤ a' ∧ a' ≤ a + 100) := by
    intro a2 s2 h2 h3
    obtain ⟨r, a', s', hr, hp, ha⟩ := word_ok hc a2 s2 (by omega) (by omega)
    refine ⟨r, a', s', Ev.succ ?_, by omega, by omega, by omega⟩
    simp only [zN.j0]
    exact Ev.neg (by simp) (Ev.bind hr (Ev.const rfl))
  have pfx : ∀ (a2 s2 : Int), 0 < t.length → a ≤ a2 → a2 ≤ a + 2 → ∃ r a' s', Ev (fun k => zN.j0 k (t.length : Int) true c a2 s2 t) (r, a', s') ∧ r.size ≤ 100 ∧ (a ≤ a' ∧ a' ≤ a + 100) := by
    intro a2 s2 hl h2 h3
    obtain ⟨q, a3, s3, e3, hq, ha3⟩ := pick_ok hc a2 s2 (t.length : Int) (by omega) (by omega) (by omega)
    obtain ⟨y, a4, s4, e4, ha4⟩ := one_ok hc a3 s3 4 (by omega) (by omega) (by omega)
    obtain ⟨i, rfl⟩ : ∃ i : Nat, q = i := ⟨q.toNat, by omega⟩
    have hpx := prefix_ev t i (by omega) (by omega)
    have hps := px_ofW_short t i
    have end_ : ∀ d : Bool, ∃ r a' s', Ev (fun k => zN.j1 k (tx (px t i)) d c a4 s4) (r, a', s') ∧ r.size ≤ 100 ∧ (a ≤ a' ∧ a' ≤ a + 100) := by
      intro d
      cases d with
      | false =>
        refine ⟨tx (px t i), a4, s4, Ev.succ ?_, by rw [zMa]; omega, by omega, by omega⟩
        simp only [zN.j1]
        exact Ev.neg (by simp) (Ev.const rfl)
      | true =>
        obtain ⟨b, a5, s5, e5, hb, ha5⟩ := of_ok hc a4 s4 ([(⟨#[97]⟩ : ByteArray), ⟨#[98]⟩, ⟨#[99]⟩]) (by omega) (by omega) (by simp)
        have hbs : b.size = 1 := by
          simp only [List.mem_cons, List.not_mem_nil, or_false] at hb
          rcases hb with rfl | rfl | rfl <;> decide
        refine ⟨tx (px t i) ++ b, a5, s5, Ev.succ ?_, by rw [ByteArray.size_append, zMa]; omega, by omega, by omega⟩
        simp only [zN.j1, e5, Option.bind_some]
        exact Ev.pos (by simp) (Ev.pos (by rw [zMa]; omega) (Ev.const rfl))
    cases y with
    | true =>
      obtain ⟨r, a', s', hr, hp, ha⟩ := end_ (decide (((tx (px t i)).size : Int) < 12))
      refine ⟨r, a', s', Ev.succ ?_, hp, ha⟩
      simp only [zN.j0, e3, Option.bind_some]
      refine Ev.pos (by simp) (Ev.bind hpx ?_)
      simp only [e4, Option.bind_some]
      exact Ev.pos (by simp) hr
    | false =>
      obtain ⟨r, a', s', hr, hp, ha⟩ := end_ false
      refine ⟨r, a', s', Ev.succ ?_, hp, ha⟩
      simp only [zN.j0, e3, Option.bind_some]
      refine Ev.pos (by simp) (Ev.bind hpx ?_)
      simp only [e4, Option.bind_some]
      exact Ev.neg (by simp) hr
  unfold Dr zN.f
  by_cases hl : (t.length : Int) > 0
  · obtain ⟨y, a1, s1, e1, ha1⟩ := one_ok hc a s 3 h0 (by omega) (by omega)
    cases y with
    | true =>
      obtain ⟨r, a', s', hr, hp, ha⟩ := wrd a1 s1 (by omega) (by omega)
      refine ⟨r, a', s', Ev.pos hl ?_, hp, ha⟩
      simp only [e1, Option.bind_some]
      exact Ev.pos (by simp) hr
    | false =>
      cases hv : validB t with
      | true =>
        obtain ⟨r, a', s', hr, hp, ha⟩ := pfx a1 s1 (by omega) (by omega) (by omega)
        refine ⟨r, a', s', Ev.pos hl ?_, hp, ha⟩
        simp only [e1, Option.bind_some]
        refine Ev.neg (by simp) (Ev.bind (specTrie_ev t (by omega)) ?_)
        rw [hv]; exact hr
      | false =>
        obtain ⟨r, a', s', hr, hp, ha⟩ := wrd a1 s1 (by omega) (by omega)
        refine ⟨r, a', s', Ev.pos hl ?_, hp, ha⟩
        simp only [e1, Option.bind_some]
        refine Ev.neg (by simp) (Ev.bind (specTrie_ev t (by omega)) ?_)
        rw [hv]; exact hr
  · obtain ⟨r, a', s', hr, hp, ha⟩ := wrd a s (by omega) (by omega)
    exact ⟨r, a', s', Ev.neg hl hr, hp, ha⟩
end Go.Proofs.YtfabennfhmlihaaGreatDoor.P
end
section
namespace Go.Proofs.YtfabennfhmlihaaGreatDoor.P
open Go
set_option linter.unusedVariables false
theorem lcpW_best : ∀ p a b : List UInt8, p <+: a → p <+: b → p <+: lcpW a b
  | [], _, _, _, _ => List.nil_prefix
  | x :: p, [], _, h, _ => by simp at h
  | x :: p, _ :: _, [], _, h => by simp at h
  | x :: p, a :: s, b :: t, h1, h2 => by
    obtain ⟨e1, h3⟩ := List.cons_prefix_cons.1 h1
    obtain ⟨e2, h4⟩ := List.cons_prefix_cons.1 h2
    have e : a = b := e1.symm.trans e2
    simp only [lcpW]
    rw [if_pos e]
    exact List.cons_prefix_cons.2 ⟨e1, lcpW_best p s t h3 h4⟩
/-- What lies between two texts begins asx both do. -/
theorem lcpW_between : ∀ a x b : List UInt8, a ≤ x → x ≤ b → lcpW a b <+: x
  | [], _, _, _, _ => by simp [lcpW]
  | a :: s, _, [], _, _ => by simp [lcpW]
  | a :: s, [], b :: t, h, _ => by
    exfalso
    rcases List.le_iff_lt_or_eq.1 h with h | h
    · simp at h
    · simp at h
  | a :: s, x :: y, b :: t, h1, h2 => by
    simp only [lcpW]
    split
    · rename_i e
      subst e
      rw [List.cons_le_cons_iff] at h1 h2
      have hx : a = x := by
        rcases h1 with h1 | h1
        · rcases h2 with h2 | h2
          · exact absurd (UInt8.lt_trans h1 h2) (UInt8.lt_irrefl _)
          · exact h2.1.symm
        · exact h1.1
      subst hx
      have h1' : s ≤ y := by
        rcases h1 with h1 | h1
        · exact absurd h1 (UInt8.lt_irrefl _)
        · exact h1.2
      have h2' : y ≤ t := by
        rcases h2 with h2 | h2
        · exact absurd h2 (UInt8.lt_irrefl _)
        · exact h2.2
      exact List.cons_prefix_cons.2 ⟨rfl, lcpW_between s y t h1' h2'⟩
    · exact List.nil_prefix
/-- The common beginning of a list. -/
def sharedW (U : List (List UInt8)) : List UInt8 := lcpW (U.headD []) (U.getLastD [])
theorem headD_mem {U : List (List UInt8)} (h : U ≠ []) : U.headD [] ∈ U := by
  cases U with
  | nil => exact absurd rfl h
  | cons a t => simp
theorem getLastD_mem {U : List (List UInt8)} (h : U ≠ []) : U.getLastD [] ∈ U := by
  have hp := List.length_pos_iff.2 h
  rw [List.getLastD_eq_getLast?, List.getLast?_eq_getElem?, List.getElem?_eq_getElem (show U.length - 1 < U.length by omega)]
  exact List.getElem_mem _
theorem head_le {U : List (List UInt8)} (ha : Asc U) {x : List UInt8} (hx : x ∈ U) : U.headD [] ≤ x := by
  cases U with
  | nil => simp at hx
  | cons a t =>
    rcases List.mem_cons.1 hx with rfl | hx
    · exact List.le_refl _
    · exact List.le_of_lt ((List.pairwise_cons.1 ha).1 x hx)
theorem le_last {U : List (List UInt8)} (ha : Asc U) {x : List UInt8} (hx : x ∈ U) : x ≤ U.getLastD [] := by
  have hne : U ≠ [] := by rintro rfl; simp at hx
  have hp := List.length_pos_iff.2 hne
  rw [List.getLastD_eq_getLast?, List.getLast?_eq_getElem?, List.getElem?_eq_getElem (show U.length - 1 < U.length by omega)]
  show x ≤ U[U.length - 1]
  obtain ⟨i, hi, rfl⟩ := List.getElem_of_mem hx
  rcases Nat.lt_or_ge i (U.length - 1) with h | h
  · exact List.le_of_lt (List.pairwise_iff_getElem.1 ha i (U.length - 1) hi (by omega) h)
  · have : i = U.length - 1 := by omega
    subst this; exact List.le_refl _
theorem sharedW_all {U : List (List UInt8)} (ha : Asc U) {x : List UInt8} (hx : x ∈ U) : sharedW U <+: x :=
  lcpW_between _ _ _ (head_le ha hx) (le_last ha hx)
theorem sharedW_best {U : List (List UInt8)} (hne : U ≠ []) {p : List UInt8} (h : ∀ x ∈ U, p <+: x) : p <+: sharedW U :=
  lcpW_best _ _ _ (h _ (headD_mem hne)) (h _ (getLastD_mem hne))
theorem mem_underW {W : List (List UInt8)} {p x : List UInt8} : x ∈ zJa W p ↔ x ∈ W ∧ p <+: x := by
  unfold zJa; rw [List.mem_filter, List.isPrefixOf_iff_prefix]
theorem asc_underW {W : List (List UInt8)} (h : Asc W) (p : List UInt8) : Asc (zJa W p) := asc_filter h _
theorem underW_nil (W : List (List UInt8)) : zJa W [] = W := by
  unfold zJa
  rw [List.filter_eq_self]
  intro x _; simp
theorem underW_all {W : List (List UInt8)} {p : List UInt8} (h : ∀ x ∈ W, p <+: x) : zJa W p = W := by
  unfold zJa
  rw [List.filter_eq_self]
  intro x hx
  rw [List.isPrefixOf_iff_prefix]; exact h x hx
theorem underW_shared {W : List (List UInt8)} (ha : Asc W) (p : List UInt8) (hne : zJa W p ≠ []) : zJa W (sharedW (zJa W p)) = zJa W p := by
  refine asc_unique (asc_underW ha _) (asc_underW ha _) (fun x => ?_)
  rw [mem_underW, mem_underW]
  constructor
  · rintro ⟨hx, h⟩
    exact ⟨hx, (sharedW_best hne (fun y hy => (mem_underW.1 hy).2)).trans h⟩
  · rintro ⟨hx, h⟩
    exact ⟨hx, sharedW_all (asc_underW ha p) (mem_underW.2 ⟨hx, h⟩)⟩
/-- The shortest beginning of w, n letters ahead, that begins one word; or w. -/
def uniqG (W : List (List UInt8)) (w : List UInt8) : Nat → Nat → List UInt8
  | 0, _ => w
  | m + 1, n => if (zJa W (w.take n)).length = 1 then w.take n else uniqG W w m (n + 1)
def uniqW (W : List (List UInt8)) (w : List UInt8) : List UInt8 := uniqG W w w.length 0
theorem uniqG_spec (W : List (List UInt8)) (w : List UInt8) (m : Nat) : ∀ n, n + m = w.length → (∀ j, j < n → (zJa W (w.take j)).length ≠ 1) →
    ∃ n', n' ≤ w.length ∧ uniqG W w m n = w.take n' ∧ (∀ j, j < n' → (zJa W (w.take j)).length ≠ 1) ∧ (n' < w.length → (zJa W (w.take n')).length = 1) := by
  induction m with
  | zero =>
    intro n hn h
    refine ⟨n, by omega, ?_, h, fun hlt => by omega⟩
    unfold uniqG
    rw [show n = w.length by omega, List.take_length]
  | succ m ih =>
    intro n hn h
    unfold uniqG
    split
    · rename_i h1
      exact ⟨n, by omega, rfl, h, fun _ => h1⟩
    · rename_i h1
      exact ih (n + 1) (by omega) (fun j hj => by
        rcases Nat.lt_or_ge j n with h2 | h2
        · exact h j h2
        · obtain rfl : j = n := by omega
          exact h1)
theorem uniqW_spec (W : List (List UInt8)) (w : List UInt8) : ∃ n', n' ≤ w.length ∧ uniqW W w = w.take n' ∧ (∀ j, j < n' → (zJa W (w.take j)).length ≠ 1) ∧ (n' < w.length → (zJa W (w.take n')).length = 1) :=
  uniqG_spec W w w.length 0 (by omega) (fun j hj => by omega)
end Go.Proofs.YtfabennfhmlihaaGreatDoor.P
end
section
namespace Go.Proofs.YtfabennfhmlihaaGreatDoor.P
open Go Go.RowKit Go.Maps Go.Proofs.YtfabennfhmlihaaGreatDoorW.zJ Go.Proofs.YtfabennfhmlihaaGreatDoorW.zU Go.Proofs.YtfabennfhmlihaaGreatDoorW.PrintMore
set_option linter.unusedVariables false
def impl_trieOf.f (l0 : List ByteArray) : Option (List zL) :=
  if (l0.length ≤ 262144 ∧ (∀ b ∈ l0, b.toList.length ≤ 262144)) ∧ (l0.map ByteArray.toList).Pairwise (· ≤ ·) then some (ofW (l0.map ByteArray.toList)) else none
/-- The beginnings of w, of 1 to k letters. -/
def begsL (w : List UInt8) (k : Nat) : List (List UInt8) := (List.range k).map fun j => w.take (j + 1)
theorem begsL_succ (w : List UInt8) (k : Nat) : begsL w (k + 1) = begsL w k ++ [w.take (k + 1)] := by simp [begsL, List.range_succ]
/-- The empty text and all beginnings of the first n words, asx they come. -/
def preL (ws : List (List UInt8)) (n : Nat) : List (List UInt8) := [] :: (ws.take n).flatMap fun w => begsL w w.length
theorem preL_zero (ws : List (List UInt8)) : preL ws 0 = [[]] := rfl
theorem preL_succ (ws : List (List UInt8)) (n : Nat) (h : n < ws.length) : preL ws (n + 1) = preL ws n ++ begsL (ws.getD n []) (ws.getD n []).length := by
  unfold preL
  rw [List.take_succ_eq_append_getElem h, List.flatMap_append, List.flatMap_singleton, List.cons_append, List.getD_eq_getElem?_getD, List.getElem?_eq_getElem h]; rfl
theorem preL_length (ws : List (List UInt8)) (M : Nat) (hs : ∀ x ∈ ws, x.length ≤ M) (n : Nat) (hn : n ≤ ws.length) : (preL ws n).length ≤ 1 + n * M := by
  induction n with
  | zero => simp [preL_zero]
  | succ n ih =>
    have hm : (ws.getD n []).length ≤ M := hs _ (by rw [List.getD_eq_getElem?_getD, List.getElem?_eq_getElem (by omega)]; exact List.getElem_mem _)
    have := ih (by omega)
    rw [preL_succ ws n (by omega), List.length_append, Nat.succ_mul]
    simp only [begsL, List.length_map, List.length_range]
    omega
theorem mem_preL (ws : List (List UInt8)) (x : List UInt8) : x ∈ preL ws ws.length ↔ x = [] ∨ ∃ w ∈ ws, x <+: w := by
  unfold preL begsL
  rw [List.take_length, List.mem_cons, List.mem_flatMap]
  constructor
  · rintro (h | ⟨w, hw, h⟩)
    · exact .inl h
    · obtain ⟨j, hj, rfl⟩ := List.mem_map.1 h
      exact .inr ⟨w, hw, List.take_prefix _ _⟩
  · rintro (h | ⟨w, hw, h⟩)
    · exact .inl h
    · rcases (prefix_take x w).1 h with h | ⟨j, h1, h2, rfl⟩
      · exact .inl h
      · exact .inr ⟨w, hw, List.mem_map.2 ⟨j - 1, List.mem_range.2 (by omega), by rw [show j - 1 + 1 = j by omega]⟩⟩
theorem setW_preL (ws : List (List UInt8)) : setW (preL ws ws.length) = zha ws :=
  asc_unique (asc_setW _) (asc_prefW ws) (fun x => by rw [mem_setW, mem_preL, mem_prefW])
/-- The places after i texts. -/
def plD (P : List (List UInt8)) : Nat → DataW Unit
  | 0 => .map []
  | i + 1 => (plD P i).put (.string (P.getD i [])) (.lit (.int .i64 i))
theorem plD_map (P : List (List UInt8)) (i : Nat) : IsMap (plD P i) := by
  induction i with
  | zero => exact ⟨[], rfl⟩
  | succ i ih => exact ih.put _ _
theorem plD_get (P : List (List UInt8)) (hP : P.Nodup) (z : DataW Unit) (i : Nat) (hi : i ≤ P.length) (j : Nat) (hj : j < i) : (plD P i).atKey (.string (P.getD j [])) z = .lit (.int .i64 j) := by
  induction i with
  | zero => omega
  | succ i ih =>
    rcases Nat.lt_or_ge j i with h | h
    · have hne : P.getD j [] ≠ P.getD i [] := by
        rw [List.getD_eq_getElem?_getD, List.getD_eq_getElem?_getD, List.getElem?_eq_getElem (by omega), List.getElem?_eq_getElem (by omega)]
        exact List.pairwise_iff_getElem.1 hP j i (by omega) (by omega) h
      rw [plD, atKey_put_other (fun e => hne (by injection e))]
      exact ih (by omega) h
    · obtain rfl : j = i := by omega
      rw [plD, atKey_put_same (plD_map P j) (by trivial)]
theorem R_ne_map {α : Type} {d : Kd α} {e : Nat} {w : World} {base : Nat} {ok : Nat → Prop} {v : Value} {xs : List α} (h : Kd.R d e w base ok v xs) {mb : Nat} {es ck} (hm : w.heap[mb]? = some (.map es ck)) : some mb ≠ v.ownBlock := by
  intro e'
  obtain ⟨cells, hc⟩ := Kd.R_typed h mb e'.symm
  rw [hm] at hc; cases hc
theorem R_turned {α : Type} {d : Kd α} {e : Nat} {w w' : World} {base : Nat} {v : Value} {xs : List α} (h : Kd.R d e w base (fun _ => True) v xs) {mb : Nat} {es ck} (hm : w.heap[mb]? = some (.map es ck)) (hg : w.grownBy w' (some mb)) : Kd.R d e w' base (fun _ => True) v xs :=
  Kd.zZ (Kd.R_grown (Kd.R_bound h) hg (fun k hk e => by
    cases e
    obtain ⟨_, _, _, q, _, cells, hc⟩ := hk
    rw [hm] at hc; cases hc)) (fun _ _ => trivial)
theorem OfK.turned {w W W' : World} {g : Nat} {vP : Value} {P : List (List UInt8)} {vN : Value} {ns : List zL} (h : OfK w W g vP P vN ns) {mb : Nat} {es ck} (hm : W.heap[mb]? = some (.map es ck)) (hg : W.grownBy W' (some mb)) (hb : w.heap.size ≤ mb) : OfK w W' g vP P vN ns where
  pre := R_turned h.pre hm hg
  box := blk_grown h.box hg (fun e => by cases e; have := h.box; rw [hm] at this; cases this)
  nod := R_turned h.nod hm hg
  bel := h.bel.grown hg h.bel.size (fun k e => by cases e; exact hb)
  old := h.old
  res := blk_grown h.res hg (fun e => by cases e; have := h.res; rw [hm] at this; cases this)
/-- The map of places. -/
abbrev Pl (W : World) (mb i : Nat) (P : List (List UInt8)) : Prop := W.ownsMap Tryz.prog 9 (plainElem (H := Unit) Tryz.prog 3) mb i (plD P i)
theorem Pl.same {W W' : World} {mb i : Nat} {P : List (List UInt8)} (h : Pl W mb i P) (he : W'.heap[mb]? = W.heap[mb]?) : Pl W' mb i P := by
  obtain ⟨es, ck, hb, r⟩ := h
  exact ⟨es, ck, he.trans hb, r⟩
theorem Pl.lt {W : World} {mb i : Nat} {P : List (List UInt8)} (h : Pl W mb i P) : mb < W.heap.size := by
  obtain ⟨es, ck, hb, r⟩ := h
  exact blk_lt hb
theorem Pl.after {W W' : World} {mb i g : Nat} {P : List (List UInt8)} {row : Option Nat} {cs : Array Value} {t : TypeId} (h : Pl W mb i P) (hg : W.grownBy W' row) (hne : ∀ {es ck}, W.heap[mb]? = some (.map es ck) → some mb ≠ row) (hb : W.heap[g]? = some (.cells cs t (0, 0))) (v : Value) : Pl (W'.setCell ⟨g, 0, none⟩ v) mb i P := by
  have hs := h
  obtain ⟨es, ck, hm, r⟩ := h
  refine hs.same ?_
  rw [Below.heap_setCell W' ⟨g, 0, none⟩ v mb (by simp only [ne_eq]; rintro rfl; rw [hm] at hb; cases hb)]
  exact hg.block mb (blk_lt hm) (hne hm)
set_option maxHeartbeats 4000000 in
set_option maxRecDepth 100000 in
theorem impl_trieOf.calls (A0 : Option Addr) (c0 : Nat) (l0 : List ByteArray) (r : List zL) (w : World) (hr0 : Kd.C Kd.string w A0 l0.length l0) (hc0 : l0.length ≤ c0) (h : impl_trieOf.f l0 = some r) :
    Calls Tryz.prog 186 #[.slice A0 l0.length c0] w fun e w' => ∃ v0_ : Value, e = .returned (.agg #[v0_]) ∧ Kd.R zXa 73 w' w.heap.size (fun _ => True) v0_ r ∧ Below w.heap.size w w' := by
  unfold impl_trieOf.f at h
  split at h
  case isFalse => cases h
  rename_i hg
  obtain ⟨⟨hg1, hg2⟩, hg3⟩ := hg
  obtain rfl := Option.some.inj h
  clear h
  obtain ⟨ws, hws⟩ : ∃ ws, ws = l0.map ByteArray.toList := ⟨_, rfl⟩
  rw [← hws] at hg3 ⊢
  have hwl : ws.length = l0.length := by rw [hws]; simp
  have HM : zb (∀ x ∈ ws, x.length ≤ 262144) := ⟨by
    rw [hws]; intro x hx
    obtain ⟨b, hb, rfl⟩ := List.mem_map.1 hx
    exact hg2 b hb⟩
  have HL' : zb (l0 = ws.map tx) := ⟨by rw [hws]; exact map_tx_surj l0⟩
  have HE : zb (∀ i : Int, rdOf ByteArray.empty l0 i = tx (ws.getD i.toNat [])) := ⟨fun i => by rw [HL'.out]; exact rdOf_tx ws i⟩
  have HG := zb.mk hg3
  have HW := zb.mk hwl
  have HR0 := zb.mk hr0
  have HC0 := zb.mk hc0
  clear hg2 hg3 hws hwl hr0 hc0
  have hu26 := Tryz.underlying26
  have hu73 := Tryz.underlying73
  go_enter Tryz.func186, Tryz.ntmps186
  go_wp2
  have H0 : zb (OfI w ((w.alloc (.cells #[.slice none 0 0] 26)).alloc (.cells #[.string ⟨#[]⟩] 9)) w.heap.size (.slice (some ⟨w.heap.size + 1, 0, none⟩) 1 1) (preL ws 0)) := ⟨by
    refine ⟨?_, ?_, ?_⟩
    · have h := R_fresh Kd.string 9 (w.alloc (.cells #[.slice none 0 0] 26)) w.heap.size ([tx []] : List ByteArray) _ (fun _ => True) (Kd.reps_scalar _) trivial (by simp) (by simp)
      rw [size_alloc] at h
      exact h
    · exact zi (blk_new w _) _
    · exact ((Below.refl _ w).alloc (Nat.le_refl _) _).alloc (by simp) _⟩
  go_loopg [3, 17] l0.length (fun q v3 v17 W => ∃ n : Nat, n + q = l0.length ∧ v17 = .int .i64 n ∧ zb (OfI w W w.heap.size v3 (preL ws n)))
  case atStart => exact ⟨0, by omega, rfl, H0⟩
  case round =>
    obtain ⟨n, hn, rfl, HI⟩ := hrel
    clear H0
    by_cases hlt : n < l0.length
    · obtain ⟨ad, hA, hcell⟩ := Kd.zza HR0.out (n : Int) (by omega) (by omega)
      subst hA
      simp only [Int.toNat_natCast] at hcell
      have hcw := (HI.out.2.2.cell (World.block_lt_of_cell? w _ hcell)).trans hcell
      have hsz : (rdOf ByteArray.empty l0 (n : Int)).size ≤ 262144 := by
        rw [HE.out, zMa]
        refine HM.out _ ?_
        have := HW.out
        rw [List.getD_eq_getElem?_getD, List.getElem?_eq_getElem (by simp; omega)]; exact List.getElem_mem _
      have HEn := zb.mk (HE.out (n : Int))
      obtain ⟨E, hE⟩ : ∃ E, E = rdOf ByteArray.empty l0 (n : Int) := ⟨_, rfl⟩
      rw [← hE] at hcell hcw hsz HEn
      have HcE := zb.mk hcell
      clear hE hcell
      go_wp2
      go_loopg [3, 23] E.size (fun q v3 v23 W => ∃ k : Nat, k + q = E.size ∧ v23 = .int .i64 k ∧ zb (OfI w W w.heap.size v3 (preL ws n ++ begsL (ws.getD n []) k)))
      case atStart => exact ⟨0, by omega, rfl, ⟨by simpa [begsL] using HI.out⟩⟩
      case round =>
        obtain ⟨k, hk, rfl, HJ⟩ := hrel
        clear HI
        obtain ⟨L, hL⟩ : ∃ L, L = (preL ws n ++ begsL (ws.getD n []) k).map tx := ⟨_, rfl⟩
        have hLl : L.length ≤ 1 + 262144 * 262144 := by
          have h1 := preL_length ws 262144 HM.out n (by have := HW.out; omega)
          have h2 : n * 262144 + k ≤ 262144 * 262144 := by
            have h3 : (n + 1) * 262144 ≤ 262144 * 262144 := Nat.mul_le_mul_right _ (by omega)
            rw [Nat.succ_mul] at h3; omega
          rw [hL, List.length_map, List.length_append]
          simp only [begsL, List.length_map, List.length_range]
          omega
        have HR := zb.mk HJ.out.1
        rw [← hL] at HR
        have HLL := zb.mk hL
        have HLb := zb.mk hLl
        clear hL hLl
        obtain ⟨AJ, cJ, hJ⟩ := Kd.zpa HR.out
        subst hJ
        by_cases hkt : k < E.size
        · go_wp2_with ((with_reducible refine zZa (b := .append) (xs := #[.tmp 26, .tmp 31]) rfl ?_); at_builtin; refine Kd.R_append Kd.string (w0 := w) w.heap.size rfl (.tmp 26) (.tmp 31) 31 9 (.string ⟨#[]⟩) 16 rfl Tryz.underlying31 info9 rfl (by decide) (by omega) (.slice AJ L.length cJ) L (E.extract 0 (k + 1)) [.string (E.extract 0 (k + 1))] (fun _ => True) (fun _ => False) rfl (by first | rfl | (go_simp; done) | (go_simp; rfl)) rfl (fun _ hk => hk.elim) (fun _ _ => trivial) HR.out HJ.out.2.2 HJ.out.2.2.size ?aL ?_; (case aL => have := HLb.out; omega); intro v1 w4 ho hb hg hat; obtain ⟨A1, c1, e1⟩ := Kd.zpa ho; subst e1; have HK : zb (OfI w w4 w.heap.size (.slice A1 (L.length + 1) c1) (preL ws n ++ begsL (ws.getD n []) (k + 1))) := ⟨by rw [begsL_succ, ← List.append_assoc]; refine ⟨?_, blk_grown HJ.out.2.1 hg (Kd.R_ne HR.out HJ.out.2.1 (by decide)), hb⟩; rw [List.map_append, ← HLL.out, show [(ws.getD n []).take (k + 1)].map tx = [E.extract 0 (k + 1)] by rw [HEn.out, tx_extract]; simp]; have h9 := ho; rw [List.length_append] at h9; exact h9⟩; clear ho hb hg hat)
          go_roundg (E.size - (k + 1))
          case measure => omega
          case rel => exact ⟨k + 1, by omega, by simp, HK⟩
        · go_wp2
          go_roundg (l0.length - (n + 1))
          case measure => omega
          case rel => exact ⟨n + 1, by omega, by simp, ⟨by
            have hk' : k = (ws.getD n []).length := by
              have h2 : E.size = (ws.getD n []).length := by rw [HEn.out, zMa]; simp
              omega
            rw [preL_succ ws n (by have := HW.out; omega), ← hk']; exact HJ.out⟩⟩
    · obtain rfl : n = l0.length := by omega
      have HP : zb (OfI w wr w.heap.size u3 (preL ws ws.length)) := ⟨by have := HI.out; rwa [HW.out]⟩
      have HQ : zb ((preL ws ws.length).length ≤ 1 + 262144 * 262144) := ⟨by
        have h1 := preL_length ws 262144 HM.out ws.length (Nat.le_refl _)
        have h3 : ws.length * 262144 ≤ 262144 * 262144 := Nat.mul_le_mul_right _ (by rw [HW.out]; exact hg1)
        exact Nat.le_trans h1 (Nat.add_le_add_left h3 1)⟩
      clear HI
      obtain ⟨AP, cP, hv, hlc, hC⟩ := Kd.R_reads HP.out.1
      obtain ⟨L, hL⟩ : ∃ L, L = (preL ws ws.length).map tx := ⟨_, rfl⟩
      rw [← hL] at hv hlc hC
      subst hv
      have hset : setW (L.map ByteArray.toList) = zha ws := by
        rw [hL, List.map_map, show (ByteArray.toList ∘ tx) = id from funext zbb, List.map_id, setW_preL]
      have HS := zb.mk (set_calls AP cP L wr hC (by rw [hL, List.length_map]; have := HQ.out; omega))
      rw [hset] at HS
      have HC := zb.mk hC
      clear hC hset hL hlc
      have hmm := @run_makeMap Tryz.prog
      obtain ⟨M, hM⟩ : ∃ M, M = (zha ws).map tx := ⟨_, rfl⟩
      rw [← hM] at HS
      have hMl : M.length = (zha ws).length := by rw [hM, List.length_map]
      have HMM := zb.mk hM
      have HMl := zb.mk hMl
      clear hM hMl
      go_wp2_with (go_at_call 218; refine HS.out.mono ?_; rintro e w1 ⟨v1, rfl, ho, hb⟩; obtain ⟨A1, c1, e1⟩ := Kd.zpa ho; subst e1; have HO := zb.mk ho; have HB := zb.mk hb; clear ho hb)
      have HK : zb (OfK w ((w1.alloc (.map #[] 0)).alloc (.cells #[.slice none 0 0] 26)) (w1.heap.size + 1) (.slice A1 M.length c1) (zha ws) (.slice none 0 0) (zTa (zha ws) ws 0)) := ⟨by
        have hs1 := HP.out.2.2.size
        have hs2 := HB.out.size
        refine ⟨?_, ?_, ?_, ?_, ?_, ?_⟩
        · rw [← HMM.out]; exact Kd.zo (Kd.zo (Kd.zua HO.out hs1) _) _
        · have := blk_new (w1.alloc (.map #[] 0)) (.cells #[.slice none 0 0] 26 (0, 0))
          simpa using this
        · exact Kd.R_nil _ _ _ _ _
        · exact ((HP.out.2.2.trans (HB.out.mono hs1)).alloc (by omega) _).alloc (by simp; omega) _
        · omega
        · exact zi (zi (zG HP.out.2.1 HB.out) _) _⟩
      have HMp : zb (Pl ((w1.alloc (.map #[] 0)).alloc (.cells #[.slice none 0 0] 26)) w1.heap.size 0 (zha ws)) := ⟨by
        have := World.ownsMap_made (H := Unit) w1 Tryz.prog 9 (plainElem (H := Unit) Tryz.prog 3)
        exact Pl.same (P := zha ws) this (Below.heap_alloc _ _ _ (by simp))⟩
      have hmb : w.heap.size ≤ w1.heap.size := Nat.le_trans HP.out.2.2.size HB.out.size
      have hQP : zb ((zha ws).length ≤ 1 + 262144 * 262144 ∧ ∀ x ∈ zha ws, x.length ≤ 262144) := ⟨by
        have := prefsP_bound ws 262144 HM.out ws.length (Nat.le_refl _)
        refine ⟨Nat.le_trans this.1 ?_, this.2⟩
        have : ws.length * 262144 ≤ 262144 * 262144 := Nat.mul_le_mul_right _ (by rw [HW.out]; exact hg1)
        exact Nat.add_le_add_left this 1⟩
      obtain ⟨g, hg⟩ : ∃ g, g = w1.heap.size + 1 := ⟨_, rfl⟩
      obtain ⟨mb, hmb'⟩ : ∃ mb, mb = w1.heap.size := ⟨_, rfl⟩
      rw [← hg] at HK ⊢
      rw [← hmb'] at HMp hmb ⊢
      obtain ⟨w2, hw2⟩ : ∃ w2, w2 = (w1.alloc (.map #[] 0)).alloc (.cells #[.slice none 0 0] 26) := ⟨_, rfl⟩
      rw [← hw2] at HK HMp ⊢
      clear hg hmb' hw2 HO HB HP hmm HS HC
      have law : Keyed Tryz.prog 9 := string_keyed Tryz.underlying9
      go_loopg [41] M.length (fun q v41 W => ∃ (i : Nat) (vN : Value), i + q = M.length ∧ v41 = .int .i64 i ∧ zb (OfK w W g (.slice A1 M.length c1) (zha ws) vN (zTa (zha ws) ws i)) ∧ zb (Pl W mb i (zha ws)))
      case atStart => exact ⟨0, _, by omega, rfl, HK, HMp⟩
      case round =>
        obtain ⟨i, vN, hi, rfl, HL, HPl⟩ := hrel
        clear HK HMp
        obtain ⟨AN, cN, hvN⟩ := Kd.zpa HL.out.nod
        subst hvN
        by_cases hlt : i < M.length
        · have hltP : i < (zha ws).length := by rw [← HMl.out]; exact hlt
          have hC := (Kd.zQ HL.out.pre).2.2
          obtain ⟨ad, hA, hcell⟩ := Kd.zza hC (i : Int) (by omega) (by rw [List.length_map]; omega)
          subst hA
          rw [rdOf_tx] at hcell
          simp only [Int.toNat_natCast] at hcell
          obtain ⟨p, hp⟩ : ∃ p, p = (zha ws).getD i [] := ⟨_, rfl⟩
          rw [← hp] at hcell
          have hlp : p.length ≤ 262144 := hQP.out.2 p (by rw [hp, List.getD_eq_getElem?_getD, List.getElem?_eq_getElem hltP]; exact List.getElem_mem _)
          obtain ⟨E, hE⟩ : ∃ E, E = tx p := ⟨_, rfl⟩
          obtain ⟨rS, hrS⟩ := search_ev ws p HG.out (by rw [HW.out]; omega)
          obtain ⟨kh, hkh⟩ := hrS.get
          rw [← HL'.out, ← hE] at hkh
          obtain ⟨bE, hbE⟩ : ∃ b, b = decide (p ∈ ws) := ⟨_, rfl⟩
          rw [← hbE] at hkh
          have hkey : keyOf Tryz.prog 9 (.string E) = some (.string p) := by
            have := Go.WideMaps.keyOf_string_mk (P := Tryz.prog) (k := 9) (s := E) Tryz.underlying9 (by rw [hE, zMa]; simp only [maxLen]; omega)
            rw [this, hE]
          rw [← hE] at hcell
          have hHas := zb.mk hkh
          have hps := zb.mk (show E.size = p.length by rw [hE, zMa])
          have hpp := zb.mk hp
          have hEE := zb.mk hE
          have hbb := zb.mk hbE
          clear hE hbE hkh hp hC hrS
          by_cases h0 : i = 0
          · have hem : E.toList.isEmpty = true := by
              rw [hEE.out, zbb, hpp.out, h0]
              obtain ⟨t, e, _⟩ := prefW_head ws
              rw [e]; rfl
            replace h0 := zb.mk h0
            go_wp2_with (first | (at_mapUpdate; refine wpList_mapUpdate_own _ rfl _ _ _ 143 rfl 9 3 law Tryz.underlying143 _ mb i _ rfl HPl.out (by simp only [maxLen]; have := hQP.out.1; omega) _ _ _ rfl rfl hkey _ [] (plainElem_int Tryz.underlying3 (WalkArith.wf_i64 (by have := hQP.out.1; omega))) ?_; intro w3 hown1 hgrow1; have HP3 : zb (Pl w3 mb (i + 1) (zha ws)) := ⟨by show World.ownsMap _ _ _ _ _ _ (plD (zha ws) (i + 1)); rw [plD, ← hpp.out]; exact hown1⟩; have HL3 : zb (OfK w w3 g (.slice (some ad) M.length c1) (zha ws) (.slice AN (zTa (zha ws) ws i).length cN) (zTa (zha ws) ws i)) := ⟨by obtain ⟨es, ck, hbm, _⟩ := HPl.out; exact HL.out.turned hbm hgrow1 hmb⟩; clear hown1 hgrow1 HL HPl) | (go_at_call 175; refine (zI.calls kh _ _ l0 E rS bE _ (Kd.zV HR0.out HL3.out.bel) HC0.out hHas.out).mono ?_; rintro e w4 ⟨rfl, hd⟩; obtain ⟨nd, hw4⟩ := hd.out; clear hd; have HL4 := zb.mk (HL3.out.drawn nd); have HP4 : zb (Pl (w3.drewN nd) mb (i + 1) (zha ws)) := ⟨HP3.out.same rfl⟩; rw [← hw4] at HL4 HP4; clear hw4 HL3 HP3; have HN := zb.mk (HL4.out.node ⟨-1, -1, bE⟩); have k0_ : (w4.alloc (.cells #[.int .i64 (-1), .int .i64 (-1), .bool bE] 73)).cell? ⟨g, 0, none⟩ = some (.slice AN (zTa (zha ws) ws i).length cN) := zD HN.out.box 0; have kf_ := zz HN.out.box 0; have kn_ := HN.out.ng; have kn'_ := kn_.symm; have HPx : zb (Pl (w4.alloc (.cells #[.int .i64 (-1), .int .i64 (-1), .bool bE] 73)) mb (i + 1) (zha ws)) := ⟨HP4.out.same (Below.heap_alloc _ _ _ HP4.out.lt)⟩) | ((with_reducible refine zZa (b := .append) (xs := #[.tmp 76, .tmp 78]) rfl ?_); at_builtin; refine Kd.R_append zXa (w0 := w) w.heap.size rfl (.tmp 76) (.tmp 78) 24 73 (.agg #[.int .i64 0, .int .i64 0, .bool false]) 24 rfl Tryz.underlying24 info73 rfl (by decide) (by omega) (.slice AN (zTa (zha ws) ws i).length cN) (zTa (zha ws) ws i) (⟨-1, -1, bE⟩ : zL) [.int .i64 (-1), .int .i64 (-1), .bool bE] (fun k => k ≠ w4.heap.size) (fun _ => False) rfl (by first | (go_simp; done) | (go_simp; rfl)) (k_Node_mkM _ _ _ _) (fun _ hk => hk.elim) ?aF HN.out.nod HN.out.bel HN.out.bel.size ?aL ?_; (case aF => exact fun k hk => Nat.ne_of_gt (Nat.lt_of_lt_of_le (blk_lt HN.out.nbx) hk)); (case aL => rw [nodesP_len]; have := hQP.out.1; omega); intro v1 w5 ho hb hg hat; obtain ⟨A2, c2, e2⟩ := Kd.zpa ho; subst e2; have HB4 := zb.mk (HN.out.back ho hb hg); have HPn : zb (Pl (w5.setCell ⟨g, 0, none⟩ (.slice A2 (zTa (zha ws) ws i ++ [(⟨-1, -1, bE⟩ : zL)]).length c2)) mb (i + 1) (zha ws)) := ⟨HPx.out.after hg (R_ne_map HN.out.nod) HN.out.box _⟩; clear ho hb hg hat; have c4_ : w5.cell? ⟨g, 0, none⟩ = some (.slice AN (zTa (zha ws) ws i).length cN) := zD HB4.out.1 0; have f4_ := zz HB4.out.1 0))
            go_roundg (M.length - (i + 1))
            case measure => omega
            case rel =>
              have hq := HB4.out.2
              have hq2 := HPn.out
              simp only [List.length_append, List.length_singleton] at hq hq2
              rw [show zTa (zha ws) ws i ++ [⟨-1, -1, bE⟩] = zTa (zha ws) ws (i + 1) by
                rw [nodesP_succ]; unfold nodeP; rw [if_pos h0.out, ← hpp.out, ← hbb.out]] at hq
              have hbd := hQP.out.1
              have hMl := HMl.out
              exact ⟨i + 1, _, by omega, by rw [zSa (by omega) (by omega)]; simp, ⟨hq⟩, ⟨hq2⟩⟩
          · have hpl : 0 < p.length := by
              have := prefW_tail ws p (by
                rw [hpp.out, List.getD_eq_getElem?_getD]
                rcases hpr : zha ws with _ | ⟨q0, qs⟩
                · rw [hpr] at hltP; simp at hltP
                · rw [hpr] at hltP
                  obtain ⟨i', rfl⟩ : ∃ i', i = i' + 1 := ⟨i - 1, by omega⟩
                  have hq : i' < qs.length := by simpa using hltP
                  simp [List.getElem?_eq_getElem hq])
              exact List.length_pos_iff.2 this
            obtain ⟨m, hm⟩ : ∃ m, p.length = m + 1 := ⟨p.length - 1, by omega⟩
            have hEm : E.size = m + 1 := by rw [hps.out, hm]
            have hmE : m < E.size := by omega
            have hem : E.toList.isEmpty = false := by
              rw [hEE.out, zbb]
              cases p with
              | nil => simp at hpl
              | cons a t => rfl
            have wj : IntKind.i64.wrap ((E.size : Int) - 1) = (m : Int) := by rw [hEm, zva, zSa (by omega) (by omega)]; omega
            have pj := eq_true (show 0 ≤ (m : Int) by omega)
            have qj := eq_true (show (m : Int) < (E.size : Int) by omega)
            have hx := bt_at E m
            replace h0 := zb.mk h0
            obtain ⟨bv, hbv⟩ : ∃ bv, (((E[m]'hmE).toNat : Int) - 97) % 256 = bv := ⟨_, rfl⟩
            have hbV := zb.mk hbv
            have hX : zb (E.extract 0 m = tx (p.take m)) := ⟨by rw [hEE.out, tx_extract]; simp⟩
            go_wp2_with (first | (at_mapUpdate; refine wpList_mapUpdate_own _ rfl _ _ _ 143 rfl 9 3 law Tryz.underlying143 _ mb i _ rfl HPl.out (by simp only [maxLen]; have := hQP.out.1; omega) _ _ _ rfl rfl hkey _ [] (plainElem_int Tryz.underlying3 (WalkArith.wf_i64 (by have := hQP.out.1; omega))) ?_; intro w3 hown1 hgrow1; have HP3 : zb (Pl w3 mb (i + 1) (zha ws)) := ⟨by show World.ownsMap _ _ _ _ _ _ (plD (zha ws) (i + 1)); rw [plD, ← hpp.out]; exact hown1⟩; have HL3 : zb (OfK w w3 g (.slice (some ad) M.length c1) (zha ws) (.slice AN (zTa (zha ws) ws i).length cN) (zTa (zha ws) ws i)) := ⟨by obtain ⟨es, ck, hbm, _⟩ := HPl.out; exact HL.out.turned hbm hgrow1 hmb⟩; clear hown1 hgrow1 HL HPl) | (go_at_call 175; refine (zI.calls kh _ _ l0 E rS bE _ (Kd.zV HR0.out HL3.out.bel) HC0.out hHas.out).mono ?_; rintro e w4 ⟨rfl, hd⟩; obtain ⟨nd, hw4⟩ := hd.out; clear hd; have HL4 := zb.mk (HL3.out.drawn nd); have HP4 : zb (Pl (w3.drewN nd) mb (i + 1) (zha ws)) := ⟨HP3.out.same rfl⟩; rw [← hw4] at HL4 HP4; clear hw4 HL3 HP3; have HN := zb.mk (HL4.out.node ⟨-1, -1, bE⟩); have k0_ : (w4.alloc (.cells #[.int .i64 (-1), .int .i64 (-1), .bool bE] 73)).cell? ⟨g, 0, none⟩ = some (.slice AN (zTa (zha ws) ws i).length cN) := zD HN.out.box 0; have kf_ := zz HN.out.box 0; have kn_ := HN.out.ng; have kn'_ := kn_.symm))
            obtain ⟨j, hj, hjl, hje⟩ := placeW_mem (parent_mem (show p ∈ zha ws by rw [hpp.out, List.getD_eq_getElem?_getD, List.getElem?_eq_getElem hltP]; exact List.getElem_mem _))
            rw [hm, Nat.add_sub_cancel] at hj hje
            have hji : j < i + 1 := by
              have hlt' : (zha ws)[j] < (zha ws)[i] := by
                rw [hje]
                have e : (zha ws)[i] = p := by rw [hpp.out, List.getD_eq_getElem?_getD, List.getElem?_eq_getElem hltP]; rfl
                rw [e]
                have := take_lt p (List.length_pos_iff.1 hpl)
                rwa [hm, Nat.add_sub_cancel] at this
              have := (asc_get (asc_prefW ws) hjl hltP).1 hlt'
              omega
            obtain ⟨w6, hw6⟩ : ∃ w6, w6 = w4.alloc (.cells #[.int .i64 (-1), .int .i64 (-1), .bool bE] 73) := ⟨_, rfl⟩
            have HP6 : zb (Pl w6 mb (i + 1) (zha ws)) := ⟨by rw [hw6]; exact HP4.out.same (Below.heap_alloc _ _ _ HP4.out.lt)⟩
            rw [← hw6] at HN ⊢
            rw [← hw6] at k0_ kf_
            obtain ⟨nb, hnb⟩ : ∃ nb, nb = w4.heap.size := ⟨_, rfl⟩
            rw [← hnb] at HN kn_ kn'_ ⊢
            clear hw6 hnb HL4 HP4
            have hkey2 : keyOf Tryz.prog 9 (.string (E.extract 0 m)) = some (.string (p.take m)) := by
              rw [hX.out]
              exact Go.WideMaps.keyOf_string_mk (P := Tryz.prog) (k := 9) (s := tx (p.take m)) Tryz.underlying9 (by rw [zMa, List.length_take]; simp only [maxLen]; omega)
            have hz : ∀ W1, (zeroValue 3).run Tryz.prog W1 = .ok (.int .i64 0) W1 := (zero_of_info (P := Tryz.prog) (t := 3) (v := .int .i64 0) (n := 1) (by kernel_rfl)).1
            have hgj : (zha ws).getD j [] = p.take m := by rw [List.getD_eq_getElem?_getD, List.getElem?_eq_getElem hjl, ← hje]; rfl
            have HD : OfN w w6.drew g nb (.slice (some ad) M.length c1) (zha ws) (.slice AN (zTa (zha ws) ws i).length cN) (zTa (zha ws) ws i) ⟨-1, -1, bE⟩ := HN.out.drawn 1
            have look : ∀ W1, Pl W1 mb (i + 1) (zha ws) → (Instr.lookup 143 (.map (some mb)) (.string (E.extract 0 m)) false).run Tryz.prog W1 = .ok (.int .i64 (j : Int)) W1 := by
              intro W1 h1
              obtain ⟨c, hrun, hat, _⟩ := h1.lookup_int law Tryz.underlying143 Tryz.underlying3 (hz W1) hkey2
              have := plD_get (zha ws) (asc_nodup (asc_prefW ws)) (.lit (.int .i64 0)) (i + 1) (by omega) j hji
              rw [hgj, hat] at this
              injection this with this
              injection this with _ this
              rw [hrun, this]
            have hPd : Pl w6.drew mb (i + 1) (zha ws) := HP6.out.same rfl
            have hPd2 : Pl (w6.drew.setCell ⟨nb, 0, none⟩ (.int .i64 bv)) mb (i + 1) (zha ws) := by
              refine hPd.same (Below.heap_setCell _ _ _ _ ?_)
              rintro rfl
              obtain ⟨es, ck, hbm, _⟩ := hPd
              have := HD.nbx
              rw [hbm] at this; cases this
            have l1_ := look _ hPd
            have l2_ := look _ hPd2
            have l3_ : (Instr.lookup 143 (.map (some mb)) (.string (E.extract 0 m)) false).run Tryz.prog (w6.setCell ⟨nb, 0, none⟩ (.int .i64 bv)).drew = .ok (.int .i64 (j : Int)) (w6.setCell ⟨nb, 0, none⟩ (.int .i64 bv)).drew := look _ hPd2
            have q0_ : w6.drew.cell? ⟨nb, 0, none⟩ = some (.int .i64 (-1)) := zD HD.nbx 0
            have q1_ : w6.drew.cell? ⟨nb, 1, none⟩ = some (.int .i64 (-1)) := zD HD.nbx 1
            have r0_ : w6.cell? ⟨nb, 0, none⟩ = some (.int .i64 (-1)) := zD HN.out.nbx 0
            have r1_ : w6.cell? ⟨nb, 1, none⟩ = some (.int .i64 (-1)) := zD HN.out.nbx 1
            have r2_ := zz HN.out.nbx 0
            have r3_ := zz HN.out.nbx 1
            have q2_ := zz HD.nbx 0
            have q3_ := zz HD.nbx 1
            have HP7 := zb.mk hPd
            have HN7 : zb (OfN w ((w6.setCell ⟨nb, 0, none⟩ (.int .i64 bv)).setCell ⟨nb, 1, none⟩ (.int .i64 (j : Int))).drew g nb (.slice (some ad) M.length c1) (zha ws) (.slice AN (zTa (zha ws) ws i).length cN) (zTa (zha ws) ws i) ⟨bv, (j : Int), bE⟩) := ⟨((HN.out.set 0 (.int .i64 bv) ⟨bv, -1, bE⟩ rfl).set 1 (.int .i64 (j : Int)) ⟨bv, (j : Int), bE⟩ rfl).drawn 1⟩
            have HP8 : zb (Pl ((w6.setCell ⟨nb, 0, none⟩ (.int .i64 bv)).setCell ⟨nb, 1, none⟩ (.int .i64 (j : Int))).drew mb (i + 1) (zha ws)) := ⟨by
              refine hPd2.same (Below.heap_setCell _ _ _ _ ?_)
              rintro rfl
              obtain ⟨es, ck, hbm, _⟩ := hPd
              have := HD.nbx
              rw [hbm] at this; cases this⟩
            clear hPd hPd2 look HD HN HP6 HP7 law hkey hkey2
            have hmE2 : m ≤ E.size := by omega
            have HEm := zb.mk hEm
            have Hm := zb.mk hm
            clear pj qj hx hem hEm hm
            go_region
            clear l1_ l2_ l3_ q0_ q1_ q2_ q3_ r0_ r1_ r2_ r3_ k0_ kf_
            obtain ⟨w7, hw7⟩ : ∃ w7, w7 = ((w6.setCell ⟨nb, 0, none⟩ (.int .i64 bv)).setCell ⟨nb, 1, none⟩ (.int .i64 (j : Int))).drew := ⟨_, rfl⟩
            rw [← hw7] at HN7 HP8 ⊢
            clear hw7
            have s0_ : w7.cell? ⟨nb, 0, none⟩ = some (.int .i64 bv) := zD HN7.out.nbx 0
            have s1_ : w7.cell? ⟨nb, 1, none⟩ = some (.int .i64 (j : Int)) := zD HN7.out.nbx 1
            have s2_ : w7.cell? ⟨nb, 2, none⟩ = some (.bool bE) := zD HN7.out.nbx 2
            have s3_ : w7.cell? ⟨g, 0, none⟩ = some (.slice AN (zTa (zha ws) ws i).length cN) := zD HN7.out.box 0
            have Hbv := zb.mk hbv
            clear hbv
            go_wp2_with ((with_reducible refine zZa (b := .append) (xs := #[.tmp 76, .tmp 78]) rfl ?_); at_builtin; refine Kd.R_append zXa (w0 := w) w.heap.size rfl (.tmp 76) (.tmp 78) 24 73 (.agg #[.int .i64 0, .int .i64 0, .bool false]) 24 rfl Tryz.underlying24 info73 rfl (by decide) (by omega) (.slice AN (zTa (zha ws) ws i).length cN) (zTa (zha ws) ws i) (⟨bv, (j : Int), bE⟩ : zL) [.int .i64 bv, .int .i64 (j : Int), .bool bE] (fun k => k ≠ nb) (fun _ => False) rfl (by first | (go_simp; done) | (go_simp; rfl)) (k_Node_mkM _ _ _ _) (fun _ hk => hk.elim) ?aF HN7.out.nod HN7.out.bel HN7.out.bel.size ?aL ?_; (case aF => exact fun k hk => Nat.ne_of_gt (Nat.lt_of_lt_of_le (blk_lt HN7.out.nbx) hk)); (case aL => rw [nodesP_len]; have := hQP.out.1; omega); intro v1 w5 ho hb hg hat; obtain ⟨A2, c2, e2⟩ := Kd.zpa ho; subst e2; have HB4 := zb.mk (HN7.out.back ho hb hg); have HPn : zb (Pl (w5.setCell ⟨g, 0, none⟩ (.slice A2 (zTa (zha ws) ws i ++ [(⟨bv, (j : Int), bE⟩ : zL)]).length c2)) mb (i + 1) (zha ws)) := ⟨HP8.out.after hg (R_ne_map HN7.out.nod) HN7.out.box _⟩; clear ho hb hg hat; have c4_ : w5.cell? ⟨g, 0, none⟩ = some (.slice AN (zTa (zha ws) ws i).length cN) := zD HB4.out.1 0; have f4_ := zz HB4.out.1 0)
            go_roundg (M.length - (i + 1))
            case measure => omega
            case rel =>
              have hq := HB4.out.2
              have hq2 := HPn.out
              simp only [List.length_append, List.length_singleton] at hq hq2
              rw [show zTa (zha ws) ws i ++ [⟨bv, (j : Int), bE⟩] = zTa (zha ws) ws (i + 1) by
                rw [nodesP_succ]; unfold nodeP; rw [if_neg h0.out, ← hpp.out, ← hbb.out, Hm.out, Nat.add_sub_cancel, ← hbV.out, hj]
                have h1 : ((E[m]'hmE).toNat : Int) = bt E (m : Int) := bt_at E m (by simpa using hmE)
                have h2 : bt E (m : Int) = ((p.getD m 0).toNat : Int) := by rw [hEE.out, tx_bt]; simp
                rw [h1, h2]] at hq
              have hbd := hQP.out.1
              have hMl := HMl.out
              exact ⟨i + 1, _, by omega, by rw [zSa (by omega) (by omega)]; simp, ⟨hq⟩, ⟨hq2⟩⟩
        · have hb0 : wr.cell? ⟨g, 0, none⟩ = some (.slice AN (zTa (zha ws) ws i).length cN) := zD HL.out.box 0
          have hb1 : wr.cell? ⟨w.heap.size, 0, none⟩ = some (.slice none 0 0) := zD HL.out.res 0
          have hf1 := zz HL.out.res 0
          go_wp2
          refine bodyPost_ret (results_cell_row rfl _ _ w.heap.size 26 #[.slice AN _ cN] (0, 0) _ rfl (blk_put (cs := #[.slice none 0 0]) HL.out.res 0 _ rfl) Tryz.underlying26 rfl (by kernel_rfl)) rfl ?_
          refine ⟨_, rfl, ?_, ?_⟩
          · obtain rfl : i = (zha ws).length := by have := HMl.out; omega
            exact Kd.R_set HL.out.nod HL.out.res (by decide) 0 _
          · exact zh HL.out.bel (Nat.le_refl _)
end Go.Proofs.YtfabennfhmlihaaGreatDoor.P
end
section
namespace Go.Proofs.YtfabennfhmlihaaGreatDoor.P
open Go Go.RowKit Go.Shelf Go.Sort Go.Lib Go.Proofs.YtfabennfhmlihaaGreatDoorW.zJ Go.Proofs.YtfabennfhmlihaaGreatDoorW.zU Go.Proofs.YtfabennfhmlihaaGreatDoorW.PrintMore
set_option linter.unusedVariables false
set_option maxHeartbeats 1000000 in
theorem long_gives (x : List UInt8) (W : World) :
    FnGives Tryz.prog 200 #[] #[encStr x] (.bool (decide (12 < x.length))) W := by
  show Calls Tryz.prog 200 #[encStr x] W _
  obtain ⟨X, hX⟩ : ∃ X, X = tx x := ⟨_, rfl⟩
  have hs : x.length = X.size := by rw [hX, zMa]
  show Calls Tryz.prog 200 #[.string (tx x)] W _
  rw [← hX, hs]
  clear hX hs
  go_enter Tryz.func200, Tryz.ntmps200
  go_wp2
  go_ret
  refine ⟨?_, 0, rfl⟩
  simp
  omega
theorem long_pred (w : World) : PredAt Tryz.prog 200 #[] encStr (fun x => decide (12 < x.length)) w :=
  fun W x _ => long_gives x W
theorem trie_field (v : Value) (W : World) : (Instr.field 26 (.agg #[v]) 0).run Tryz.prog W = .ok v W := by
  have hu26 := Tryz.underlying26
  simp [go_sem, Instr.field, asAgg]
def zfb.f (l0 : List zL) : Option Bool := some (validB l0)
set_option maxRecDepth 100000 in
set_option maxHeartbeats 4000000 in
theorem zfb.calls (A0_0 : Option Addr) (c0_0 : Nat) (l0_0 : List zL) (r : Bool) (w : World) (hr0_0 : Kd.C zXa w A0_0 l0_0.length l0_0) (hc0_0 : l0_0.length ≤ c0_0) (h : zfb.f l0_0 = some r) :
    Calls Tryz.prog 129 #[.agg #[.slice A0_0 l0_0.length c0_0]] w fun e w' => e = .returned (.bool r) ∧ RowKit.Below w.heap.size w w' := by
  unfold zfb.f at h
  have h := Option.some.inj h
  have hr : r = true ↔ Valid l0_0 := by rw [← h]; exact validB_iff _
  clear h
  obtain ⟨kp, hkp⟩ := (prefixes_ev l0_0).get
  have hR := zb.mk hr0_0
  have hC := zb.mk hc0_0
  have hu26 := Tryz.underlying26
  have hB0 : zb (RowKit.Below w.heap.size w (w.alloc (.cells #[.slice A0_0 l0_0.length c0_0] 26))) := ⟨(RowKit.Below.refl _ w).alloc (Nat.le_refl _) _⟩
  have hX0 : zb ((w.alloc (.cells #[.slice A0_0 l0_0.length c0_0] 26)).heap[w.heap.size]? = some (.cells #[.slice A0_0 l0_0.length c0_0] 26 (0, 0))) := ⟨blk_new _ _⟩
  clear hr0_0 hc0_0
  rcases hP : prefsN l0_0 with _ | P
  · have hf : r = false := by
      rw [Bool.eq_false_iff]; intro e
      obtain ⟨P, h1, _⟩ := (valid_iff _).1 (hr.1 e)
      rw [hP] at h1; cases h1
    rw [hP] at hkp
    have hK : zb (zO.f kp l0_0 = some ([], false)) := ⟨hkp⟩
    subst hf
    clear hkp hP hr
    go_enter Tryz.func129, Tryz.ntmps129
    go_wp2_with (go_at_call 169; refine (zO.calls kp _ _ l0_0 _ _ _ (Kd.zV hR.out hB0.out) hC.out hK.out).mono ?_; rintro e W ⟨v, rfl, ho, hb⟩; have hO := zb.mk ho; have hB1 := zb.mk (hB0.out.trans (hb.mono hB0.out.size)); have hX1 := zb.mk (zG hX0.out hb); clear ho hb)
    go_ret
    exact ⟨rfl, hB1.out⟩
  · rw [hP] at hkp
    have hK : zb (zO.f kp l0_0 = some (P.map tx, true)) := ⟨hkp⟩
    clear hkp
    obtain ⟨kw, hkw⟩ := (words_ev l0_0 P hP).get
    have hPl := prefsN_length hP
    have hP1 : 1 ≤ P.length ∧ P.length ≤ 481 := by
      have h9 := hP
      unfold prefsN at h9
      split at h9
      · rename_i hc; rw [hPl]; exact hc
      · cases h9
    obtain ⟨Z, hZ⟩ : ∃ Z, Z = wordsN P l0_0 := ⟨_, rfl⟩
    rw [← hZ] at hkw
    have hval : Valid l0_0 ↔ (∀ p ∈ P, p.length ≤ 12) ∧ Z.length ≤ 40 ∧ Z.Pairwise (· ≤ ·) ∧ ofW Z = l0_0 := by
      rw [valid_iff, hP, hZ]
      constructor
      · rintro ⟨P', e, h⟩
        obtain rfl := Option.some.inj e
        exact h
      · exact fun h => ⟨P, rfl, h⟩
    have hZl : Z.length ≤ 481 := by
      rw [hZ]; unfold wordsN
      rw [List.length_map]
      refine Nat.le_trans (List.length_filter_le _ _) ?_
      rw [List.length_zip]; omega
    have hZs : ∀ z ∈ Z, z ∈ P := fun z hz => wordsN_sub (by rw [← hZ]; exact hz)
    clear hZ hP
    have hW := zb.mk hkw
    clear hkw
    obtain ⟨M, hM⟩ : ∃ M, M = P.map tx := ⟨_, rfl⟩
    rw [← hM] at hK
    have hMl : M.length = P.length := by rw [hM, List.length_map]
    obtain ⟨Y, hY⟩ : ∃ Y, Y = Z.map tx := ⟨_, rfl⟩
    rw [← hY] at hW
    have hYl : Y.length = Z.length := by rw [hY, List.length_map]
    have eg : ∀ args w, (callFunc 200 args).run Tryz.prog w = .ok (.enter 200 args) w := enters_of Tryz.func200 (by kernel_rfl) rfl
    -- what the library's search says in whatever world holds the row of prefixes
    have hcon : ∀ (W : World) (base : Nat) (v : Value), Kd.R Kd.string 9 W base (fun _ => True) v M → ∃ gb cap, v = .slice (some ⟨gb, 0, none⟩) M.length cap ∧
        Calls Tryz.prog 154 #[.slice (some ⟨gb, 0, none⟩) M.length cap, .func (.func 200) #[] #[]] W fun e w' => e = .returned (.bool (P.any fun x => decide (12 < x.length))) ∧ ∃ q, w' = W.drewN q := by
      intro W base v ho
      have hrow := Kd.own_of_R ho
      rcases hrow.2 with ⟨_, hz⟩ | ⟨gb, cap, cur, rfl, hbase, hgb, r1, r2, r3, r4⟩
      · omega
      · refine ⟨gb, cap, rfl, ?_⟩
        rw [hMl, hM, ← encs_tx] at *
        have hH : Holds encStr W gb 0 P.toArray := holds_of_block hgb (by simpa using r4)
        have hc : ∀ j, j < P.length → W.cell? ⟨gb, 0 + j, none⟩ = some (encStr P[j]!) := fun j hj => by
          have := (hH j (by simpa using hj)).1
          rw [this, getElem!_pos P.toArray j (by simpa using hj), getElem!_pos P j hj]; simp
        have cC := AnyE.slices_ContainsFunc Tryz.containsK encStr (fun x => decide (12 < x.length)) 200 #[] eg gb 0 P.length cap P W (long_pred W) (Nat.le_refl _) (by omega) hc
        rw [List.take_length] at cC
        exact cC
    have hCon := zb.mk hcon
    clear hcon eg
    by_cases hlong : P.any (fun x => decide (12 < x.length)) = true
    · have hf : r = false := by
        rw [Bool.eq_false_iff]; intro e
        obtain ⟨p, hp, hl⟩ := List.any_eq_true.1 hlong
        have := (hval.1 (hr.1 e)).1 p hp
        simp at hl; omega
      subst hf
      rw [hlong] at hCon
      clear hr hval hlong hZs hM hY hMl hPl hYl hP1 hZl
      go_enter Tryz.func129, Tryz.ntmps129
      go_wp2_with (first | (go_at_call 169; refine (zO.calls kp _ _ l0_0 _ _ _ (Kd.zV hR.out hB0.out) hC.out hK.out).mono ?_; rintro e W ⟨v, rfl, ho, hb⟩; have hO := zb.mk ho; have hB1 := zb.mk (hB0.out.trans (hb.mono hB0.out.size)); have hX1 := zb.mk (zG hX0.out hb); clear ho hb; obtain ⟨gb, cap, rfl, hcc⟩ := hCon.out _ _ _ hO.out; have hCC := zb.mk hcc; clear hcc) | (go_at_call 154; refine hCC.out.mono ?_; rintro e w2 ⟨rfl, q, rfl⟩))
      go_ret
      exact ⟨rfl, ze hB1.out _⟩
    · have hlong' : P.any (fun x => decide (12 < x.length)) = false := by simpa using hlong
      have h12 : ∀ p ∈ P, p.length ≤ 12 := fun p hp => by
        have := List.any_eq_false.1 hlong' p hp
        simp at this; omega
      rw [hlong'] at hCon
      have hZ12 : ∀ z ∈ Z, z.length ≤ 12 := fun z hz => h12 z (hZs z hz)
      have hval2 : Valid l0_0 ↔ Z.length ≤ 40 ∧ Z.Pairwise (· ≤ ·) ∧ ofW Z = l0_0 := by
        rw [hval]; exact ⟨fun h => h.2, fun h => ⟨h12, h⟩⟩
      clear hval h12 hlong hlong' hZs hM
      by_cases h40 : Y.length ≤ 40
      · by_cases hsrt : Z.Pairwise (· ≤ ·)
        · obtain ⟨ks, hks⟩ := (sorted_ev Z (by omega)).get
          rw [decide_eq_true hsrt, ← hY] at hks
          have hS := zb.mk hks
          have hT : impl_trieOf.f Y = some (ofW Z) := by
            unfold impl_trieOf.f
            have hYZ : Y.map ByteArray.toList = Z := by rw [hY, List.map_map, show (ByteArray.toList ∘ tx) = id from funext zbb, List.map_id]
            have hbz : ∀ b ∈ Y, b.toList.length ≤ 262144 := fun b hb => by
              have : b.toList ∈ Z := by rw [← hYZ]; exact List.mem_map_of_mem hb
              have := hZ12 _ this
              omega
            rw [if_pos ⟨⟨by omega, hbz⟩, by rw [hYZ]; exact hsrt⟩, hYZ]
          have hTT := zb.mk hT
          obtain ⟨NS, hNS⟩ : ∃ NS, NS = ofW Z := ⟨_, rfl⟩
          rw [← hNS] at hTT hval2
          have hl481 : NS.length ≤ 9223372036854775806 := by
            rw [hNS]
            have := prefsP_bound Z 12 hZ12 Z.length (Nat.le_refl _)
            have h5 : (ofW Z).length = (zha Z).length := by simp [ofW, zTa]
            have h6 : (zha Z).length ≤ 1 + Z.length * 12 := this.1
            omega
          obtain ⟨ke, hke⟩ := (equal_ev NS l0_0 hl481).get
          have hbe : decide (NS = l0_0) = r := by
            have h40' : Z.length ≤ 40 := by omega
            rw [Bool.eq_iff_iff, decide_eq_true_eq, hr, hval2]
            exact ⟨fun h => ⟨h40', hsrt, h⟩, fun h => h.2.2⟩
          rw [hbe] at hke
          have hE := zb.mk hke
          have h40i : (Y.length : Int) ≤ 40 := by omega
          clear hks hT hNS hl481 hke hbe hr hval2 hsrt hZ12 hY hMl hPl hYl hP1 hZl
          go_enter Tryz.func129, Tryz.ntmps129
          go_wp2_with (first | (go_at_call 169; refine (zO.calls kp _ _ l0_0 _ _ _ (Kd.zV hR.out hB0.out) hC.out hK.out).mono ?_; rintro e W ⟨v, rfl, ho, hb⟩; have hO := zb.mk ho; have hB1 := zb.mk (hB0.out.trans (hb.mono hB0.out.size)); have hX1 := zb.mk (zG hX0.out hb); clear ho hb; obtain ⟨gb, cap, rfl, hcc⟩ := hCon.out _ _ _ hO.out; have hCC := zb.mk hcc; clear hcc) | (go_at_call 154; refine hCC.out.mono ?_; rintro e W2 ⟨rfl, q, hq⟩; have hB2 : zb (RowKit.Below w.heap.size w W2) := ⟨by rw [hq]; exact ze hB1.out q⟩; have hX2 : zb (W2.heap[w.heap.size]? = some (.cells #[.slice A0_0 l0_0.length c0_0] 26 (0, 0))) := ⟨by rw [hq]; exact hX1.out⟩; have cx2 : W2.cell? ⟨w.heap.size, 0, none⟩ = some (.slice A0_0 l0_0.length c0_0) := zD hX2.out 0; clear hCC hO hq) | (go_at_call 130; refine (zT.calls kw _ _ l0_0 _ _ (Kd.zV hR.out hB2.out) hC.out hW.out).mono ?_; rintro e w3 ⟨v3, rfl, ho, hb⟩; obtain ⟨A3, c3, e3⟩ := Kd.zpa ho; subst e3; have hO3 := zb.mk ho; have hB3 := zb.mk (hB2.out.trans (hb.mono hB2.out.size)); have hX3 := zb.mk (zG hX2.out hb); clear ho hb))
          have hO3d : zb (Kd.R Kd.string 9 w3.drew W2.heap.size (fun _ => True) (.slice A3 Y.length c3) Y) := ⟨Kd.zA hO3.out⟩
          have hB3d : zb (RowKit.Below w.heap.size w w3.drew) := ⟨below_drew hB3.out⟩
          have hX3d : zb (w3.drew.heap[w.heap.size]? = some (.cells #[.slice A0_0 l0_0.length c0_0] 26 (0, 0))) := ⟨hX3.out⟩
          clear hO3 hB3 cx2
          have cx3 : w3.cell? ⟨w.heap.size, 0, none⟩ = some (.slice A0_0 l0_0.length c0_0) := zD hX3.out 0
          have hfld := trie_field
          go_region_held3 (fun w' => w'.cell? ⟨w.heap.size, 0, none⟩ = some (.slice A0_0 l0_0.length c0_0)) (first | exact zD hX6.out 0 | exact zD hX5.out 0 | exact zD hX4.out 0 | exact zD hX3d.out 0 | go_keep) (first | (go_at_call 201; refine (zR.calls ks A3 c3 Y true w3.drew (Kd.zQ hO3d.out).2.2 (Kd.zQ hO3d.out).2.1 hS.out).mono ?_; rintro e w4 ⟨rfl, hd⟩; obtain ⟨nd, hq4⟩ := hd.out; clear hd; have hO4 : zb (Kd.R Kd.string 9 w4 W2.heap.size (fun _ => True) (.slice A3 Y.length c3) Y) := ⟨by rw [hq4]; exact Kd.zq hO3d.out _⟩; have hB4 : zb (RowKit.Below w.heap.size w w4) := ⟨by rw [hq4]; exact ze hB3d.out nd⟩; have hX4 : zb (w4.heap[w.heap.size]? = some (.cells #[.slice A0_0 l0_0.length c0_0] 26 (0, 0))) := ⟨by rw [hq4]; exact hX3d.out⟩; clear hq4) | (go_at_call 186; refine (impl_trieOf.calls A3 c3 Y NS w4 (Kd.zQ hO4.out).2.2 (Kd.zQ hO4.out).2.1 hTT.out).mono ?_; rintro e w5 ⟨v5, rfl, ho5, hb5⟩; obtain ⟨A5, c5, e5⟩ := Kd.zpa ho5; subst e5; have hO5 := zb.mk ho5; have hB5 := zb.mk (hB4.out.trans (hb5.mono hB4.out.size)); have hX5 := zb.mk (zG hX4.out hb5); clear ho5 hb5) | (go_at_call 202; refine (impl_Node.calls ke A5 c5 NS A0_0 c0_0 l0_0 r w5 (Kd.zQ hO5.out).2.2 (Kd.zQ hO5.out).2.1 (Kd.zV hR.out hB5.out) hC.out hE.out).mono ?_; rintro e w6 ⟨rfl, hd⟩; obtain ⟨nd6, hq6⟩ := hd.out; clear hd; have hB6 : zb (RowKit.Below w.heap.size w w6) := ⟨by rw [hq6]; exact ze hB5.out nd6⟩; have hX6 : zb (w6.heap[w.heap.size]? = some (.cells #[.slice A0_0 l0_0.length c0_0] 26 (0, 0))) := ⟨by rw [hq6]; exact hX5.out⟩; clear hq6))
          go_wp2
          go_ret
          exact ⟨rfl, hB6.out⟩
        · obtain ⟨ks, hks⟩ := (sorted_ev Z (by omega)).get
          rw [decide_eq_false hsrt, ← hY] at hks
          have hS := zb.mk hks
          have hf : r = false := by
            rw [Bool.eq_false_iff]; intro e
            exact hsrt (hval2.1 (hr.1 e)).2.1
          subst hf
          clear hks hr hval2 hsrt hZ12 hY hMl hPl hYl hP1 hZl
          go_enter Tryz.func129, Tryz.ntmps129
          go_wp2_with (first | (go_at_call 169; refine (zO.calls kp _ _ l0_0 _ _ _ (Kd.zV hR.out hB0.out) hC.out hK.out).mono ?_; rintro e W ⟨v, rfl, ho, hb⟩; have hO := zb.mk ho; have hB1 := zb.mk (hB0.out.trans (hb.mono hB0.out.size)); have hX1 := zb.mk (zG hX0.out hb); clear ho hb; obtain ⟨gb, cap, rfl, hcc⟩ := hCon.out _ _ _ hO.out; have hCC := zb.mk hcc; clear hcc) | (go_at_call 154; refine hCC.out.mono ?_; rintro e W2 ⟨rfl, q, hq⟩; have hB2 : zb (RowKit.Below w.heap.size w W2) := ⟨by rw [hq]; exact ze hB1.out q⟩; have hX2 : zb (W2.heap[w.heap.size]? = some (.cells #[.slice A0_0 l0_0.length c0_0] 26 (0, 0))) := ⟨by rw [hq]; exact hX1.out⟩; have cx2 : W2.cell? ⟨w.heap.size, 0, none⟩ = some (.slice A0_0 l0_0.length c0_0) := zD hX2.out 0; clear hCC hO hq) | (go_at_call 130; refine (zT.calls kw _ _ l0_0 _ _ (Kd.zV hR.out hB2.out) hC.out hW.out).mono ?_; rintro e w3 ⟨v3, rfl, ho, hb⟩; obtain ⟨A3, c3, e3⟩ := Kd.zpa ho; subst e3; have hO3 := zb.mk ho; have hB3 := zb.mk (hB2.out.trans (hb.mono hB2.out.size)); have hX3 := zb.mk (zG hX2.out hb); clear ho hb))
          have hO3d : zb (Kd.R Kd.string 9 w3.drew W2.heap.size (fun _ => True) (.slice A3 Y.length c3) Y) := ⟨Kd.zA hO3.out⟩
          have hB3d : zb (RowKit.Below w.heap.size w w3.drew) := ⟨below_drew hB3.out⟩
          have hX3d : zb (w3.drew.heap[w.heap.size]? = some (.cells #[.slice A0_0 l0_0.length c0_0] 26 (0, 0))) := ⟨hX3.out⟩
          have hO3e := zb.mk hO3.out
          clear cx2
          have cx3 : w3.cell? ⟨w.heap.size, 0, none⟩ = some (.slice A0_0 l0_0.length c0_0) := zD hX3.out 0
          have h40d : decide ((Y.length : Int) ≤ 40) = true := decide_eq_true (by omega)
          go_quiet ((go_at_call 201; first | exact Calls.quiet_of ((zR.calls ks A3 c3 Y false _ (Kd.zia (Kd.zQ hO3d.out).2.2 _) (Kd.zQ hO3d.out).2.1 hS.out).mono (fun e w' h => ⟨h.1, h.2.out⟩)) | exact Calls.quiet_of ((zR.calls ks A3 c3 Y false _ (Kd.zia (Kd.zQ hO3e.out).2.2 _) (Kd.zQ hO3e.out).2.1 hS.out).mono (fun e w' h => ⟨h.1, h.2.out⟩))))
          go_wp2
          go_ret
          exact ⟨rfl, ze hB3.out nq⟩
      · have hf : r = false := by
          rw [Bool.eq_false_iff]; intro e
          have := (hval2.1 (hr.1 e)).1
          omega
        subst hf
        clear hr hval2 hZ12 hY hMl hPl hYl hP1 hZl
        go_enter Tryz.func129, Tryz.ntmps129
        go_wp2_with (first | (go_at_call 169; refine (zO.calls kp _ _ l0_0 _ _ _ (Kd.zV hR.out hB0.out) hC.out hK.out).mono ?_; rintro e W ⟨v, rfl, ho, hb⟩; have hO := zb.mk ho; have hB1 := zb.mk (hB0.out.trans (hb.mono hB0.out.size)); have hX1 := zb.mk (zG hX0.out hb); clear ho hb; obtain ⟨gb, cap, rfl, hcc⟩ := hCon.out _ _ _ hO.out; have hCC := zb.mk hcc; clear hcc) | (go_at_call 154; refine hCC.out.mono ?_; rintro e W2 ⟨rfl, q, hq⟩; have hB2 : zb (RowKit.Below w.heap.size w W2) := ⟨by rw [hq]; exact ze hB1.out q⟩; have hX2 : zb (W2.heap[w.heap.size]? = some (.cells #[.slice A0_0 l0_0.length c0_0] 26 (0, 0))) := ⟨by rw [hq]; exact hX1.out⟩; have cx2 : W2.cell? ⟨w.heap.size, 0, none⟩ = some (.slice A0_0 l0_0.length c0_0) := zD hX2.out 0; clear hCC hO hq) | (go_at_call 130; refine (zT.calls kw _ _ l0_0 _ _ (Kd.zV hR.out hB2.out) hC.out hW.out).mono ?_; rintro e w3 ⟨v3, rfl, ho, hb⟩; obtain ⟨A3, c3, e3⟩ := Kd.zpa ho; subst e3; have hO3 := zb.mk ho; have hB3 := zb.mk (hB2.out.trans (hb.mono hB2.out.size)); have hX3 := zb.mk (zG hX2.out hb); clear ho hb))
        have hO3d : zb (Kd.R Kd.string 9 w3.drew W2.heap.size (fun _ => True) (.slice A3 Y.length c3) Y) := ⟨Kd.zA hO3.out⟩
        have hB3d : zb (RowKit.Below w.heap.size w w3.drew) := ⟨below_drew hB3.out⟩
        have hX3d : zb (w3.drew.heap[w.heap.size]? = some (.cells #[.slice A0_0 l0_0.length c0_0] 26 (0, 0))) := ⟨hX3.out⟩
        clear cx2
        have cx3 : w3.cell? ⟨w.heap.size, 0, none⟩ = some (.slice A0_0 l0_0.length c0_0) := zD hX3.out 0
        have h40d : decide ((Y.length : Int) ≤ 40) = false := decide_eq_false (by omega)
        go_quiet (fail)
        go_wp2
        go_ret
        exact ⟨rfl, ze hB3.out nq⟩
end Go.Proofs.YtfabennfhmlihaaGreatDoor.P
end
section
namespace Go.Proofs.YtfabennfhmlihaaGreatDoor.P
open Go.RowKit Go.Proofs.YtfabennfhmlihaaGreatDoorW.zJ Go.Proofs.YtfabennfhmlihaaGreatDoorW.zU Go.Proofs.YtfabennfhmlihaaGreatDoorW.PrintMore
set_option linter.unusedVariables false
set_option linter.unusedSimpArgs false
def zhb.f (l0_0 : List (zL)) (a1 : ByteArray) : Option (Bool) := (zfb.f l0_0).bind fun t319 => (if t319 = true then ((impl_isWord.f a1).bind fun t320 => (some t320)) else (some false))
set_option maxHeartbeats 8000000 in
set_option maxRecDepth 100000 in
theorem zhb.calls (A0_0 : Option Addr) (c0_0 : Nat) (l0_0 : List (zL)) (a1 : ByteArray) (r : Bool) (w : World) (hr0_0 : Kd.C zXa w A0_0 l0_0.length l0_0) (hc0_0 : l0_0.length ≤ c0_0) (h : zhb.f l0_0 a1 = some r) :
  Calls Tryz.prog 115 #[.agg #[.slice A0_0 l0_0.length c0_0], .string a1] w fun e w' => e = .returned (.bool r) ∧ Below w.heap.size w w' := by
 have hu26 := Tryz.underlying26
 have HR0_0 := zb.mk hr0_0
 have HC0_0 := zb.mk hc0_0
 clear hr0_0 hc0_0
 have HB := zb.mk (Below.refl w.heap.size w)
 have H : ((zfb.f l0_0).bind fun t319 => (if t319 = true then ((impl_isWord.f a1).bind fun t320 => (some t320)) else (some false))) = some r := h
 clear h
 replace H := Option.bind_eq_some_iff.mp H
 obtain ⟨t319, A30, H⟩ := H
 replace H : (if t319 = true then ((impl_isWord.f a1).bind fun t320 => (some t320)) else (some false)) = some r := H
 have A3 := zb.mk A30
 clear A30
 by_cases c4 : t319 = true
 ·subst c4
  have H1 : ((impl_isWord.f a1).bind fun t320 => (some t320)) = some r := by rw [if_pos rfl] at H; exact H
  clear H
  have H := H1
  clear H1
  replace H := Option.bind_eq_some_iff.mp H
  obtain ⟨t320, A50, H⟩ := H
  replace H : (some t320) = some r := H
  have A5 := zb.mk A50
  clear A50
  obtain rfl := Option.some.inj H
  go_enter Tryz.func115, Tryz.ntmps115
  go_wp2_with (first | ((with_reducible refine zoa (N := 2) rfl ?_); refine zEa ?hg (N := 2) ?hd (cs := #[.slice A0_0 l0_0.length c0_0]) (t := 26) ?hr ?_; (case hd => rfl); (case hg => rfl); (case hr => first | (go_simp; done) | (go_simp; rfl)); intro gb318 hg w6 hbox hb; have n0_ := zb.mk (zw (by repeat (first | (with_reducible first | exact HB.out | apply zg | apply ze | apply zf) | exact HB.out)) hb); have n1_ := zb.mk (hbox); have n2_ := zb.mk ((by rw [hg]; exact (zt (by repeat (first | (with_reducible first | exact HB.out | apply zg | apply ze | apply zf) | exact HB.out))) : w.heap.size ≤ gb318)); have n3_ := zb.mk ((by rw [hg]; exact (zt (by repeat (first | (with_reducible first | exact HB.out | apply zg | apply ze | apply zf) | exact HB.out))) : w.heap.size ≤ gb318)); clear HB; have HB := n0_; have BK318 := n1_; have GW318 := n2_; have GE318 := n3_; clear n0_ n1_ n2_ n3_; clear hb hbox hg; have hcz7_0 : w6.cell? ⟨gb318, 0, none⟩ = some (.slice A0_0 l0_0.length c0_0) := (zD BK318.out 0).trans rfl; have hfz7_0 := zz BK318.out 0) | ((with_reducible refine zH (f := 129) rfl ?_); refine zra (some 6) rfl rfl Tryz.func129 (by kernel_rfl) rfl #[.agg #[.slice A0_0 l0_0.length c0_0]] rfl (by (try simp only [List.map_toArray, List.map_cons, List.map_nil]); first | done | rfl | (simp only [List.length_drop, List.length_take]; rfl)) ?_; (with_reducible refine (zfb.calls _ _ l0_0 true _ ?side1 ?side2 A3.out).mono ?_); (case side1 => repeat (first | exact (Kd.zV HR0_0.out HB.out) | (with_reducible refine Kd.zga ?_ _) | (with_reducible refine Kd.zia ?_ _) | (with_reducible refine Kd.zAa ?_))); (case side2 => exact HC0_0.out); rintro e w8 ⟨rfl, hb⟩; refine ⟨_, rfl, ?_⟩; have n0_ := zb.mk (zG (g := gb318) (o := .cells #[.slice A0_0 l0_0.length c0_0] 26 (0, 0)) (by (with_reducible repeat (first | refine zk ?_ _ | refine zm ?_ | refine zi ?_ _)); exact BK318.out) hb); have n1_ := zb.mk (zw (by repeat (first | (with_reducible first | exact HB.out | apply zg | apply ze | apply zf | refine zh ?_ GE318.out) | exact HB.out)) hb); clear BK318; clear HB; have BK318 := n0_; have HB := n1_; clear n0_ n1_; (try clear hb); (try clear hb2); (try clear hk); (try clear hi)) | (go_at_call 177; (with_reducible refine (impl_isWord.calls a1 t320 _ A5.out).mono ?_); rintro e w9 ⟨rfl, hb⟩; have n0_ := zb.mk (zG (g := gb318) (o := .cells #[.slice A0_0 l0_0.length c0_0] 26 (0, 0)) (by (with_reducible repeat (first | refine zk ?_ _ | refine zm ?_ | refine zi ?_ _)); exact BK318.out) hb); have n1_ := zb.mk (zw (by repeat (first | (with_reducible first | exact HB.out | apply zg | apply ze | apply zf | refine zh ?_ GE318.out) | exact HB.out)) hb); clear BK318; clear HB; have BK318 := n0_; have HB := n1_; clear n0_ n1_; (try clear hb); (try clear hb2); (try clear hk); (try clear hi)))
  go_ret
  exact ⟨by first | rfl | (simp [zC, zB] <;> rfl) | (simp [*, zC, zB] <;> rfl), by repeat (first | (with_reducible first | exact HB.out | apply zg | apply ze | apply zf | refine zh ?_ GE318.out) | exact HB.out)⟩
 ·replace c4 := Bool.eq_false_iff.mpr c4
  subst c4
  have H1 : (some false) = some r := by rw [if_neg (show ¬ (false = true) by decide)] at H; exact H
  clear H
  have H := H1
  clear H1
  obtain rfl := Option.some.inj H
  go_enter Tryz.func115, Tryz.ntmps115
  go_wp2_with (first | ((with_reducible refine zoa (N := 2) rfl ?_); refine zEa ?hg (N := 2) ?hd (cs := #[.slice A0_0 l0_0.length c0_0]) (t := 26) ?hr ?_; (case hd => rfl); (case hg => rfl); (case hr => first | (go_simp; done) | (go_simp; rfl)); intro gb318 hg w10 hbox hb; have n0_ := zb.mk (zw (by repeat (first | (with_reducible first | exact HB.out | apply zg | apply ze | apply zf) | exact HB.out)) hb); have n1_ := zb.mk (hbox); have n2_ := zb.mk ((by rw [hg]; exact (zt (by repeat (first | (with_reducible first | exact HB.out | apply zg | apply ze | apply zf) | exact HB.out))) : w.heap.size ≤ gb318)); have n3_ := zb.mk ((by rw [hg]; exact (zt (by repeat (first | (with_reducible first | exact HB.out | apply zg | apply ze | apply zf) | exact HB.out))) : w.heap.size ≤ gb318)); clear HB; have HB := n0_; have BK318 := n1_; have GW318 := n2_; have GE318 := n3_; clear n0_ n1_ n2_ n3_; clear hb hbox hg; have hcz11_0 : w10.cell? ⟨gb318, 0, none⟩ = some (.slice A0_0 l0_0.length c0_0) := (zD BK318.out 0).trans rfl; have hfz11_0 := zz BK318.out 0) | ((with_reducible refine zH (f := 129) rfl ?_); refine zra (some 6) rfl rfl Tryz.func129 (by kernel_rfl) rfl #[.agg #[.slice A0_0 l0_0.length c0_0]] rfl (by (try simp only [List.map_toArray, List.map_cons, List.map_nil]); first | done | rfl | (simp only [List.length_drop, List.length_take]; rfl)) ?_; (with_reducible refine (zfb.calls _ _ l0_0 false _ ?side1 ?side2 A3.out).mono ?_); (case side1 => repeat (first | exact (Kd.zV HR0_0.out HB.out) | (with_reducible refine Kd.zga ?_ _) | (with_reducible refine Kd.zia ?_ _) | (with_reducible refine Kd.zAa ?_))); (case side2 => exact HC0_0.out); rintro e w12 ⟨rfl, hb⟩; refine ⟨_, rfl, ?_⟩; have n0_ := zb.mk (zG (g := gb318) (o := .cells #[.slice A0_0 l0_0.length c0_0] 26 (0, 0)) (by (with_reducible repeat (first | refine zk ?_ _ | refine zm ?_ | refine zi ?_ _)); exact BK318.out) hb); have n1_ := zb.mk (zw (by repeat (first | (with_reducible first | exact HB.out | apply zg | apply ze | apply zf | refine zh ?_ GE318.out) | exact HB.out)) hb); clear BK318; clear HB; have BK318 := n0_; have HB := n1_; clear n0_ n1_; (try clear hb); (try clear hb2); (try clear hk); (try clear hi)))
  go_ret
  exact ⟨by first | rfl | (simp [zC, zB] <;> rfl) | (simp [*, zC, zB] <;> rfl), by repeat (first | (with_reducible first | exact HB.out | apply zg | apply ze | apply zf | refine zh ?_ GE318.out) | exact HB.out)⟩
end Go.Proofs.YtfabennfhmlihaaGreatDoor.P
end
section
namespace Go.Proofs.YtfabennfhmlihaaGreatDoor.P
open Go.RowKit Go.Proofs.YtfabennfhmlihaaGreatDoorW.zJ Go.Proofs.YtfabennfhmlihaaGreatDoorW.zU Go.Proofs.YtfabennfhmlihaaGreatDoorW.PrintMore
set_option linter.unusedVariables false
set_option linter.unusedSimpArgs false
mutual
def zY.j0 : Nat → ByteArray → Bool → List (zL) → Option (ByteArray × Bool)
 | 0, _, _, _ => none
 | k + 1, x1, x16, x364000 => if x16 = true then (some ((⟨#[]⟩ : ByteArray), false)) else (zY.l0 k x1 (x1.size : Int) 0 x364000)
def zY.l0 : Nat → ByteArray → Int → Int → List (zL) → Option (ByteArray × Bool)
 | 0, _, _, _, _ => none
 | k + 1, x1, x18, x19, x364000 => if x19 < x18 then (if 0 ≤ x19 then (if x19 ≤ (x1.size : Int) then ((zDa.f x364000 (x1.extract 0 (x19 : Int).toNat)).bind fun t366 => (if (t366.length : Int) = 1 then (some (x1.extract 0 (x19 : Int).toNat, true)) else (zY.l0 k x1 x18 (wrap64 (x19 + 1)) x364000))) else (none)) else (none)) else (some (x1, true))
end
def zY.f (k : Nat) (l0_0 : List (zL)) (a1 : ByteArray) : Option (ByteArray × Bool) := (zhb.f l0_0 a1).bind fun t364 => (if t364 = true then ((impl_Trie_has.f k l0_0 a1).bind fun t365 => (zY.j0 k a1 (!t365) l0_0)) else (zY.j0 k a1 true l0_0))
set_option maxHeartbeats 8000000 in
set_option maxRecDepth 100000 in
theorem zY.calls (k : Nat) (A0_0 : Option Addr) (c0_0 : Nat) (l0_0 : List (zL)) (a1 : ByteArray) (r1 : ByteArray) (r2 : Bool) (w : World) (hr0_0 : Kd.C zXa w A0_0 l0_0.length l0_0) (hc0_0 : l0_0.length ≤ c0_0) (h : zY.f k l0_0 a1 = some (r1, r2)) :
  Calls Tryz.prog 11 #[.agg #[.slice A0_0 l0_0.length c0_0], .string a1] w fun e w' => e = .returned (.tuple #[.string r1, .bool r2]) ∧ Below w.heap.size w w' := by
 have hu26 := Tryz.underlying26
 have HR0_0 := zb.mk hr0_0
 have HC0_0 := zb.mk hc0_0
 clear hr0_0 hc0_0
 have HB := zb.mk (Below.refl w.heap.size w)
 have H : ((zhb.f l0_0 a1).bind fun t364 => (if t364 = true then ((impl_Trie_has.f k l0_0 a1).bind fun t365 => (zY.j0 k a1 (!t365) l0_0)) else (zY.j0 k a1 true l0_0))) = some (r1, r2) := h
 clear h
 have HC3 := zb.mk H
 clear H
 go_enter Tryz.func11, Tryz.ntmps11
 go_upto_region 1 with (first | ((with_reducible refine zoa (N := 2) rfl ?_); refine zEa ?hg (N := 2) ?hd (cs := #[.slice A0_0 l0_0.length c0_0]) (t := 26) ?hr ?_; (case hd => rfl); (case hg => rfl); (case hr => first | (go_simp; done) | (go_simp; rfl)); intro gb363 hg w4 hbox hb; have n0_ := zb.mk (zw (by repeat (first | (with_reducible first | exact HB.out | apply zg | apply ze | apply zf) | exact HB.out)) hb); have n1_ := zb.mk (hbox); have n2_ := zb.mk ((by rw [hg]; exact (zt (by repeat (first | (with_reducible first | exact HB.out | apply zg | apply ze | apply zf) | exact HB.out))) : w.heap.size ≤ gb363)); have n3_ := zb.mk ((by rw [hg]; exact (zt (by repeat (first | (with_reducible first | exact HB.out | apply zg | apply ze | apply zf) | exact HB.out))) : w.heap.size ≤ gb363)); clear HB; have HB := n0_; have BK363 := n1_; have GW363 := n2_; have GE363 := n3_; clear n0_ n1_ n2_ n3_; clear hb hbox hg))
 (try simp only [Act.put, List.setIfInBounds_toArray, List.set_cons_zero, List.set_cons_succ])
 go_cut [16] (fun v16 wc => ∃ (kq : Nat) (x16_2 : Bool), v16 = .bool x16_2 ∧ zb (zY.j0 kq a1 x16_2 l0_0 = some (r1, r2)) ∧ zb (kq ≤ k) ∧ zb (wc.heap[gb363]? = some (.cells #[(.slice A0_0 l0_0.length c0_0)] 26 (0, 0))) ∧ zb (Below w.heap.size w wc))
 case first =>
  have H := HC3.out
  clear HC3
  replace H := Option.bind_eq_some_iff.mp H
  obtain ⟨t364, A50, H⟩ := H
  replace H : (if t364 = true then ((impl_Trie_has.f k l0_0 a1).bind fun t365 => (zY.j0 k a1 (!t365) l0_0)) else (zY.j0 k a1 true l0_0)) = some (r1, r2) := H
  have A5 := zb.mk A50
  clear A50
  by_cases c6 : t364 = true
  ·subst c6
   have H1 : ((impl_Trie_has.f k l0_0 a1).bind fun t365 => (zY.j0 k a1 (!t365) l0_0)) = some (r1, r2) := by rw [if_pos rfl] at H; exact H
   clear H
   have H := H1
   clear H1
   replace H := Option.bind_eq_some_iff.mp H
   obtain ⟨t365, A70, H⟩ := H
   replace H : (zY.j0 k a1 (!t365) l0_0) = some (r1, r2) := H
   have A7 := zb.mk A70
   clear A70
   have H' := zb.mk H
   clear H
   have hcz8_0 : w4.cell? ⟨gb363, 0, none⟩ = some (.slice A0_0 l0_0.length c0_0) := (zD BK363.out 0).trans rfl
   have hfz8_0 := zz BK363.out 0
   go_wp2_with (first | ((with_reducible refine zH (f := 115) rfl ?_); refine zra (some 9) rfl rfl Tryz.func115 (by kernel_rfl) rfl #[.agg #[.slice A0_0 l0_0.length c0_0], .string a1] rfl (by (try simp only [List.map_toArray, List.map_cons, List.map_nil]); first | done | rfl | (simp only [List.length_drop, List.length_take]; rfl)) ?_; (with_reducible refine (zhb.calls _ _ l0_0 a1 true _ ?side1 ?side2 A5.out).mono ?_); (case side1 => repeat (first | exact (Kd.zV HR0_0.out HB.out) | (with_reducible refine Kd.zga ?_ _) | (with_reducible refine Kd.zia ?_ _) | (with_reducible refine Kd.zAa ?_))); (case side2 => exact HC0_0.out); rintro e w9 ⟨rfl, hb⟩; refine ⟨_, rfl, ?_⟩; have n0_ := zb.mk (zG (g := gb363) (o := .cells #[.slice A0_0 l0_0.length c0_0] 26 (0, 0)) (by (with_reducible repeat (first | refine zk ?_ _ | refine zm ?_ | refine zi ?_ _)); exact BK363.out) hb); have n1_ := zb.mk (zw (by repeat (first | (with_reducible first | exact HB.out | apply zg | apply ze | apply zf | refine zh ?_ GE363.out) | exact HB.out)) hb); clear BK363; clear HB; have BK363 := n0_; have HB := n1_; clear n0_ n1_; (try clear hb); (try clear hb2); (try clear hk); (try clear hi); have hcz10_0 : w9.cell? ⟨gb363, 0, none⟩ = some (.slice A0_0 l0_0.length c0_0) := (zD BK363.out 0).trans rfl; have hfz10_0 := zz BK363.out 0) | (go_at_call 116; (with_reducible refine (impl_Trie_has.calls k _ _ l0_0 a1 t365 _ ?side1 ?side2 A7.out).mono ?_); (case side1 => repeat (first | exact (Kd.zV HR0_0.out HB.out) | (with_reducible refine Kd.zga ?_ _) | (with_reducible refine Kd.zia ?_ _) | (with_reducible refine Kd.zAa ?_))); (case side2 => exact HC0_0.out); rintro e w11 ⟨rfl, hb⟩; have n0_ := zb.mk (zG (g := gb363) (o := .cells #[.slice A0_0 l0_0.length c0_0] 26 (0, 0)) (by (with_reducible repeat (first | refine zk ?_ _ | refine zm ?_ | refine zi ?_ _)); exact BK363.out) hb); have n1_ := zb.mk (zw (by repeat (first | (with_reducible first | exact HB.out | apply zg | apply ze | apply zf | refine zh ?_ GE363.out) | exact HB.out)) hb); clear BK363; clear HB; have BK363 := n0_; have HB := n1_; clear n0_ n1_; (try clear hb); (try clear hb2); (try clear hk); (try clear hi)))
   go_meet
   case rel => exact ⟨_, (!t365), (by first | rfl | (simp; done) | (simp [*]; done)), H', ⟨by first | omega | exact Nat.le_refl _⟩, ⟨by (with_reducible repeat (first | refine zk ?_ _ | refine zm ?_ | refine zi ?_ _)); exact BK363.out⟩, ⟨by repeat (first | (with_reducible first | exact HB.out | apply zg | apply ze | apply zf | refine zh ?_ GE363.out) | exact HB.out)⟩⟩
  ·replace c6 := Bool.eq_false_iff.mpr c6
   subst c6
   have H1 : (zY.j0 k a1 true l0_0) = some (r1, r2) := by rw [if_neg (show ¬ (false = true) by decide)] at H; exact H
   clear H
   have H := H1
   clear H1
   have H' := zb.mk H
   clear H
   have hcz12_0 : w4.cell? ⟨gb363, 0, none⟩ = some (.slice A0_0 l0_0.length c0_0) := (zD BK363.out 0).trans rfl
   have hfz12_0 := zz BK363.out 0
   go_wp2_with (first | ((with_reducible refine zH (f := 115) rfl ?_); refine zra (some 9) rfl rfl Tryz.func115 (by kernel_rfl) rfl #[.agg #[.slice A0_0 l0_0.length c0_0], .string a1] rfl (by (try simp only [List.map_toArray, List.map_cons, List.map_nil]); first | done | rfl | (simp only [List.length_drop, List.length_take]; rfl)) ?_; (with_reducible refine (zhb.calls _ _ l0_0 a1 false _ ?side1 ?side2 A5.out).mono ?_); (case side1 => repeat (first | exact (Kd.zV HR0_0.out HB.out) | (with_reducible refine Kd.zga ?_ _) | (with_reducible refine Kd.zia ?_ _) | (with_reducible refine Kd.zAa ?_))); (case side2 => exact HC0_0.out); rintro e w13 ⟨rfl, hb⟩; refine ⟨_, rfl, ?_⟩; have n0_ := zb.mk (zG (g := gb363) (o := .cells #[.slice A0_0 l0_0.length c0_0] 26 (0, 0)) (by (with_reducible repeat (first | refine zk ?_ _ | refine zm ?_ | refine zi ?_ _)); exact BK363.out) hb); have n1_ := zb.mk (zw (by repeat (first | (with_reducible first | exact HB.out | apply zg | apply ze | apply zf | refine zh ?_ GE363.out) | exact HB.out)) hb); clear BK363; clear HB; have BK363 := n0_; have HB := n1_; clear n0_ n1_; (try clear hb); (try clear hb2); (try clear hk); (try clear hi)))
   go_meet
   case rel => exact ⟨_, (true), (by first | rfl | (simp; done) | (simp [*]; done)), H', ⟨by first | omega | exact Nat.le_refl _⟩, ⟨by (with_reducible repeat (first | refine zk ?_ _ | refine zm ?_ | refine zi ?_ _)); exact BK363.out⟩, ⟨by repeat (first | (with_reducible first | exact HB.out | apply zg | apply ze | apply zf | refine zh ?_ GE363.out) | exact HB.out)⟩⟩
 case rest =>
  clear HC3
  try clear c1
  try clear p2
  try clear c6
  try clear c11
  try clear hcz10_0
  try clear hcz12_0
  try clear hcz8_0
  try clear hfz10_0
  try clear hfz12_0
  try clear hfz8_0
  obtain ⟨kq, x16_2, rfl, HA, HJ2, BK363, HB⟩ := hcut
  cases kq with
  | zero => exact absurd HA.out (by simp [zY.j0])
  | succ kj2 =>
   have H := HA.out
   clear HA
   simp only [zY.j0] at H
   by_cases c14 : x16_2 = true
   ·subst c14
    have H1 : (some ((⟨#[]⟩ : ByteArray), false)) = some (r1, r2) := by rw [if_pos rfl] at H; exact H
    clear H
    have H := H1
    clear H1
    simp only [Option.some.injEq, Prod.mk.injEq] at H
    obtain ⟨rfl, rfl⟩ := H
    go_wp2
    go_ret2
    exact ⟨by first | rfl | (simp [zC, zB] <;> rfl) | (simp [*, zC, zB] <;> rfl), by repeat (first | (with_reducible first | exact HB.out | apply zg | apply ze | apply zf | refine zh ?_ GE363.out) | exact HB.out)⟩
   ·replace c14 := Bool.eq_false_iff.mpr c14
    subst c14
    have H1 : (zY.l0 kj2 a1 (a1.size : Int) 0 l0_0) = some (r1, r2) := by rw [if_neg (show ¬ (false = true) by decide)] at H; exact H
    clear H
    have H := H1
    clear H1
    have H' := zb.mk H
    clear H
    go_wp2
    go_loopg [19] kj2 (fun kq v19 w' => ∃ (x19_2 : Int), v19 = .int .i64 x19_2 ∧ zb (zY.l0 kq a1 (a1.size : Int) x19_2 l0_0 = some (r1, r2)) ∧ zb (kq ≤ kj2) ∧ zb (w'.heap[gb363]? = some (.cells #[(.slice A0_0 l0_0.length c0_0)] 26 (0, 0))) ∧ zb (Below w.heap.size w w'))
    case atStart => exact ⟨(0), (by first | rfl | (simp; done) | (simp [*]; done)), H', ⟨Nat.le_refl _⟩, ⟨by (with_reducible repeat (first | refine zk ?_ _ | refine zm ?_ | refine zi ?_ _)); exact BK363.out⟩, ⟨by repeat (first | (with_reducible first | exact HB.out | apply zg | apply ze | apply zf | refine zh ?_ GE363.out) | exact HB.out)⟩⟩
    case round =>
     clear H'
     try clear c1
     try clear p2
     try clear c6
     try clear c11
     try clear c14
     try clear hcz10_0
     try clear hcz12_0
     try clear hcz8_0
     try clear hfz10_0
     try clear hfz12_0
     try clear hfz8_0
     try clear p2
     obtain ⟨x19_2, rfl, HA, HK2, BK363, HB⟩ := hrel
     cases gk with
     | zero => exact absurd HA.out (by simp [zY.l0])
     | succ k2 =>
      have H := HA.out
      clear HA
      simp only [zY.l0] at H
      by_cases c15 : x19_2 < (a1.size : Int)
      ·rw [if_pos c15] at H
       have c15b0 : decide (x19_2 < (a1.size : Int)) = true := decide_eq_true c15
       clear c15
       by_cases c16 : 0 ≤ x19_2
       ·rw [if_pos c16] at H
        have c16b0 := eq_true c16
        have c16b1 : decide (0 ≤ x19_2) = true := decide_eq_true c16
        clear c16
        by_cases c17 : x19_2 ≤ (a1.size : Int)
        ·rw [if_pos c17] at H
         have c17b0 := eq_true c17
         have c17b1 : decide (x19_2 ≤ (a1.size : Int)) = true := decide_eq_true c17
         clear c17
         replace H := Option.bind_eq_some_iff.mp H
         obtain ⟨t366, A180, H⟩ := H
         replace H : (if (t366.length : Int) = 1 then (some (a1.extract 0 (x19_2 : Int).toNat, true)) else (zY.l0 k2 a1 (a1.size : Int) (wrap64 (x19_2 + 1)) l0_0)) = some (r1, r2) := H
         have A18 := zb.mk A180
         clear A180
         by_cases c19 : (t366.length : Int) = 1
         ·rw [if_pos c19] at H
          have c19b0 : ((t366.length : Int) == 1) = true := beq_iff_eq.mpr c19
          have c19b1 : ((t366.length : Int) != 1) = false := bne_eq_false_iff_eq.mpr c19
          clear c19
          have c20b0 := eq_true (of_decide_eq_true (by first | (with_reducible assumption) | assumption) : 0 ≤ x19_2)
          have c21b0 := eq_true (of_decide_eq_true (by first | (with_reducible assumption) | assumption) : x19_2 ≤ (a1.size : Int))
          simp only [Option.some.injEq, Prod.mk.injEq] at H
          obtain ⟨rfl, rfl⟩ := H
          try go_wp2
          have n0_ := zb.mk (zm BK363.out)
          have n1_ := zb.mk (zf HB.out)
          clear BK363
          clear HB
          have BK363 := n0_
          have HB := n1_
          clear n0_ n1_
          refine start_ (n := 7) (S := fun w' => w'.cell? ⟨gb363, 0, none⟩ = some (.slice A0_0 l0_0.length c0_0)) (ds := []) #[false, false, false, false, false, false, false] (by kernel_rfl) rfl rfl ((zD BK363.out 0).trans rfl) (fun hHeld => ?_)
          generalize wr.drew = w22 at BK363 HB hHeld ⊢
          refine zib (i := 1) (N := some 23) (v := ?_) (a' := ?_) #[false, true, false, false, false, false, false] rfl rfl (by kernel_rfl) (fun _ _ _ h => h) (Or.inl ⟨by rfl, ?_⟩) ?_ ?_
          rotate_left
          ·intro w'
           go_simp
           with_reducible rfl
          rotate_left
          ·simp only [Act.put, List.setIfInBounds_toArray, List.set_cons_zero, List.set_cons_succ, zva]
           rfl
          refine zib (i := 2) (N := some 24) (v := ?_) (a' := ?_) #[false, true, true, false, false, false, false] rfl rfl (by kernel_rfl) (fun _ _ _ h => h) (Or.inl ⟨by rfl, ?_⟩) ?_ ?_
          rotate_left
          ·intro w'
           go_simp
           with_reducible rfl
          rotate_left
          ·simp only [Act.put, List.setIfInBounds_toArray, List.set_cons_zero, List.set_cons_succ, zva]
           rfl
          refine zib (i := 3) (N := some 25) (v := ?_) (a' := ?_) #[false, true, true, true, false, false, false] rfl rfl (by kernel_rfl) (fun _ _ _ h => h) (Or.inl ⟨by rfl, ?_⟩) ?_ ?_
          rotate_left
          ·intro w'
           go_simp
           with_reducible rfl
          rotate_left
          ·simp only [Act.put, List.setIfInBounds_toArray, List.set_cons_zero, List.set_cons_succ, zva]
           rfl
          refine take_ (i := 0) (N := some 22) (v := ?_) (a' := ?_) #[true, true, true, true, false, false, false] rfl rfl (by kernel_rfl) (fun _ _ _ h => h) (Or.inl ⟨by rfl, ?_⟩) hHeld ?_ ?_
          rotate_left
          ·intro w' s0
           go_simp
           with_reducible rfl
          rotate_left
          ·simp only [Act.put, List.setIfInBounds_toArray, List.set_cons_zero, List.set_cons_succ, zva]
           rfl
          refine one_ (i := 4) (N := some 26) #[true, true, true, true, true, false, false] rfl rfl (by kernel_rfl) (by decide) (fun K hK => ?_)
          refine goes_ Tryz.func117 (by kernel_rfl) rfl #[.agg #[.slice A0_0 l0_0.length c0_0], .string (a1.extract 0 (x19_2 : Int).toNat)] (by rfl) rfl rfl (by (try simp only [List.map_toArray, List.map_cons, List.map_nil]); first | done | rfl | (simp only [List.length_drop, List.length_take]; rfl)) ?_
          with_reducible refine (zDa.calls _ _ l0_0 (a1.extract 0 (x19_2 : Int).toNat) t366 _ ?side1 ?side2 A18.out).mono ?_
          (case side1 => repeat (first | exact (Kd.zV HR0_0.out HB.out) | (with_reducible refine Kd.zga ?_ _) | (with_reducible refine Kd.zia ?_ _) | (with_reducible refine Kd.zAa ?_)))
          (case side2 => exact HC0_0.out)
          rintro e w23 ⟨v367, rfl, ho0, hb⟩
          refine ⟨_, rfl, ?_⟩
          have n0_ := zb.mk (Kd.zua ho0 (zt (by repeat (first | (with_reducible first | exact HB.out | apply zg | apply ze | apply zf | refine zh ?_ GE363.out) | exact HB.out))))
          have n1_ := zb.mk (zG (g := gb363) (o := .cells #[.slice A0_0 l0_0.length c0_0] 26 (0, 0)) (by (with_reducible repeat (first | refine zk ?_ _ | refine zm ?_ | refine zi ?_ _)); exact BK363.out) hb)
          have n2_ := zb.mk (zw (by repeat (first | (with_reducible first | exact HB.out | apply zg | apply ze | apply zf | refine zh ?_ GE363.out) | exact HB.out)) hb)
          clear BK363
          clear HB
          have HO368 := n0_
          have BK363 := n1_
          have HB := n2_
          clear n0_ n1_ n2_
          (try clear hb)
          (try clear hb2)
          (try clear hk)
          (try clear hi)
          (try clear ho0)
          obtain ⟨Ao24, co24, eo24⟩ := Kd.zpa HO368.out
          (first | subst eo24 | (injection eo24 with f1_ f2_ f3_; have f4_ := f1_.symm; have f5_ := f3_.symm; clear f1_ f2_ f3_; subst f4_; subst f5_))
          refine hK.out _ _ ((zD BK363.out 0).trans rfl) (fun hHeld => ?_)
          clear hK K
          refine norm_ (a' := ?_) ?_ ?_
          rotate_left
          ·show Act.put _ (some 26) _ = _
           simp only [Act.put, List.setIfInBounds_toArray, List.set_cons_zero, List.set_cons_succ, zva]
           rfl
          refine zib (i := 5) (N := some 27) (v := ?_) (a' := ?_) #[true, true, true, true, true, true, false] rfl rfl (by kernel_rfl) (fun _ _ _ h => h) (Or.inl ⟨by rfl, ?_⟩) ?_ ?_
          rotate_left
          ·intro w'
           go_simp
           with_reducible rfl
          rotate_left
          ·simp only [Act.put, List.setIfInBounds_toArray, List.set_cons_zero, List.set_cons_succ, zva]
           rfl
          refine zib (i := 6) (N := some 28) (v := ?_) (a' := ?_) #[true, true, true, true, true, true, true] rfl rfl (by kernel_rfl) (fun _ _ _ h => h) (Or.inl ⟨by rfl, ?_⟩) ?_ ?_
          rotate_left
          ·intro w'
           go_simp
           with_reducible rfl
          rotate_left
          ·simp only [Act.put, List.setIfInBounds_toArray, List.set_cons_zero, List.set_cons_succ, zva]
           rfl
          refine done_ (by kernel_rfl) ?_
          try go_wp2
          go_ret2
          exact ⟨by first | rfl | (simp [zC, zB] <;> rfl) | (simp [*, zC, zB] <;> rfl), by repeat (first | (with_reducible first | exact HB.out | apply zg | apply ze | apply zf | refine zh ?_ GE363.out) | exact HB.out)⟩
         ·rw [if_neg c19] at H
          have c19b0 : ((t366.length : Int) == 1) = false := beq_eq_false_iff_ne.mpr c19
          have c19b1 : ((t366.length : Int) != 1) = true := bne_iff_ne.mpr c19
          have H' := zb.mk H
          clear H
          try go_wp2
          have n0_ := zb.mk (zm BK363.out)
          have n1_ := zb.mk (zf HB.out)
          clear BK363
          clear HB
          have BK363 := n0_
          have HB := n1_
          clear n0_ n1_
          refine start_ (n := 7) (S := fun w' => w'.cell? ⟨gb363, 0, none⟩ = some (.slice A0_0 l0_0.length c0_0)) (ds := []) #[false, false, false, false, false, false, false] (by kernel_rfl) rfl rfl ((zD BK363.out 0).trans rfl) (fun hHeld => ?_)
          generalize wr.drew = w25 at BK363 HB hHeld ⊢
          refine zib (i := 1) (N := some 23) (v := ?_) (a' := ?_) #[false, true, false, false, false, false, false] rfl rfl (by kernel_rfl) (fun _ _ _ h => h) (Or.inl ⟨by rfl, ?_⟩) ?_ ?_
          rotate_left
          ·intro w'
           go_simp
           with_reducible rfl
          rotate_left
          ·simp only [Act.put, List.setIfInBounds_toArray, List.set_cons_zero, List.set_cons_succ, zva]
           rfl
          refine zib (i := 2) (N := some 24) (v := ?_) (a' := ?_) #[false, true, true, false, false, false, false] rfl rfl (by kernel_rfl) (fun _ _ _ h => h) (Or.inl ⟨by rfl, ?_⟩) ?_ ?_
          rotate_left
          ·intro w'
           go_simp
           with_reducible rfl
          rotate_left
          ·simp only [Act.put, List.setIfInBounds_toArray, List.set_cons_zero, List.set_cons_succ, zva]
           rfl
          refine zib (i := 3) (N := some 25) (v := ?_) (a' := ?_) #[false, true, true, true, false, false, false] rfl rfl (by kernel_rfl) (fun _ _ _ h => h) (Or.inl ⟨by rfl, ?_⟩) ?_ ?_
          rotate_left
          ·intro w'
           go_simp
           with_reducible rfl
          rotate_left
          ·simp only [Act.put, List.setIfInBounds_toArray, List.set_cons_zero, List.set_cons_succ, zva]
           rfl
          refine take_ (i := 0) (N := some 22) (v := ?_) (a' := ?_) #[true, true, true, true, false, false, false] rfl rfl (by kernel_rfl) (fun _ _ _ h => h) (Or.inl ⟨by rfl, ?_⟩) hHeld ?_ ?_
          rotate_left
          ·intro w' s0
           go_simp
           with_reducible rfl
          rotate_left
          ·simp only [Act.put, List.setIfInBounds_toArray, List.set_cons_zero, List.set_cons_succ, zva]
           rfl
          refine one_ (i := 4) (N := some 26) #[true, true, true, true, true, false, false] rfl rfl (by kernel_rfl) (by decide) (fun K hK => ?_)
          refine goes_ Tryz.func117 (by kernel_rfl) rfl #[.agg #[.slice A0_0 l0_0.length c0_0], .string (a1.extract 0 (x19_2 : Int).toNat)] (by rfl) rfl rfl (by (try simp only [List.map_toArray, List.map_cons, List.map_nil]); first | done | rfl | (simp only [List.length_drop, List.length_take]; rfl)) ?_
          with_reducible refine (zDa.calls _ _ l0_0 (a1.extract 0 (x19_2 : Int).toNat) t366 _ ?side1 ?side2 A18.out).mono ?_
          (case side1 => repeat (first | exact (Kd.zV HR0_0.out HB.out) | (with_reducible refine Kd.zga ?_ _) | (with_reducible refine Kd.zia ?_ _) | (with_reducible refine Kd.zAa ?_)))
          (case side2 => exact HC0_0.out)
          rintro e w26 ⟨v367, rfl, ho0, hb⟩
          refine ⟨_, rfl, ?_⟩
          have n0_ := zb.mk (Kd.zua ho0 (zt (by repeat (first | (with_reducible first | exact HB.out | apply zg | apply ze | apply zf | refine zh ?_ GE363.out) | exact HB.out))))
          have n1_ := zb.mk (zG (g := gb363) (o := .cells #[.slice A0_0 l0_0.length c0_0] 26 (0, 0)) (by (with_reducible repeat (first | refine zk ?_ _ | refine zm ?_ | refine zi ?_ _)); exact BK363.out) hb)
          have n2_ := zb.mk (zw (by repeat (first | (with_reducible first | exact HB.out | apply zg | apply ze | apply zf | refine zh ?_ GE363.out) | exact HB.out)) hb)
          clear BK363
          clear HB
          have HO368 := n0_
          have BK363 := n1_
          have HB := n2_
          clear n0_ n1_ n2_
          (try clear hb)
          (try clear hb2)
          (try clear hk)
          (try clear hi)
          (try clear ho0)
          obtain ⟨Ao27, co27, eo27⟩ := Kd.zpa HO368.out
          (first | subst eo27 | (injection eo27 with f1_ f2_ f3_; have f4_ := f1_.symm; have f5_ := f3_.symm; clear f1_ f2_ f3_; subst f4_; subst f5_))
          refine hK.out _ _ ((zD BK363.out 0).trans rfl) (fun hHeld => ?_)
          clear hK K
          refine norm_ (a' := ?_) ?_ ?_
          rotate_left
          ·show Act.put _ (some 26) _ = _
           simp only [Act.put, List.setIfInBounds_toArray, List.set_cons_zero, List.set_cons_succ, zva]
           rfl
          refine zib (i := 5) (N := some 27) (v := ?_) (a' := ?_) #[true, true, true, true, true, true, false] rfl rfl (by kernel_rfl) (fun _ _ _ h => h) (Or.inl ⟨by rfl, ?_⟩) ?_ ?_
          rotate_left
          ·intro w'
           go_simp
           with_reducible rfl
          rotate_left
          ·simp only [Act.put, List.setIfInBounds_toArray, List.set_cons_zero, List.set_cons_succ, zva]
           rfl
          refine zib (i := 6) (N := some 28) (v := ?_) (a' := ?_) #[true, true, true, true, true, true, true] rfl rfl (by kernel_rfl) (fun _ _ _ h => h) (Or.inl ⟨by rfl, ?_⟩) ?_ ?_
          rotate_left
          ·intro w'
           go_simp
           with_reducible rfl
          rotate_left
          ·simp only [Act.put, List.setIfInBounds_toArray, List.set_cons_zero, List.set_cons_succ, zva]
           rfl
          refine done_ (by kernel_rfl) ?_
          try go_wp2
          go_roundg k2
          case measure => have := HJ2.out; have := HK2.out; omega
          case rel => exact ⟨(wrap64 (x19_2 + 1)), (by first | rfl | (simp; done) | (simp [*]; done)), H', ⟨by have := HJ2.out; have := HK2.out; omega⟩, ⟨by (with_reducible repeat (first | refine zk ?_ _ | refine zm ?_ | refine zi ?_ _)); exact BK363.out⟩, ⟨by repeat (first | (with_reducible first | exact HB.out | apply zg | apply ze | apply zf | refine zh ?_ GE363.out) | exact HB.out)⟩⟩
        ·rw [if_neg c17] at H
         exact absurd H (by simp)
       ·rw [if_neg c16] at H
        exact absurd H (by simp)
      ·rw [if_neg c15] at H
       have c15b0 : decide (x19_2 < (a1.size : Int)) = false := decide_eq_false c15
       clear c15
       simp only [Option.some.injEq, Prod.mk.injEq] at H
       obtain ⟨rfl, rfl⟩ := H
       go_wp2
       go_ret2
       exact ⟨by first | rfl | (simp [zC, zB] <;> rfl) | (simp [*, zC, zB] <;> rfl), by repeat (first | (with_reducible first | exact HB.out | apply zg | apply ze | apply zf | refine zh ?_ GE363.out) | exact HB.out)⟩
end Go.Proofs.YtfabennfhmlihaaGreatDoor.P
end
section
namespace Go.Proofs.YtfabennfhmlihaaGreatDoor.P
open Go.RowKit Go.Proofs.YtfabennfhmlihaaGreatDoorW.zJ Go.Proofs.YtfabennfhmlihaaGreatDoorW.zU Go.Proofs.YtfabennfhmlihaaGreatDoorW.PrintMore
set_option linter.unusedVariables false
set_option linter.unusedSimpArgs false
def zHa.f (l0_0 : List (zL)) (a1 : ByteArray) : Option (List ByteArray × Bool) := (zhb.f l0_0 a1).bind fun t393 => (if t393 = true then ((zDa.f l0_0 a1).bind fun t394 => (some (t394, true))) else (some (([] : List ByteArray), false)))
set_option maxHeartbeats 8000000 in
set_option maxRecDepth 100000 in
theorem zHa.calls (A0_0 : Option Addr) (c0_0 : Nat) (l0_0 : List (zL)) (a1 : ByteArray) (r1 : List ByteArray) (r2 : Bool) (w : World) (hr0_0 : Kd.C zXa w A0_0 l0_0.length l0_0) (hc0_0 : l0_0.length ≤ c0_0) (h : zHa.f l0_0 a1 = some (r1, r2)) :
  Calls Tryz.prog 13 #[.agg #[.slice A0_0 l0_0.length c0_0], .string a1] w fun e w' => ∃ v0_ : Value, e = .returned (.tuple #[v0_, .bool r2]) ∧ Kd.R Kd.string 9 w' w.heap.size (fun _ => True) v0_ r1 ∧ Below w.heap.size w w' := by
 have hu26 := Tryz.underlying26
 have HR0_0 := zb.mk hr0_0
 have HC0_0 := zb.mk hc0_0
 clear hr0_0 hc0_0
 have HB := zb.mk (Below.refl w.heap.size w)
 have H : ((zhb.f l0_0 a1).bind fun t393 => (if t393 = true then ((zDa.f l0_0 a1).bind fun t394 => (some (t394, true))) else (some (([] : List ByteArray), false)))) = some (r1, r2) := h
 clear h
 replace H := Option.bind_eq_some_iff.mp H
 obtain ⟨t393, A30, H⟩ := H
 replace H : (if t393 = true then ((zDa.f l0_0 a1).bind fun t394 => (some (t394, true))) else (some (([] : List ByteArray), false))) = some (r1, r2) := H
 have A3 := zb.mk A30
 clear A30
 by_cases c4 : t393 = true
 ·subst c4
  have H1 : ((zDa.f l0_0 a1).bind fun t394 => (some (t394, true))) = some (r1, r2) := by rw [if_pos rfl] at H; exact H
  clear H
  have H := H1
  clear H1
  replace H := Option.bind_eq_some_iff.mp H
  obtain ⟨t394, A50, H⟩ := H
  replace H : (some (t394, true)) = some (r1, r2) := H
  have A5 := zb.mk A50
  clear A50
  simp only [Option.some.injEq, Prod.mk.injEq] at H
  obtain ⟨rfl, rfl⟩ := H
  go_enter Tryz.func13, Tryz.ntmps13
  go_wp2_with (first | ((with_reducible refine zoa (N := 2) rfl ?_); refine zEa ?hg (N := 2) ?hd (cs := #[.slice A0_0 l0_0.length c0_0]) (t := 26) ?hr ?_; (case hd => rfl); (case hg => rfl); (case hr => first | (go_simp; done) | (go_simp; rfl)); intro gb392 hg w6 hbox hb; have n0_ := zb.mk (zw (by repeat (first | (with_reducible first | exact HB.out | apply zg | apply ze | apply zf) | exact HB.out)) hb); have n1_ := zb.mk (hbox); have n2_ := zb.mk ((by rw [hg]; exact (zt (by repeat (first | (with_reducible first | exact HB.out | apply zg | apply ze | apply zf) | exact HB.out))) : w.heap.size ≤ gb392)); have n3_ := zb.mk ((by rw [hg]; exact (zt (by repeat (first | (with_reducible first | exact HB.out | apply zg | apply ze | apply zf) | exact HB.out))) : w.heap.size ≤ gb392)); clear HB; have HB := n0_; have BK392 := n1_; have GW392 := n2_; have GE392 := n3_; clear n0_ n1_ n2_ n3_; clear hb hbox hg; have hcz7_0 : w6.cell? ⟨gb392, 0, none⟩ = some (.slice A0_0 l0_0.length c0_0) := (zD BK392.out 0).trans rfl; have hfz7_0 := zz BK392.out 0) | ((with_reducible refine zH (f := 115) rfl ?_); refine zra (some 8) rfl rfl Tryz.func115 (by kernel_rfl) rfl #[.agg #[.slice A0_0 l0_0.length c0_0], .string a1] rfl (by (try simp only [List.map_toArray, List.map_cons, List.map_nil]); first | done | rfl | (simp only [List.length_drop, List.length_take]; rfl)) ?_; (with_reducible refine (zhb.calls _ _ l0_0 a1 true _ ?side1 ?side2 A3.out).mono ?_); (case side1 => repeat (first | exact (Kd.zV HR0_0.out HB.out) | (with_reducible refine Kd.zga ?_ _) | (with_reducible refine Kd.zia ?_ _) | (with_reducible refine Kd.zAa ?_))); (case side2 => exact HC0_0.out); rintro e w8 ⟨rfl, hb⟩; refine ⟨_, rfl, ?_⟩; have n0_ := zb.mk (zG (g := gb392) (o := .cells #[.slice A0_0 l0_0.length c0_0] 26 (0, 0)) (by (with_reducible repeat (first | refine zk ?_ _ | refine zm ?_ | refine zi ?_ _)); exact BK392.out) hb); have n1_ := zb.mk (zw (by repeat (first | (with_reducible first | exact HB.out | apply zg | apply ze | apply zf | refine zh ?_ GE392.out) | exact HB.out)) hb); clear BK392; clear HB; have BK392 := n0_; have HB := n1_; clear n0_ n1_; (try clear hb); (try clear hb2); (try clear hk); (try clear hi); have hcz9_0 : w8.cell? ⟨gb392, 0, none⟩ = some (.slice A0_0 l0_0.length c0_0) := (zD BK392.out 0).trans rfl; have hfz9_0 := zz BK392.out 0) | ((with_reducible refine zH (f := 117) rfl ?_); refine zra (some 12) rfl rfl Tryz.func117 (by kernel_rfl) rfl #[.agg #[.slice A0_0 l0_0.length c0_0], .string a1] rfl (by (try simp only [List.map_toArray, List.map_cons, List.map_nil]); first | done | rfl | (simp only [List.length_drop, List.length_take]; rfl)) ?_; (with_reducible refine (zDa.calls _ _ l0_0 a1 t394 _ ?side1 ?side2 A5.out).mono ?_); (case side1 => repeat (first | exact (Kd.zV HR0_0.out HB.out) | (with_reducible refine Kd.zga ?_ _) | (with_reducible refine Kd.zia ?_ _) | (with_reducible refine Kd.zAa ?_))); (case side2 => exact HC0_0.out); rintro e w10 ⟨v395, rfl, ho0, hb⟩; refine ⟨_, rfl, ?_⟩; have n0_ := zb.mk (Kd.zua ho0 (zt (by repeat (first | (with_reducible first | exact HB.out | apply zg | apply ze | apply zf | refine zh ?_ GE392.out) | exact HB.out)))); have n1_ := zb.mk (zG (g := gb392) (o := .cells #[.slice A0_0 l0_0.length c0_0] 26 (0, 0)) (by (with_reducible repeat (first | refine zk ?_ _ | refine zm ?_ | refine zi ?_ _)); exact BK392.out) hb); have n2_ := zb.mk (zw (by repeat (first | (with_reducible first | exact HB.out | apply zg | apply ze | apply zf | refine zh ?_ GE392.out) | exact HB.out)) hb); clear BK392; clear HB; have HO396 := n0_; have BK392 := n1_; have HB := n2_; clear n0_ n1_ n2_; (try clear hb); (try clear hb2); (try clear hk); (try clear hi); (try clear ho0)))
  go_ret2
  exact ⟨_, by first | rfl | (simp [zC, zB] <;> rfl) | (simp [*, zC, zB] <;> rfl), by (with_reducible repeat (first | apply Kd.zo | apply Kd.zq | apply Kd.zA)); exact HO396.out, by repeat (first | (with_reducible first | exact HB.out | apply zg | apply ze | apply zf | refine zh ?_ GE392.out) | exact HB.out)⟩
 ·replace c4 := Bool.eq_false_iff.mpr c4
  subst c4
  have H1 : (some (([] : List ByteArray), false)) = some (r1, r2) := by rw [if_neg (show ¬ (false = true) by decide)] at H; exact H
  clear H
  have H := H1
  clear H1
  simp only [Option.some.injEq, Prod.mk.injEq] at H
  obtain ⟨rfl, rfl⟩ := H
  go_enter Tryz.func13, Tryz.ntmps13
  go_wp2_with (first | ((with_reducible refine zoa (N := 2) rfl ?_); refine zEa ?hg (N := 2) ?hd (cs := #[.slice A0_0 l0_0.length c0_0]) (t := 26) ?hr ?_; (case hd => rfl); (case hg => rfl); (case hr => first | (go_simp; done) | (go_simp; rfl)); intro gb392 hg w11 hbox hb; have n0_ := zb.mk (zw (by repeat (first | (with_reducible first | exact HB.out | apply zg | apply ze | apply zf) | exact HB.out)) hb); have n1_ := zb.mk (hbox); have n2_ := zb.mk ((by rw [hg]; exact (zt (by repeat (first | (with_reducible first | exact HB.out | apply zg | apply ze | apply zf) | exact HB.out))) : w.heap.size ≤ gb392)); have n3_ := zb.mk ((by rw [hg]; exact (zt (by repeat (first | (with_reducible first | exact HB.out | apply zg | apply ze | apply zf) | exact HB.out))) : w.heap.size ≤ gb392)); clear HB; have HB := n0_; have BK392 := n1_; have GW392 := n2_; have GE392 := n3_; clear n0_ n1_ n2_ n3_; clear hb hbox hg; have hcz12_0 : w11.cell? ⟨gb392, 0, none⟩ = some (.slice A0_0 l0_0.length c0_0) := (zD BK392.out 0).trans rfl; have hfz12_0 := zz BK392.out 0) | ((with_reducible refine zH (f := 115) rfl ?_); refine zra (some 8) rfl rfl Tryz.func115 (by kernel_rfl) rfl #[.agg #[.slice A0_0 l0_0.length c0_0], .string a1] rfl (by (try simp only [List.map_toArray, List.map_cons, List.map_nil]); first | done | rfl | (simp only [List.length_drop, List.length_take]; rfl)) ?_; (with_reducible refine (zhb.calls _ _ l0_0 a1 false _ ?side1 ?side2 A3.out).mono ?_); (case side1 => repeat (first | exact (Kd.zV HR0_0.out HB.out) | (with_reducible refine Kd.zga ?_ _) | (with_reducible refine Kd.zia ?_ _) | (with_reducible refine Kd.zAa ?_))); (case side2 => exact HC0_0.out); rintro e w13 ⟨rfl, hb⟩; refine ⟨_, rfl, ?_⟩; have n0_ := zb.mk (zG (g := gb392) (o := .cells #[.slice A0_0 l0_0.length c0_0] 26 (0, 0)) (by (with_reducible repeat (first | refine zk ?_ _ | refine zm ?_ | refine zi ?_ _)); exact BK392.out) hb); have n1_ := zb.mk (zw (by repeat (first | (with_reducible first | exact HB.out | apply zg | apply ze | apply zf | refine zh ?_ GE392.out) | exact HB.out)) hb); clear BK392; clear HB; have BK392 := n0_; have HB := n1_; clear n0_ n1_; (try clear hb); (try clear hb2); (try clear hk); (try clear hi)))
  go_ret2
  exact ⟨_, by first | rfl | (simp [zC, zB] <;> rfl) | (simp [*, zC, zB] <;> rfl), by first | exact Kd.R_nil _ _ _ _ _ | exact Kd.N_nil _ _ _ _ _ | exact Kd.V_nil _ _ _ _ _ | exact Kd.Q_nil _ _ _ _ _ | exact Kd.S_nil _ _ _ _ _, by repeat (first | (with_reducible first | exact HB.out | apply zg | apply ze | apply zf | refine zh ?_ GE392.out) | exact HB.out)⟩
end Go.Proofs.YtfabennfhmlihaaGreatDoor.P
end
section
namespace Go.Proofs.YtfabennfhmlihaaGreatDoor.P
open Go.RowKit Go.Proofs.YtfabennfhmlihaaGreatDoorW.zJ Go.Proofs.YtfabennfhmlihaaGreatDoorW.zU Go.Proofs.YtfabennfhmlihaaGreatDoorW.PrintMore
set_option linter.unusedVariables false
set_option linter.unusedSimpArgs false
def zna.j0 : Nat → ByteArray → Bool → List (zL) → Option (ByteArray × Bool)
 | 0, _, _, _ => none
 | k + 1, x1, x16, x410000 => if x16 = true then (some ((⟨#[]⟩ : ByteArray), false)) else ((zDa.f x410000 x1).bind fun t414 => ((impl_shared.f t414).bind fun t417 => (some (t417, true))))
def zna.f (k : Nat) (l0_0 : List (zL)) (a1 : ByteArray) : Option (ByteArray × Bool) := (zhb.f l0_0 a1).bind fun t410 => (if t410 = true then ((zDa.f l0_0 a1).bind fun t411 => (zna.j0 k a1 ((t411.length : Int) == 0) l0_0)) else (zna.j0 k a1 true l0_0))
set_option maxHeartbeats 8000000 in
set_option maxRecDepth 100000 in
theorem zna.calls (k : Nat) (A0_0 : Option Addr) (c0_0 : Nat) (l0_0 : List (zL)) (a1 : ByteArray) (r1 : ByteArray) (r2 : Bool) (w : World) (hr0_0 : Kd.C zXa w A0_0 l0_0.length l0_0) (hc0_0 : l0_0.length ≤ c0_0) (h : zna.f k l0_0 a1 = some (r1, r2)) :
  Calls Tryz.prog 15 #[.agg #[.slice A0_0 l0_0.length c0_0], .string a1] w fun e w' => e = .returned (.tuple #[.string r1, .bool r2]) ∧ Below w.heap.size w w' := by
 have hu26 := Tryz.underlying26
 have HR0_0 := zb.mk hr0_0
 have HC0_0 := zb.mk hc0_0
 clear hr0_0 hc0_0
 have HB := zb.mk (Below.refl w.heap.size w)
 have H : ((zhb.f l0_0 a1).bind fun t410 => (if t410 = true then ((zDa.f l0_0 a1).bind fun t411 => (zna.j0 k a1 ((t411.length : Int) == 0) l0_0)) else (zna.j0 k a1 true l0_0))) = some (r1, r2) := h
 clear h
 have HC3 := zb.mk H
 clear H
 go_enter Tryz.func15, Tryz.ntmps15
 go_upto_region 1 with (first | ((with_reducible refine zoa (N := 2) rfl ?_); (try (refine zOa (by rfl) ?_; dsimp only)); refine zEa ?hg (N := 2) ?hd (cs := #[.slice A0_0 l0_0.length c0_0]) (t := 26) ?hr ?_; (case hd => rfl); (case hg => rfl); (case hr => first | (go_simp; done) | (go_simp; rfl)); intro gb409 hg w4 hbox hb; have n0_ := zb.mk (zw (by repeat (first | (with_reducible first | exact HB.out | apply zg | apply ze | apply zf) | exact HB.out)) hb); have n1_ := zb.mk (hbox); have n2_ := zb.mk ((by rw [hg]; exact (zt (by repeat (first | (with_reducible first | exact HB.out | apply zg | apply ze | apply zf) | exact HB.out))) : w.heap.size ≤ gb409)); have n3_ := zb.mk ((by rw [hg]; exact (zt (by repeat (first | (with_reducible first | exact HB.out | apply zg | apply ze | apply zf) | exact HB.out))) : w.heap.size ≤ gb409)); clear HB; have HB := n0_; have BK409 := n1_; have GW409 := n2_; have GE409 := n3_; clear n0_ n1_ n2_ n3_; clear hb hbox hg))
 (try simp only [Act.put, List.setIfInBounds_toArray, List.set_cons_zero, List.set_cons_succ])
 go_cut [16] (fun v16 wc => ∃ (kq : Nat) (x16_2 : Bool), v16 = .bool x16_2 ∧ zb (zna.j0 kq a1 x16_2 l0_0 = some (r1, r2)) ∧ zb (kq ≤ k) ∧ zb (wc.heap[gb409]? = some (.cells #[(.slice A0_0 l0_0.length c0_0)] 26 (0, 0))) ∧ zb (Below w.heap.size w wc))
 case first =>
  have H := HC3.out
  clear HC3
  replace H := Option.bind_eq_some_iff.mp H
  obtain ⟨t410, A50, H⟩ := H
  replace H : (if t410 = true then ((zDa.f l0_0 a1).bind fun t411 => (zna.j0 k a1 ((t411.length : Int) == 0) l0_0)) else (zna.j0 k a1 true l0_0)) = some (r1, r2) := H
  have A5 := zb.mk A50
  clear A50
  by_cases c6 : t410 = true
  ·subst c6
   have H1 : ((zDa.f l0_0 a1).bind fun t411 => (zna.j0 k a1 ((t411.length : Int) == 0) l0_0)) = some (r1, r2) := by rw [if_pos rfl] at H; exact H
   clear H
   have H := H1
   clear H1
   replace H := Option.bind_eq_some_iff.mp H
   obtain ⟨t411, A70, H⟩ := H
   replace H : (zna.j0 k a1 ((t411.length : Int) == 0) l0_0) = some (r1, r2) := H
   have A7 := zb.mk A70
   clear A70
   have H' := zb.mk H
   clear H
   have hcz8_0 : w4.cell? ⟨gb409, 0, none⟩ = some (.slice A0_0 l0_0.length c0_0) := (zD BK409.out 0).trans rfl
   have hfz8_0 := zz BK409.out 0
   go_wp2_with (first | ((with_reducible refine zH (f := 115) rfl ?_); refine zra (some 8) rfl rfl Tryz.func115 (by kernel_rfl) rfl #[.agg #[.slice A0_0 l0_0.length c0_0], .string a1] rfl (by (try simp only [List.map_toArray, List.map_cons, List.map_nil]); first | done | rfl | (simp only [List.length_drop, List.length_take]; rfl)) ?_; (with_reducible refine (zhb.calls _ _ l0_0 a1 true _ ?side1 ?side2 A5.out).mono ?_); (case side1 => repeat (first | exact (Kd.zV HR0_0.out HB.out) | (with_reducible refine Kd.zga ?_ _) | (with_reducible refine Kd.zia ?_ _) | (with_reducible refine Kd.zAa ?_))); (case side2 => exact HC0_0.out); rintro e w9 ⟨rfl, hb⟩; refine ⟨_, rfl, ?_⟩; have n0_ := zb.mk (zG (g := gb409) (o := .cells #[.slice A0_0 l0_0.length c0_0] 26 (0, 0)) (by (with_reducible repeat (first | refine zk ?_ _ | refine zm ?_ | refine zi ?_ _)); exact BK409.out) hb); have n1_ := zb.mk (zw (by repeat (first | (with_reducible first | exact HB.out | apply zg | apply ze | apply zf | refine zh ?_ GE409.out) | exact HB.out)) hb); clear BK409; clear HB; have BK409 := n0_; have HB := n1_; clear n0_ n1_; (try clear hb); (try clear hb2); (try clear hk); (try clear hi); have hcz10_0 : w9.cell? ⟨gb409, 0, none⟩ = some (.slice A0_0 l0_0.length c0_0) := (zD BK409.out 0).trans rfl; have hfz10_0 := zz BK409.out 0) | (go_at_call 117; (with_reducible refine (zDa.calls _ _ l0_0 a1 t411 _ ?side1 ?side2 A7.out).mono ?_); (case side1 => repeat (first | exact (Kd.zV HR0_0.out HB.out) | (with_reducible refine Kd.zga ?_ _) | (with_reducible refine Kd.zia ?_ _) | (with_reducible refine Kd.zAa ?_))); (case side2 => exact HC0_0.out); rintro e w11 ⟨v412, rfl, ho0, hb⟩; have n0_ := zb.mk (Kd.zua ho0 (zt (by repeat (first | (with_reducible first | exact HB.out | apply zg | apply ze | apply zf | refine zh ?_ GE409.out) | exact HB.out)))); have n1_ := zb.mk (zG (g := gb409) (o := .cells #[.slice A0_0 l0_0.length c0_0] 26 (0, 0)) (by (with_reducible repeat (first | refine zk ?_ _ | refine zm ?_ | refine zi ?_ _)); exact BK409.out) hb); have n2_ := zb.mk (zw (by repeat (first | (with_reducible first | exact HB.out | apply zg | apply ze | apply zf | refine zh ?_ GE409.out) | exact HB.out)) hb); clear BK409; clear HB; have HO413 := n0_; have BK409 := n1_; have HB := n2_; clear n0_ n1_ n2_; (try clear hb); (try clear hb2); (try clear hk); (try clear hi); (try clear ho0); obtain ⟨Ao12, co12, eo12⟩ := Kd.zpa HO413.out; subst eo12))
   go_meet
   case rel => exact ⟨_, (((t411.length : Int) == 0)), (by first | rfl | (simp; done) | (simp [*]; done)), H', ⟨by first | omega | exact Nat.le_refl _⟩, ⟨by (with_reducible repeat (first | refine zk ?_ _ | refine zm ?_ | refine zi ?_ _)); exact BK409.out⟩, ⟨by repeat (first | (with_reducible first | exact HB.out | apply zg | apply ze | apply zf | refine zh ?_ GE409.out) | exact HB.out)⟩⟩
  ·replace c6 := Bool.eq_false_iff.mpr c6
   subst c6
   have H1 : (zna.j0 k a1 true l0_0) = some (r1, r2) := by rw [if_neg (show ¬ (false = true) by decide)] at H; exact H
   clear H
   have H := H1
   clear H1
   have H' := zb.mk H
   clear H
   have hcz13_0 : w4.cell? ⟨gb409, 0, none⟩ = some (.slice A0_0 l0_0.length c0_0) := (zD BK409.out 0).trans rfl
   have hfz13_0 := zz BK409.out 0
   go_wp2_with (first | ((with_reducible refine zH (f := 115) rfl ?_); refine zra (some 8) rfl rfl Tryz.func115 (by kernel_rfl) rfl #[.agg #[.slice A0_0 l0_0.length c0_0], .string a1] rfl (by (try simp only [List.map_toArray, List.map_cons, List.map_nil]); first | done | rfl | (simp only [List.length_drop, List.length_take]; rfl)) ?_; (with_reducible refine (zhb.calls _ _ l0_0 a1 false _ ?side1 ?side2 A5.out).mono ?_); (case side1 => repeat (first | exact (Kd.zV HR0_0.out HB.out) | (with_reducible refine Kd.zga ?_ _) | (with_reducible refine Kd.zia ?_ _) | (with_reducible refine Kd.zAa ?_))); (case side2 => exact HC0_0.out); rintro e w14 ⟨rfl, hb⟩; refine ⟨_, rfl, ?_⟩; have n0_ := zb.mk (zG (g := gb409) (o := .cells #[.slice A0_0 l0_0.length c0_0] 26 (0, 0)) (by (with_reducible repeat (first | refine zk ?_ _ | refine zm ?_ | refine zi ?_ _)); exact BK409.out) hb); have n1_ := zb.mk (zw (by repeat (first | (with_reducible first | exact HB.out | apply zg | apply ze | apply zf | refine zh ?_ GE409.out) | exact HB.out)) hb); clear BK409; clear HB; have BK409 := n0_; have HB := n1_; clear n0_ n1_; (try clear hb); (try clear hb2); (try clear hk); (try clear hi)))
   go_meet
   case rel => exact ⟨_, (true), (by first | rfl | (simp; done) | (simp [*]; done)), H', ⟨by first | omega | exact Nat.le_refl _⟩, ⟨by (with_reducible repeat (first | refine zk ?_ _ | refine zm ?_ | refine zi ?_ _)); exact BK409.out⟩, ⟨by repeat (first | (with_reducible first | exact HB.out | apply zg | apply ze | apply zf | refine zh ?_ GE409.out) | exact HB.out)⟩⟩
 case rest =>
  clear HC3
  try clear c1
  try clear p2
  try clear c6
  try clear c11
  try clear hcz10_0
  try clear hcz13_0
  try clear hcz8_0
  try clear hfz10_0
  try clear hfz13_0
  try clear hfz8_0
  obtain ⟨kq, x16_2, rfl, HA, HJ2, BK409, HB⟩ := hcut
  cases kq with
  | zero => exact absurd HA.out (by simp [zna.j0])
  | succ kj2 =>
   have H := HA.out
   clear HA
   simp only [zna.j0] at H
   by_cases c15 : x16_2 = true
   ·subst c15
    have H1 : (some ((⟨#[]⟩ : ByteArray), false)) = some (r1, r2) := by rw [if_pos rfl] at H; exact H
    clear H
    have H := H1
    clear H1
    simp only [Option.some.injEq, Prod.mk.injEq] at H
    obtain ⟨rfl, rfl⟩ := H
    go_wp2
    go_ret2
    exact ⟨by first | rfl | (simp [zC, zB] <;> rfl) | (simp [*, zC, zB] <;> rfl), by repeat (first | (with_reducible first | exact HB.out | apply zg | apply ze | apply zf | refine zh ?_ GE409.out) | exact HB.out)⟩
   ·replace c15 := Bool.eq_false_iff.mpr c15
    subst c15
    have H1 : ((zDa.f l0_0 a1).bind fun t414 => ((impl_shared.f t414).bind fun t417 => (some (t417, true)))) = some (r1, r2) := by rw [if_neg (show ¬ (false = true) by decide)] at H; exact H
    clear H
    have H := H1
    clear H1
    replace H := Option.bind_eq_some_iff.mp H
    obtain ⟨t414, A160, H⟩ := H
    replace H : ((impl_shared.f t414).bind fun t417 => (some (t417, true))) = some (r1, r2) := H
    have A16 := zb.mk A160
    clear A160
    replace H := Option.bind_eq_some_iff.mp H
    obtain ⟨t417, A170, H⟩ := H
    replace H : (some (t417, true)) = some (r1, r2) := H
    have A17 := zb.mk A170
    clear A170
    simp only [Option.some.injEq, Prod.mk.injEq] at H
    obtain ⟨rfl, rfl⟩ := H
    have hcz18_0 : wc.cell? ⟨gb409, 0, none⟩ = some (.slice A0_0 l0_0.length c0_0) := (zD BK409.out 0).trans rfl
    have hfz18_0 := zz BK409.out 0
    go_wp2_with (first | ((with_reducible refine zH (f := 117) rfl ?_); refine zra (some 19) rfl rfl Tryz.func117 (by kernel_rfl) rfl #[.agg #[.slice A0_0 l0_0.length c0_0], .string a1] rfl (by (try simp only [List.map_toArray, List.map_cons, List.map_nil]); first | done | rfl | (simp only [List.length_drop, List.length_take]; rfl)) ?_; (with_reducible refine (zDa.calls _ _ l0_0 a1 t414 _ ?side1 ?side2 A16.out).mono ?_); (case side1 => repeat (first | exact (Kd.zV HR0_0.out HB.out) | (with_reducible refine Kd.zga ?_ _) | (with_reducible refine Kd.zia ?_ _) | (with_reducible refine Kd.zAa ?_))); (case side2 => exact HC0_0.out); rintro e w19 ⟨v415, rfl, ho0, hb⟩; refine ⟨_, rfl, ?_⟩; have n0_ := zb.mk (Kd.zua ho0 (zt (by repeat (first | (with_reducible first | exact HB.out | apply zg | apply ze | apply zf | refine zh ?_ GE409.out) | exact HB.out)))); have n1_ := zb.mk (zG (g := gb409) (o := .cells #[.slice A0_0 l0_0.length c0_0] 26 (0, 0)) (by (with_reducible repeat (first | refine zk ?_ _ | refine zm ?_ | refine zi ?_ _)); exact BK409.out) hb); have n2_ := zb.mk (zw (by repeat (first | (with_reducible first | exact HB.out | apply zg | apply ze | apply zf | refine zh ?_ GE409.out) | exact HB.out)) hb); clear BK409; clear HB; have HO416 := n0_; have BK409 := n1_; have HB := n2_; clear n0_ n1_ n2_; (try clear hb); (try clear hb2); (try clear hk); (try clear hi); (try clear ho0); obtain ⟨Ao20, co20, eo20⟩ := Kd.zpa HO416.out; subst eo20) | ((with_reducible refine zH (f := 124) rfl ?_); refine zra (some 20) rfl rfl Tryz.func124 (by kernel_rfl) rfl #[.slice Ao20 t414.length co20] rfl (by (try simp only [List.map_toArray, List.map_cons, List.map_nil]); first | done | rfl | (simp only [List.length_drop, List.length_take]; rfl)) ?_; (with_reducible refine (impl_shared.calls _ _ t414 t417 _ ?side1 ?side2 A17.out).mono ?_); (case side1 => repeat (first | exact (Kd.zQ HO416.out).2.2 | (with_reducible refine Kd.zga ?_ _) | (with_reducible refine Kd.zia ?_ _) | (with_reducible refine Kd.zAa ?_))); (case side2 => exact (Kd.zQ HO416.out).2.1); rintro e w' ⟨rfl, ⟨nd, rfl⟩⟩; refine ⟨_, rfl, ?_⟩))
    go_ret2
    exact ⟨by first | rfl | (simp [zC, zB] <;> rfl) | (simp [*, zC, zB] <;> rfl), by repeat (first | (with_reducible first | exact HB.out | apply zg | apply ze | apply zf | refine zh ?_ GE409.out) | exact HB.out)⟩
end Go.Proofs.YtfabennfhmlihaaGreatDoor.P
end
section
namespace Go.Proofs.YtfabennfhmlihaaGreatDoor.P
open Go.RowKit Go.Proofs.YtfabennfhmlihaaGreatDoorW.zJ Go.Proofs.YtfabennfhmlihaaGreatDoorW.zU Go.Proofs.YtfabennfhmlihaaGreatDoorW.PrintMore
set_option linter.unusedVariables false
set_option linter.unusedSimpArgs false
def zla.j0 : Nat → Bool → List (zL) → Option (ByteArray × Bool)
 | 0, _, _ => none
 | k + 1, x12, x480000 => if x12 = true then (some ((⟨#[]⟩ : ByteArray), false)) else ((zT.f k x480000).bind fun t484 => ((impl_shared.f t484).bind fun t487 => (some (t487, true))))
def zla.f (k : Nat) (l0_0 : List (zL)) : Option (ByteArray × Bool) := (zfb.f l0_0).bind fun t480 => (if t480 = true then ((zT.f k l0_0).bind fun t481 => (zla.j0 k ((t481.length : Int) == 0) l0_0)) else (zla.j0 k true l0_0))
set_option maxHeartbeats 8000000 in
set_option maxRecDepth 100000 in
theorem zla.calls (k : Nat) (A0_0 : Option Addr) (c0_0 : Nat) (l0_0 : List (zL)) (r1 : ByteArray) (r2 : Bool) (w : World) (hr0_0 : Kd.C zXa w A0_0 l0_0.length l0_0) (hc0_0 : l0_0.length ≤ c0_0) (h : zla.f k l0_0 = some (r1, r2)) :
  Calls Tryz.prog 19 #[.agg #[.slice A0_0 l0_0.length c0_0]] w fun e w' => e = .returned (.tuple #[.string r1, .bool r2]) ∧ Below w.heap.size w w' := by
 have hu26 := Tryz.underlying26
 have HR0_0 := zb.mk hr0_0
 have HC0_0 := zb.mk hc0_0
 clear hr0_0 hc0_0
 have HB := zb.mk (Below.refl w.heap.size w)
 have H : ((zfb.f l0_0).bind fun t480 => (if t480 = true then ((zT.f k l0_0).bind fun t481 => (zla.j0 k ((t481.length : Int) == 0) l0_0)) else (zla.j0 k true l0_0))) = some (r1, r2) := h
 clear h
 have HC2 := zb.mk H
 clear H
 go_enter Tryz.func19, Tryz.ntmps19
 go_upto_region 1 with (first | ((with_reducible refine zoa (N := 1) rfl ?_); (try (refine zOa (by rfl) ?_; dsimp only)); refine zEa ?hg (N := 1) ?hd (cs := #[.slice A0_0 l0_0.length c0_0]) (t := 26) ?hr ?_; (case hd => rfl); (case hg => rfl); (case hr => first | (go_simp; done) | (go_simp; rfl)); intro gb479 hg w3 hbox hb; have n0_ := zb.mk (zw (by repeat (first | (with_reducible first | exact HB.out | apply zg | apply ze | apply zf) | exact HB.out)) hb); have n1_ := zb.mk (hbox); have n2_ := zb.mk ((by rw [hg]; exact (zt (by repeat (first | (with_reducible first | exact HB.out | apply zg | apply ze | apply zf) | exact HB.out))) : w.heap.size ≤ gb479)); have n3_ := zb.mk ((by rw [hg]; exact (zt (by repeat (first | (with_reducible first | exact HB.out | apply zg | apply ze | apply zf) | exact HB.out))) : w.heap.size ≤ gb479)); clear HB; have HB := n0_; have BK479 := n1_; have GW479 := n2_; have GE479 := n3_; clear n0_ n1_ n2_ n3_; clear hb hbox hg))
 (try simp only [Act.put, List.setIfInBounds_toArray, List.set_cons_zero, List.set_cons_succ])
 go_cut [12] (fun v12 wc => ∃ (kq : Nat) (x12_1 : Bool), v12 = .bool x12_1 ∧ zb (zla.j0 kq x12_1 l0_0 = some (r1, r2)) ∧ zb (kq ≤ k) ∧ zb (wc.heap[gb479]? = some (.cells #[(.slice A0_0 l0_0.length c0_0)] 26 (0, 0))) ∧ zb (Below w.heap.size w wc))
 case first =>
  have H := HC2.out
  clear HC2
  replace H := Option.bind_eq_some_iff.mp H
  obtain ⟨t480, A40, H⟩ := H
  replace H : (if t480 = true then ((zT.f k l0_0).bind fun t481 => (zla.j0 k ((t481.length : Int) == 0) l0_0)) else (zla.j0 k true l0_0)) = some (r1, r2) := H
  have A4 := zb.mk A40
  clear A40
  by_cases c5 : t480 = true
  ·subst c5
   have H1 : ((zT.f k l0_0).bind fun t481 => (zla.j0 k ((t481.length : Int) == 0) l0_0)) = some (r1, r2) := by rw [if_pos rfl] at H; exact H
   clear H
   have H := H1
   clear H1
   replace H := Option.bind_eq_some_iff.mp H
   obtain ⟨t481, A60, H⟩ := H
   replace H : (zla.j0 k ((t481.length : Int) == 0) l0_0) = some (r1, r2) := H
   have A6 := zb.mk A60
   clear A60
   have H' := zb.mk H
   clear H
   have hcz7_0 : w3.cell? ⟨gb479, 0, none⟩ = some (.slice A0_0 l0_0.length c0_0) := (zD BK479.out 0).trans rfl
   have hfz7_0 := zz BK479.out 0
   go_wp2_with (first | ((with_reducible refine zH (f := 129) rfl ?_); refine zra (some 5) rfl rfl Tryz.func129 (by kernel_rfl) rfl #[.agg #[.slice A0_0 l0_0.length c0_0]] rfl (by (try simp only [List.map_toArray, List.map_cons, List.map_nil]); first | done | rfl | (simp only [List.length_drop, List.length_take]; rfl)) ?_; (with_reducible refine (zfb.calls _ _ l0_0 true _ ?side1 ?side2 A4.out).mono ?_); (case side1 => repeat (first | exact (Kd.zV HR0_0.out HB.out) | (with_reducible refine Kd.zga ?_ _) | (with_reducible refine Kd.zia ?_ _) | (with_reducible refine Kd.zAa ?_))); (case side2 => exact HC0_0.out); rintro e w8 ⟨rfl, hb⟩; refine ⟨_, rfl, ?_⟩; have n0_ := zb.mk (zG (g := gb479) (o := .cells #[.slice A0_0 l0_0.length c0_0] 26 (0, 0)) (by (with_reducible repeat (first | refine zk ?_ _ | refine zm ?_ | refine zi ?_ _)); exact BK479.out) hb); have n1_ := zb.mk (zw (by repeat (first | (with_reducible first | exact HB.out | apply zg | apply ze | apply zf | refine zh ?_ GE479.out) | exact HB.out)) hb); clear BK479; clear HB; have BK479 := n0_; have HB := n1_; clear n0_ n1_; (try clear hb); (try clear hb2); (try clear hk); (try clear hi); have hcz9_0 : w8.cell? ⟨gb479, 0, none⟩ = some (.slice A0_0 l0_0.length c0_0) := (zD BK479.out 0).trans rfl; have hfz9_0 := zz BK479.out 0) | (go_at_call 130; (with_reducible refine (zT.calls k _ _ l0_0 t481 _ ?side1 ?side2 A6.out).mono ?_); (case side1 => repeat (first | exact (Kd.zV HR0_0.out HB.out) | (with_reducible refine Kd.zga ?_ _) | (with_reducible refine Kd.zia ?_ _) | (with_reducible refine Kd.zAa ?_))); (case side2 => exact HC0_0.out); rintro e w10 ⟨v482, rfl, ho0, hb⟩; have n0_ := zb.mk (Kd.zua ho0 (zt (by repeat (first | (with_reducible first | exact HB.out | apply zg | apply ze | apply zf | refine zh ?_ GE479.out) | exact HB.out)))); have n1_ := zb.mk (zG (g := gb479) (o := .cells #[.slice A0_0 l0_0.length c0_0] 26 (0, 0)) (by (with_reducible repeat (first | refine zk ?_ _ | refine zm ?_ | refine zi ?_ _)); exact BK479.out) hb); have n2_ := zb.mk (zw (by repeat (first | (with_reducible first | exact HB.out | apply zg | apply ze | apply zf | refine zh ?_ GE479.out) | exact HB.out)) hb); clear BK479; clear HB; have HO483 := n0_; have BK479 := n1_; have HB := n2_; clear n0_ n1_ n2_; (try clear hb); (try clear hb2); (try clear hk); (try clear hi); (try clear ho0); obtain ⟨Ao11, co11, eo11⟩ := Kd.zpa HO483.out; subst eo11))
   go_meet
   case rel => exact ⟨_, (((t481.length : Int) == 0)), (by first | rfl | (simp; done) | (simp [*]; done)), H', ⟨by first | omega | exact Nat.le_refl _⟩, ⟨by (with_reducible repeat (first | refine zk ?_ _ | refine zm ?_ | refine zi ?_ _)); exact BK479.out⟩, ⟨by repeat (first | (with_reducible first | exact HB.out | apply zg | apply ze | apply zf | refine zh ?_ GE479.out) | exact HB.out)⟩⟩
  ·replace c5 := Bool.eq_false_iff.mpr c5
   subst c5
   have H1 : (zla.j0 k true l0_0) = some (r1, r2) := by rw [if_neg (show ¬ (false = true) by decide)] at H; exact H
   clear H
   have H := H1
   clear H1
   have H' := zb.mk H
   clear H
   have hcz12_0 : w3.cell? ⟨gb479, 0, none⟩ = some (.slice A0_0 l0_0.length c0_0) := (zD BK479.out 0).trans rfl
   have hfz12_0 := zz BK479.out 0
   go_wp2_with (first | ((with_reducible refine zH (f := 129) rfl ?_); refine zra (some 5) rfl rfl Tryz.func129 (by kernel_rfl) rfl #[.agg #[.slice A0_0 l0_0.length c0_0]] rfl (by (try simp only [List.map_toArray, List.map_cons, List.map_nil]); first | done | rfl | (simp only [List.length_drop, List.length_take]; rfl)) ?_; (with_reducible refine (zfb.calls _ _ l0_0 false _ ?side1 ?side2 A4.out).mono ?_); (case side1 => repeat (first | exact (Kd.zV HR0_0.out HB.out) | (with_reducible refine Kd.zga ?_ _) | (with_reducible refine Kd.zia ?_ _) | (with_reducible refine Kd.zAa ?_))); (case side2 => exact HC0_0.out); rintro e w13 ⟨rfl, hb⟩; refine ⟨_, rfl, ?_⟩; have n0_ := zb.mk (zG (g := gb479) (o := .cells #[.slice A0_0 l0_0.length c0_0] 26 (0, 0)) (by (with_reducible repeat (first | refine zk ?_ _ | refine zm ?_ | refine zi ?_ _)); exact BK479.out) hb); have n1_ := zb.mk (zw (by repeat (first | (with_reducible first | exact HB.out | apply zg | apply ze | apply zf | refine zh ?_ GE479.out) | exact HB.out)) hb); clear BK479; clear HB; have BK479 := n0_; have HB := n1_; clear n0_ n1_; (try clear hb); (try clear hb2); (try clear hk); (try clear hi)))
   go_meet
   case rel => exact ⟨_, (true), (by first | rfl | (simp; done) | (simp [*]; done)), H', ⟨by first | omega | exact Nat.le_refl _⟩, ⟨by (with_reducible repeat (first | refine zk ?_ _ | refine zm ?_ | refine zi ?_ _)); exact BK479.out⟩, ⟨by repeat (first | (with_reducible first | exact HB.out | apply zg | apply ze | apply zf | refine zh ?_ GE479.out) | exact HB.out)⟩⟩
 case rest =>
  clear HC2
  try clear c1
  try clear p2
  try clear c5
  try clear c12
  try clear hcz12_0
  try clear hcz7_0
  try clear hcz9_0
  try clear hfz12_0
  try clear hfz7_0
  try clear hfz9_0
  obtain ⟨kq, x12_1, rfl, HA, HJ1, BK479, HB⟩ := hcut
  cases kq with
  | zero => exact absurd HA.out (by simp [zla.j0])
  | succ kj1 =>
   have H := HA.out
   clear HA
   simp only [zla.j0] at H
   by_cases c14 : x12_1 = true
   ·subst c14
    have H1 : (some ((⟨#[]⟩ : ByteArray), false)) = some (r1, r2) := by rw [if_pos rfl] at H; exact H
    clear H
    have H := H1
    clear H1
    simp only [Option.some.injEq, Prod.mk.injEq] at H
    obtain ⟨rfl, rfl⟩ := H
    go_wp2
    go_ret2
    exact ⟨by first | rfl | (simp [zC, zB] <;> rfl) | (simp [*, zC, zB] <;> rfl), by repeat (first | (with_reducible first | exact HB.out | apply zg | apply ze | apply zf | refine zh ?_ GE479.out) | exact HB.out)⟩
   ·replace c14 := Bool.eq_false_iff.mpr c14
    subst c14
    have H1 : ((zT.f kj1 l0_0).bind fun t484 => ((impl_shared.f t484).bind fun t487 => (some (t487, true)))) = some (r1, r2) := by rw [if_neg (show ¬ (false = true) by decide)] at H; exact H
    clear H
    have H := H1
    clear H1
    replace H := Option.bind_eq_some_iff.mp H
    obtain ⟨t484, A150, H⟩ := H
    replace H : ((impl_shared.f t484).bind fun t487 => (some (t487, true))) = some (r1, r2) := H
    have A15 := zb.mk A150
    clear A150
    replace H := Option.bind_eq_some_iff.mp H
    obtain ⟨t487, A160, H⟩ := H
    replace H : (some (t487, true)) = some (r1, r2) := H
    have A16 := zb.mk A160
    clear A160
    simp only [Option.some.injEq, Prod.mk.injEq] at H
    obtain ⟨rfl, rfl⟩ := H
    have hcz17_0 : wc.cell? ⟨gb479, 0, none⟩ = some (.slice A0_0 l0_0.length c0_0) := (zD BK479.out 0).trans rfl
    have hfz17_0 := zz BK479.out 0
    go_wp2_with (first | ((with_reducible refine zH (f := 130) rfl ?_); refine zra (some 14) rfl rfl Tryz.func130 (by kernel_rfl) rfl #[.agg #[.slice A0_0 l0_0.length c0_0]] rfl (by (try simp only [List.map_toArray, List.map_cons, List.map_nil]); first | done | rfl | (simp only [List.length_drop, List.length_take]; rfl)) ?_; (with_reducible refine (zT.calls kj1 _ _ l0_0 t484 _ ?side1 ?side2 A15.out).mono ?_); (case side1 => repeat (first | exact (Kd.zV HR0_0.out HB.out) | (with_reducible refine Kd.zga ?_ _) | (with_reducible refine Kd.zia ?_ _) | (with_reducible refine Kd.zAa ?_))); (case side2 => exact HC0_0.out); rintro e w18 ⟨v485, rfl, ho0, hb⟩; refine ⟨_, rfl, ?_⟩; have n0_ := zb.mk (Kd.zua ho0 (zt (by repeat (first | (with_reducible first | exact HB.out | apply zg | apply ze | apply zf | refine zh ?_ GE479.out) | exact HB.out)))); have n1_ := zb.mk (zG (g := gb479) (o := .cells #[.slice A0_0 l0_0.length c0_0] 26 (0, 0)) (by (with_reducible repeat (first | refine zk ?_ _ | refine zm ?_ | refine zi ?_ _)); exact BK479.out) hb); have n2_ := zb.mk (zw (by repeat (first | (with_reducible first | exact HB.out | apply zg | apply ze | apply zf | refine zh ?_ GE479.out) | exact HB.out)) hb); clear BK479; clear HB; have HO486 := n0_; have BK479 := n1_; have HB := n2_; clear n0_ n1_ n2_; (try clear hb); (try clear hb2); (try clear hk); (try clear hi); (try clear ho0); obtain ⟨Ao19, co19, eo19⟩ := Kd.zpa HO486.out; subst eo19) | ((with_reducible refine zH (f := 124) rfl ?_); refine zra (some 15) rfl rfl Tryz.func124 (by kernel_rfl) rfl #[.slice Ao19 t484.length co19] rfl (by (try simp only [List.map_toArray, List.map_cons, List.map_nil]); first | done | rfl | (simp only [List.length_drop, List.length_take]; rfl)) ?_; (with_reducible refine (impl_shared.calls _ _ t484 t487 _ ?side1 ?side2 A16.out).mono ?_); (case side1 => repeat (first | exact (Kd.zQ HO486.out).2.2 | (with_reducible refine Kd.zga ?_ _) | (with_reducible refine Kd.zia ?_ _) | (with_reducible refine Kd.zAa ?_))); (case side2 => exact (Kd.zQ HO486.out).2.1); rintro e w' ⟨rfl, ⟨nd, rfl⟩⟩; refine ⟨_, rfl, ?_⟩))
    go_ret2
    exact ⟨by first | rfl | (simp [zC, zB] <;> rfl) | (simp [*, zC, zB] <;> rfl), by repeat (first | (with_reducible first | exact HB.out | apply zg | apply ze | apply zf | refine zh ?_ GE479.out) | exact HB.out)⟩
end Go.Proofs.YtfabennfhmlihaaGreatDoor.P
end
section
namespace Go.Proofs.YtfabennfhmlihaaGreatDoor.P
open Go.RowKit Go.Proofs.YtfabennfhmlihaaGreatDoorW.zJ Go.Proofs.YtfabennfhmlihaaGreatDoorW.zU Go.Proofs.YtfabennfhmlihaaGreatDoorW.PrintMore
set_option linter.unusedVariables false
set_option linter.unusedSimpArgs false
def impl_CountWords.f (k : Nat) (l0_0 : List (zL)) : Option (Int × Bool) := (zfb.f l0_0).bind fun t500 => (if t500 = true then ((zT.f k l0_0).bind fun t501 => (some ((t501.length : Int), true))) else (some (0, false)))
set_option maxHeartbeats 8000000 in
set_option maxRecDepth 100000 in
theorem impl_CountWords.calls (k : Nat) (A0_0 : Option Addr) (c0_0 : Nat) (l0_0 : List (zL)) (r1 : Int) (r2 : Bool) (w : World) (hr0_0 : Kd.C zXa w A0_0 l0_0.length l0_0) (hc0_0 : l0_0.length ≤ c0_0) (h : impl_CountWords.f k l0_0 = some (r1, r2)) :
  Calls Tryz.prog 22 #[.agg #[.slice A0_0 l0_0.length c0_0]] w fun e w' => e = .returned (.tuple #[.int .i64 r1, .bool r2]) ∧ Below w.heap.size w w' := by
 have hu26 := Tryz.underlying26
 have HR0_0 := zb.mk hr0_0
 have HC0_0 := zb.mk hc0_0
 clear hr0_0 hc0_0
 have HB := zb.mk (Below.refl w.heap.size w)
 have H : ((zfb.f l0_0).bind fun t500 => (if t500 = true then ((zT.f k l0_0).bind fun t501 => (some ((t501.length : Int), true))) else (some (0, false)))) = some (r1, r2) := h
 clear h
 replace H := Option.bind_eq_some_iff.mp H
 obtain ⟨t500, A20, H⟩ := H
 replace H : (if t500 = true then ((zT.f k l0_0).bind fun t501 => (some ((t501.length : Int), true))) else (some (0, false))) = some (r1, r2) := H
 have A2 := zb.mk A20
 clear A20
 by_cases c3 : t500 = true
 ·subst c3
  have H1 : ((zT.f k l0_0).bind fun t501 => (some ((t501.length : Int), true))) = some (r1, r2) := by rw [if_pos rfl] at H; exact H
  clear H
  have H := H1
  clear H1
  replace H := Option.bind_eq_some_iff.mp H
  obtain ⟨t501, A40, H⟩ := H
  replace H : (some ((t501.length : Int), true)) = some (r1, r2) := H
  have A4 := zb.mk A40
  clear A40
  simp only [Option.some.injEq, Prod.mk.injEq] at H
  obtain ⟨rfl, rfl⟩ := H
  go_enter Tryz.func22, Tryz.ntmps22
  go_wp2_with (first | ((with_reducible refine zoa (N := 1) rfl ?_); refine zEa ?hg (N := 1) ?hd (cs := #[.slice A0_0 l0_0.length c0_0]) (t := 26) ?hr ?_; (case hd => rfl); (case hg => rfl); (case hr => first | (go_simp; done) | (go_simp; rfl)); intro gb499 hg w5 hbox hb; have n0_ := zb.mk (zw (by repeat (first | (with_reducible first | exact HB.out | apply zg | apply ze | apply zf) | exact HB.out)) hb); have n1_ := zb.mk (hbox); have n2_ := zb.mk ((by rw [hg]; exact (zt (by repeat (first | (with_reducible first | exact HB.out | apply zg | apply ze | apply zf) | exact HB.out))) : w.heap.size ≤ gb499)); have n3_ := zb.mk ((by rw [hg]; exact (zt (by repeat (first | (with_reducible first | exact HB.out | apply zg | apply ze | apply zf) | exact HB.out))) : w.heap.size ≤ gb499)); clear HB; have HB := n0_; have BK499 := n1_; have GW499 := n2_; have GE499 := n3_; clear n0_ n1_ n2_ n3_; clear hb hbox hg; have hcz6_0 : w5.cell? ⟨gb499, 0, none⟩ = some (.slice A0_0 l0_0.length c0_0) := (zD BK499.out 0).trans rfl; have hfz6_0 := zz BK499.out 0) | ((with_reducible refine zH (f := 129) rfl ?_); refine zra (some 5) rfl rfl Tryz.func129 (by kernel_rfl) rfl #[.agg #[.slice A0_0 l0_0.length c0_0]] rfl (by (try simp only [List.map_toArray, List.map_cons, List.map_nil]); first | done | rfl | (simp only [List.length_drop, List.length_take]; rfl)) ?_; (with_reducible refine (zfb.calls _ _ l0_0 true _ ?side1 ?side2 A2.out).mono ?_); (case side1 => repeat (first | exact (Kd.zV HR0_0.out HB.out) | (with_reducible refine Kd.zga ?_ _) | (with_reducible refine Kd.zia ?_ _) | (with_reducible refine Kd.zAa ?_))); (case side2 => exact HC0_0.out); rintro e w7 ⟨rfl, hb⟩; refine ⟨_, rfl, ?_⟩; have n0_ := zb.mk (zG (g := gb499) (o := .cells #[.slice A0_0 l0_0.length c0_0] 26 (0, 0)) (by (with_reducible repeat (first | refine zk ?_ _ | refine zm ?_ | refine zi ?_ _)); exact BK499.out) hb); have n1_ := zb.mk (zw (by repeat (first | (with_reducible first | exact HB.out | apply zg | apply ze | apply zf | refine zh ?_ GE499.out) | exact HB.out)) hb); clear BK499; clear HB; have BK499 := n0_; have HB := n1_; clear n0_ n1_; (try clear hb); (try clear hb2); (try clear hk); (try clear hi); have hcz8_0 : w7.cell? ⟨gb499, 0, none⟩ = some (.slice A0_0 l0_0.length c0_0) := (zD BK499.out 0).trans rfl; have hfz8_0 := zz BK499.out 0) | ((with_reducible refine zH (f := 130) rfl ?_); refine zra (some 8) rfl rfl Tryz.func130 (by kernel_rfl) rfl #[.agg #[.slice A0_0 l0_0.length c0_0]] rfl (by (try simp only [List.map_toArray, List.map_cons, List.map_nil]); first | done | rfl | (simp only [List.length_drop, List.length_take]; rfl)) ?_; (with_reducible refine (zT.calls k _ _ l0_0 t501 _ ?side1 ?side2 A4.out).mono ?_); (case side1 => repeat (first | exact (Kd.zV HR0_0.out HB.out) | (with_reducible refine Kd.zga ?_ _) | (with_reducible refine Kd.zia ?_ _) | (with_reducible refine Kd.zAa ?_))); (case side2 => exact HC0_0.out); rintro e w9 ⟨v502, rfl, ho0, hb⟩; refine ⟨_, rfl, ?_⟩; have n0_ := zb.mk (Kd.zua ho0 (zt (by repeat (first | (with_reducible first | exact HB.out | apply zg | apply ze | apply zf | refine zh ?_ GE499.out) | exact HB.out)))); have n1_ := zb.mk (zG (g := gb499) (o := .cells #[.slice A0_0 l0_0.length c0_0] 26 (0, 0)) (by (with_reducible repeat (first | refine zk ?_ _ | refine zm ?_ | refine zi ?_ _)); exact BK499.out) hb); have n2_ := zb.mk (zw (by repeat (first | (with_reducible first | exact HB.out | apply zg | apply ze | apply zf | refine zh ?_ GE499.out) | exact HB.out)) hb); clear BK499; clear HB; have HO503 := n0_; have BK499 := n1_; have HB := n2_; clear n0_ n1_ n2_; (try clear hb); (try clear hb2); (try clear hk); (try clear hi); (try clear ho0); obtain ⟨Ao10, co10, eo10⟩ := Kd.zpa HO503.out; subst eo10))
  go_ret2
  exact ⟨by first | rfl | (simp [zC, zB] <;> rfl) | (simp [*, zC, zB] <;> rfl), by repeat (first | (with_reducible first | exact HB.out | apply zg | apply ze | apply zf | refine zh ?_ GE499.out) | exact HB.out)⟩
 ·replace c3 := Bool.eq_false_iff.mpr c3
  subst c3
  have H1 : (some (0, false)) = some (r1, r2) := by rw [if_neg (show ¬ (false = true) by decide)] at H; exact H
  clear H
  have H := H1
  clear H1
  simp only [Option.some.injEq, Prod.mk.injEq] at H
  obtain ⟨rfl, rfl⟩ := H
  go_enter Tryz.func22, Tryz.ntmps22
  go_wp2_with (first | ((with_reducible refine zoa (N := 1) rfl ?_); refine zEa ?hg (N := 1) ?hd (cs := #[.slice A0_0 l0_0.length c0_0]) (t := 26) ?hr ?_; (case hd => rfl); (case hg => rfl); (case hr => first | (go_simp; done) | (go_simp; rfl)); intro gb499 hg w11 hbox hb; have n0_ := zb.mk (zw (by repeat (first | (with_reducible first | exact HB.out | apply zg | apply ze | apply zf) | exact HB.out)) hb); have n1_ := zb.mk (hbox); have n2_ := zb.mk ((by rw [hg]; exact (zt (by repeat (first | (with_reducible first | exact HB.out | apply zg | apply ze | apply zf) | exact HB.out))) : w.heap.size ≤ gb499)); have n3_ := zb.mk ((by rw [hg]; exact (zt (by repeat (first | (with_reducible first | exact HB.out | apply zg | apply ze | apply zf) | exact HB.out))) : w.heap.size ≤ gb499)); clear HB; have HB := n0_; have BK499 := n1_; have GW499 := n2_; have GE499 := n3_; clear n0_ n1_ n2_ n3_; clear hb hbox hg; have hcz12_0 : w11.cell? ⟨gb499, 0, none⟩ = some (.slice A0_0 l0_0.length c0_0) := (zD BK499.out 0).trans rfl; have hfz12_0 := zz BK499.out 0) | ((with_reducible refine zH (f := 129) rfl ?_); refine zra (some 5) rfl rfl Tryz.func129 (by kernel_rfl) rfl #[.agg #[.slice A0_0 l0_0.length c0_0]] rfl (by (try simp only [List.map_toArray, List.map_cons, List.map_nil]); first | done | rfl | (simp only [List.length_drop, List.length_take]; rfl)) ?_; (with_reducible refine (zfb.calls _ _ l0_0 false _ ?side1 ?side2 A2.out).mono ?_); (case side1 => repeat (first | exact (Kd.zV HR0_0.out HB.out) | (with_reducible refine Kd.zga ?_ _) | (with_reducible refine Kd.zia ?_ _) | (with_reducible refine Kd.zAa ?_))); (case side2 => exact HC0_0.out); rintro e w13 ⟨rfl, hb⟩; refine ⟨_, rfl, ?_⟩; have n0_ := zb.mk (zG (g := gb499) (o := .cells #[.slice A0_0 l0_0.length c0_0] 26 (0, 0)) (by (with_reducible repeat (first | refine zk ?_ _ | refine zm ?_ | refine zi ?_ _)); exact BK499.out) hb); have n1_ := zb.mk (zw (by repeat (first | (with_reducible first | exact HB.out | apply zg | apply ze | apply zf | refine zh ?_ GE499.out) | exact HB.out)) hb); clear BK499; clear HB; have BK499 := n0_; have HB := n1_; clear n0_ n1_; (try clear hb); (try clear hb2); (try clear hk); (try clear hi)))
  go_ret2
  exact ⟨by first | rfl | (simp [zC, zB] <;> rfl) | (simp [*, zC, zB] <;> rfl), by repeat (first | (with_reducible first | exact HB.out | apply zg | apply ze | apply zf | refine zh ?_ GE499.out) | exact HB.out)⟩
end Go.Proofs.YtfabennfhmlihaaGreatDoor.P
end
section
namespace Go.Proofs.YtfabennfhmlihaaGreatDoor.P
open Go Go.RowKit Go.Proofs.YtfabennfhmlihaaGreatDoorW.zJ Go.Proofs.YtfabennfhmlihaaGreatDoorW.zU Go.Proofs.YtfabennfhmlihaaGreatDoorW.PrintMore
set_option linter.unusedVariables false
theorem begins_f (a b : List UInt8) : spec_l2Begins.f (tx a) (tx b) = some (b.isPrefixOf a) := by
  unfold spec_l2Begins.f
  simp only [zMa]
  by_cases h : a.length ≥ b.length
  · rw [if_pos (by omega), if_pos (by omega), if_pos (by omega), tx_extract, zbb, zbb]
    congr 1
    rw [Bool.eq_iff_iff, List.isPrefixOf_iff_prefix, List.prefix_iff_eq_take, beq_iff_eq]
    simp only [Int.toNat_natCast, List.drop_zero]
    exact eq_comm
  · rw [if_neg (by omega)]
    congr 1
    symm
    rw [Bool.eq_false_iff]
    intro hc
    rw [List.isPrefixOf_iff_prefix] at hc
    have := hc.length_le
    omega
theorem under_l0 (xs : List (List UInt8)) (p : List UInt8) (hl : xs.length ≤ 1000000) (m : Nat) : ∀ (i : Nat) (out : List (List UInt8)), xs.length - i = m → i ≤ xs.length → out.length ≤ i →
    Ev (fun k => zfa.l0 k (xs.map tx) (tx p) (out.map tx) (i : Int)) ((out ++ zJa (xs.drop i) p).map tx) := by
  induction m with
  | zero =>
    intro i out hm hi ho
    obtain rfl : i = xs.length := by omega
    refine Ev.succ ?_
    simp only [zfa.l0, List.length_map]
    refine Ev.neg (by omega) (Ev.const ?_)
    simp [zJa]
  | succ m ih =>
    intro i out hm hi ho
    have hlt : i < xs.length := by omega
    have hg : xs.getD i [] = xs[i] := by rw [List.getD_eq_getElem?_getD, List.getElem?_eq_getElem hlt]; rfl
    refine Ev.succ ?_
    simp only [zfa.l0, List.length_map, rdOf_tx, Int.toNat_natCast, hg, begins_f, Option.bind_some]
    refine Ev.pos (by omega) (Ev.pos (by omega) ?_)
    have hd : zJa (xs.drop i) p = (if p.isPrefixOf xs[i] = true then [xs[i]] else []) ++ zJa (xs.drop (i + 1)) p := by
      rw [List.drop_eq_getElem_cons hlt]
      unfold zJa
      rw [List.filter_cons]
      split <;> simp
    rw [hd]
    by_cases hc : p.isPrefixOf xs[i] = true
    · refine Ev.pos hc (Ev.pos (by omega) ?_)
      rw [if_pos hc, zSa (by omega) (by omega)]
      have := ih (i + 1) (out ++ [xs[i]]) (by omega) (by omega) (by simp; omega)
      simpa using this
    · refine Ev.neg hc ?_
      rw [if_neg hc, zSa (by omega) (by omega)]
      have := ih (i + 1) out (by omega) (by omega) (by omega)
      simpa using this
theorem under_ev (xs : List (List UInt8)) (p : List UInt8) (hl : xs.length ≤ 1000000) : Ev (fun k => zfa.f k (xs.map tx) (tx p)) ((zJa xs p).map tx) := by
  unfold zfa.f
  have := under_l0 xs p hl _ 0 [] rfl (Nat.zero_le _) (Nat.le_refl _)
  simpa using this
theorem unique_l0 (xs : List (List UInt8)) (w : List UInt8) (hl : xs.length ≤ 1000000) (hw : w.length ≤ 1000000) (m : Nat) : ∀ i : Nat, i + m = w.length →
    Ev (fun k => zRa.l0 k (xs.map tx) (tx w) (i : Int)) (tx (uniqG xs w m i)) := by
  induction m with
  | zero =>
    intro i hi
    refine Ev.succ ?_
    simp only [zRa.l0, zMa]
    exact Ev.neg (by omega) (Ev.const rfl)
  | succ m ih =>
    intro i hi
    refine Ev.succ ?_
    simp only [zRa.l0, zMa, tx_extract, Int.toNat_natCast, List.drop_zero]
    refine Ev.pos (by omega) (Ev.pos (by omega) (Ev.pos (by omega) (Ev.bind (under_ev xs _ hl) ?_)))
    simp only [List.length_map]
    by_cases hc : (zJa xs (w.take i)).length = 1
    · have e : uniqG xs w (m + 1) i = w.take i := by simp only [uniqG]; rw [if_pos hc]
      rw [e]
      exact Ev.pos (by omega) (Ev.const rfl)
    · have e : uniqG xs w (m + 1) i = uniqG xs w m (i + 1) := by simp only [uniqG]; rw [if_neg hc]
      rw [e]
      refine Ev.neg (by omega) ?_
      rw [zSa (by omega) (by omega)]
      have := ih (i + 1) (by omega)
      simpa using this
theorem unique_ev (xs : List (List UInt8)) (w : List UInt8) (hl : xs.length ≤ 1000000) (hw : w.length ≤ 1000000) : Ev (fun k => zRa.f k (xs.map tx) (tx w)) (tx (uniqW xs w)) := by
  unfold zRa.f uniqW
  exact unique_l0 xs w hl hw _ 0 (by omega)
theorem shared_l0 (xs : List (List UInt8)) (ha : Asc xs) (hne : xs ≠ []) (hl : xs.length ≤ 1000000) (m : Nat) : ∀ s : List UInt8, s.length = (sharedW xs).length + m → s <+: xs.headD [] → s.length ≤ 1000000 →
    Ev (fun k => zFa.l0 k (xs.map tx) (tx s)) (tx (sharedW xs)) := by
  have hsh : sharedW xs <+: xs.headD [] := sharedW_all ha (headD_mem hne)
  induction m with
  | zero =>
    intro s hs hp hsl
    have e : s = sharedW xs := by
      have h1 := List.prefix_iff_eq_take.1 hp
      have h2 := List.prefix_iff_eq_take.1 hsh
      rw [h1, h2, hs, Nat.add_zero]
    refine Ev.succ ?_
    simp only [zFa.l0]
    refine Ev.bind (under_ev xs s hl) ?_
    rw [e, underW_all (fun x hx => sharedW_all ha hx)]
    exact Ev.neg (by omega) (Ev.const rfl)
  | succ m ih =>
    intro s hs hp hsl
    refine Ev.succ ?_
    simp only [zFa.l0]
    refine Ev.bind (under_ev xs s hl) ?_
    have hlt : (zJa xs s).length < xs.length := by
      rcases Nat.lt_or_ge (zJa xs s).length xs.length with h | h
      · exact h
      · exfalso
        have hall : ∀ x ∈ xs, s <+: x := by
          have : zJa xs s = xs := (List.filter_sublist).eq_of_length_le h
          intro x hx
          rw [← this] at hx
          exact (mem_underW.1 hx).2
        have := (sharedW_best hne hall).length_le
        omega
    simp only [List.length_map, zMa]
    refine Ev.pos (by omega) ?_
    have hw : wrap64 ((s.length : Int) - 1) = ((s.length - 1 : Nat) : Int) := by rw [zSa (by omega) (by omega)]; omega
    rw [hw]
    refine Ev.pos (by omega) (Ev.pos (by omega) ?_)
    rw [Int.toNat_natCast, tx_extract, List.drop_zero]
    exact ih (s.take (s.length - 1)) (by rw [List.length_take]; omega) ((List.take_prefix _ _).trans hp) (by rw [List.length_take]; omega)
theorem specShared_ev (xs : List (List UInt8)) (ha : Asc xs) (hne : xs ≠ []) (hl : xs.length ≤ 1000000) (hs : ∀ x ∈ xs, x.length ≤ 1000000) : Ev (fun k => zFa.f k (xs.map tx)) (tx (sharedW xs)) := by
  unfold zFa.f
  have hp := List.length_pos_iff.2 hne
  refine Ev.pos (by rw [List.length_map]; omega) ?_
  have e : rdOf ByteArray.empty (xs.map tx) 0 = tx (xs.headD []) := by
    rw [rdOf_tx]
    cases xs with
    | nil => exact absurd rfl hne
    | cons a t => rfl
  rw [e]
  have hle := (sharedW_all ha (headD_mem hne)).length_le
  exact shared_l0 xs ha hne hl ((xs.headD []).length - (sharedW xs).length) _ (by omega) (List.prefix_refl _) (hs _ (headD_mem hne))
theorem drawUnique_ok {c : List Int} (hc : Bytes c) : ∃ t w, Ev (fun k => spec_DrawUniquePrefix.f k c) (t, tx w) ∧ t.length ≤ 1000 ∧ w.length ≤ 100 := by
  obtain ⟨t, a1, s1, ht, htl, ha1⟩ := trie_ok hc 0 0 (by omega) (by omega)
  obtain ⟨w, a2, s2, hw, hwl, ha2⟩ := wordOf_ok hc t htl a1 s1 (by omega) (by omega)
  refine ⟨t, w.toList, ?_, htl, by rw [size_toList]; exact hwl⟩
  rw [← tx_surj]
  unfold spec_DrawUniquePrefix.f
  exact Ev.bind ht (Ev.bind hw (Ev.const rfl))
theorem drawShared_ok {c : List Int} (hc : Bytes c) : ∃ t, Ev (fun k => spec_DrawSharedPrefix.f k c) t ∧ t.length ≤ 1000 := by
  obtain ⟨t, a1, s1, ht, htl, ha1⟩ := trie_ok hc 0 0 (by omega) (by omega)
  have htl : t.length ≤ 1000 := htl
  obtain ⟨b, a2, s2, e2, _, ha2⟩ := of_ok hc a1 s1 ([(⟨#[97]⟩ : ByteArray), ⟨#[98]⟩, ⟨#[97, 98]⟩, ⟨#[]⟩]) (by omega) (by omega) (by simp)
  have hwl : (wordsX t).length ≤ 1000 := Nat.le_trans (wordsN_length _ _) htl
  have hun := under_ev (wordsX t) b.toList (by omega)
  rw [← tx_surj] at hun
  have pre : ∀ {res : List zL}, Ev (fun k => (some (validB t)).bind fun t452 => (if t452 = true then (if ((((zJa (wordsX t) b.toList).map tx).length : Int)) > 0 then ((zM.f c a2 s2 2).bind fun bt453 => (if bt453.1 = true then ((l2of.f ((zJa (wordsX t) b.toList).map tx)).bind fun t456 => (some t456)) else (some t))) else (some t)) else (some t))) res → Ev (fun k => spec_DrawSharedPrefix.f k c) res := by
    intro res h
    unfold spec_DrawSharedPrefix.f
    refine Ev.bind ht (Ev.bind (specWords_ev t (by omega)) ?_)
    simp only [e2, Option.bind_some]
    refine Ev.bind hun (Ev.bind (specTrie_ev t (by omega)) ?_)
    simpa only [Option.bind_some] using h
  simp only [Option.bind_some] at pre
  cases hv : validB t with
  | false => exact ⟨t, pre (by rw [hv]; exact Ev.neg (by simp) (Ev.const rfl)), htl⟩
  | true =>
    by_cases hp : ((((zJa (wordsX t) b.toList).map tx).length : Int)) > 0
    · obtain ⟨y, a3, s3, e3, ha3⟩ := one_ok hc a2 s2 2 (by omega) (by omega) (by omega)
      cases y with
      | false =>
        refine ⟨t, pre (by rw [hv]; refine Ev.pos rfl (Ev.pos hp ?_); simp only [e3, Option.bind_some]; exact Ev.neg (by simp) (Ev.const rfl)), htl⟩
      | true =>
        obtain ⟨W, hW, rfl⟩ := (validB_iff t).1 hv
        rw [wordsX_ofW hW] at pre hp
        have hUl : (zJa W b.toList).length ≤ 40 := Nat.le_trans (List.length_filter_le _ _) hW.few
        have hU12 : ∀ w ∈ zJa W b.toList, w.length ≤ 12 := fun w hw => (hW.wrd w (mem_underW.1 hw).1).1
        have hof := l2of_tx (zJa W b.toList) (by omega) (fun w hw => by have := hU12 w hw; omega)
        refine ⟨ofW (zJa W b.toList), pre (by
          rw [hv]; refine Ev.pos rfl (Ev.pos hp ?_)
          simp only [e3, hof, Option.bind_some]
          exact Ev.pos (by simp) (Ev.const rfl)), ?_⟩
        have e : (ofW (zJa W b.toList)).length = (zha (zJa W b.toList)).length := by simp [ofW, zTa]
        have := prefsP_bound (zJa W b.toList) 12 hU12 _ (Nat.le_refl _)
        have h6 : (zha (zJa W b.toList)).length ≤ 1 + (zJa W b.toList).length * 12 := this.1
        omega
    · exact ⟨t, pre (by rw [hv]; exact Ev.pos rfl (Ev.neg hp (Ev.const rfl))), htl⟩
theorem letters_f (w : List UInt8) (hw : w.length ≤ 1000000) : impl_areLetters.f (tx w) = some (lettersW w) := by
  unfold impl_areLetters.f strings_Trim.f
  rw [if_pos ⟨by rw [zMa]; omega, rfl⟩, Option.bind_some, zbb]
  congr 1
  rw [← trim_letters]
theorem isWord_f (w : List UInt8) (hw : w.length ≤ 1000000) : impl_isWord.f (tx w) = some (decide (WordW w)) := by
  unfold impl_isWord.f
  rw [zMa]
  by_cases h : w.length ≤ 12
  · rw [if_pos (by omega), letters_f w hw, Option.bind_some]
    congr 1
    rw [Bool.eq_iff_iff, decide_eq_true_eq]
    exact ⟨fun e => ⟨h, e⟩, fun e => e.2⟩
  · rw [if_neg (by omega)]
    congr 1
    symm
    rw [decide_eq_false_iff_not]
    exact fun e => h e.1
theorem areKept_f (t : List zL) (w : List UInt8) (hw : w.length ≤ 1000000) : zhb.f t (tx w) = some (validB t && decide (WordW w)) := by
  unfold zhb.f zfb.f
  rw [Option.bind_some]
  cases validB t with
  | true => rw [if_pos rfl, isWord_f w hw, Option.bind_some, Bool.true_and]
  | false => rw [if_neg (by simp), Bool.false_and]
theorem index_l0 (xs : List (List UInt8)) (w : List UInt8) (hl : xs.length ≤ 1000000) (m : Nat) : ∀ i : Nat, xs.length - i = m → i ≤ xs.length → (w ∉ xs.take i) →
    ∃ r : Int, Ev (fun k => zda.l0 k (xs.map tx) (tx w) (xs.length : Int) (i : Int)) r ∧ (0 ≤ r ↔ w ∈ xs) := by
  induction m with
  | zero =>
    intro i hm hi hn
    obtain rfl : i = xs.length := by omega
    rw [List.take_length] at hn
    refine ⟨-1, Ev.succ ?_, by simp [hn]⟩
    simp only [zda.l0]
    exact Ev.neg (by omega) (Ev.const rfl)
  | succ m ih =>
    intro i hm hi hn
    have hlt : i < xs.length := by omega
    have hg : xs.getD i [] = xs[i] := by rw [List.getD_eq_getElem?_getD, List.getElem?_eq_getElem hlt]; rfl
    by_cases hc : w = xs[i]
    · refine ⟨(i : Int), Ev.succ ?_, by simp [hc]⟩
      simp only [zda.l0, List.length_map, rdOf_tx, Int.toNat_natCast, hg, zbb]
      exact Ev.pos (by omega) (Ev.pos (by omega) (Ev.pos (by omega) (Ev.pos hc (Ev.const rfl))))
    · obtain ⟨r, hr, h2⟩ := ih (i + 1) (by omega) (by omega) (by
        rw [List.take_succ_eq_append_getElem hlt]
        intro h
        rcases List.mem_append.1 h with h | h
        · exact hn h
        · exact hc (List.mem_singleton.1 h))
      refine ⟨r, Ev.succ ?_, h2⟩
      simp only [zda.l0, List.length_map, rdOf_tx, Int.toNat_natCast, hg, zbb]
      refine Ev.pos (by omega) (Ev.pos (by omega) (Ev.pos (by omega) (Ev.neg hc ?_)))
      rw [zSa (by omega) (by omega)]
      simpa using hr
theorem contains_ev (xs : List (List UInt8)) (w : List UInt8) (hl : xs.length ≤ 1000000) : Ev (fun k => zIa.f k (xs.map tx) (tx w)) (decide (w ∈ xs)) := by
  obtain ⟨r, hr, h2⟩ := index_l0 xs w hl _ 0 rfl (Nat.zero_le _) (by simp)
  unfold zIa.f zda.f
  rw [List.length_map]
  refine Ev.bind hr (Ev.const ?_)
  congr 1
  rw [decide_eq_decide]
  exact h2
theorem has_ev {W : List (List UInt8)} (h : OkW W) (w : List UInt8) : Ev (fun k => impl_Trie_has.f k (ofW W) (tx w)) (decide (w ∈ W)) := by
  unfold impl_Trie_has.f
  have hw := words_ev (ofW W) (zha W) h.prefs
  rw [h.words] at hw
  exact Ev.bind hw (Ev.bind (contains_ev W w (by have := h.few; omega)) (Ev.const rfl))
theorem implUnder_f {W : List (List UInt8)} (h : OkW W) (p : List UInt8) : zDa.f (ofW W) (tx p) = some ((zJa W p).map tx) := by
  unfold zDa.f
  rw [h.prefs, zbb]
  simp only [h.words]
theorem implShared_f {U : List (List UInt8)} (hne : U ≠ []) (hs : ∀ x ∈ U, x.length ≤ 1000000) : impl_shared.f (U.map tx) = some (tx (sharedW U)) := by
  unfold impl_shared.f sharedW
  have hp := List.length_pos_iff.2 hne
  have hb : ∀ b ∈ U.map tx, b.size ≤ 4611686018427387904 := by
    intro b hb
    obtain ⟨x, hx, rfl⟩ := List.mem_map.1 hb
    rw [zMa]; have := hs x hx; omega
  rw [if_pos ⟨by simpa using hp, hb⟩]
  have e1 : (U.map tx).headD ⟨#[]⟩ = tx (U.headD []) := by cases U <;> rfl
  have e2 : (U.map tx).getLastD ⟨#[]⟩ = tx (U.getLastD []) := by
    rw [List.getLastD_eq_getLast?, List.getLastD_eq_getLast?, List.getLast?_map]
    cases U.getLast? <;> rfl
  rw [e1, e2, zbb, zbb]
end Go.Proofs.YtfabennfhmlihaaGreatDoor.P
end
section
namespace Go.Proofs.YtfabennfhmlihaaGreatDoor.P
open Go Go.RowKit Go.Proofs.YtfabennfhmlihaaGreatDoorW.zJ Go.Proofs.YtfabennfhmlihaaGreatDoorW.zU Go.Proofs.YtfabennfhmlihaaGreatDoorW.PrintMore
set_option linter.unusedVariables false
/-- What is returned of a trie that is not valid, or none of whose words is asked. -/
abbrev noText : ByteArray := ⟨#[]⟩
open Classical in
/-- UniquePrefix, WordsUnder, CompleteTo, SharedPrefix of a valid trie of words W. -/
noncomputable def uniqR (W : List (List UInt8)) (w : List UInt8) : ByteArray × Bool := if w ∈ W then (tx (uniqW W w), true) else (noText, false)
noncomputable def underR (W : List (List UInt8)) (w : List UInt8) : List ByteArray × Bool := if WordW w then ((zJa W w).map tx, true) else ([], false)
noncomputable def compR (W : List (List UInt8)) (w : List UInt8) : ByteArray × Bool := if WordW w ∧ zJa W w ≠ [] then (tx (sharedW (zJa W w)), true) else (noText, false)
noncomputable def sharR (W : List (List UInt8)) : ByteArray × Bool := if W ≠ [] then (tx (sharedW W), true) else (noText, false)
theorem implUniq_bad {t : List zL} (h : validB t = false) (w : List UInt8) (hw : w.length ≤ 1000000) : Ev (fun k => zY.f k t (tx w)) (noText, false) := by
  unfold zY.f
  simp only [areKept_f t w hw, h, Bool.false_and, Option.bind_some]
  refine Ev.neg (by simp) (Ev.succ ?_)
  simp only [zY.j0]
  exact Ev.pos trivial (Ev.const rfl)
theorem specUniq_bad {t : List zL} (h : validB t = false) (ht : t.length ≤ 1000) (w : List UInt8) : Ev (fun k => zja.f k t (tx w)) (noText, false) := by
  unfold zja.f
  refine Ev.bind (specTrie_ev t (by omega)) ?_
  rw [h]
  refine Ev.neg (by simp) (Ev.succ ?_)
  simp only [zja.j0]
  exact Ev.pos trivial (Ev.const rfl)
theorem implUnder_bad {t : List zL} (h : validB t = false) (w : List UInt8) (hw : w.length ≤ 1000000) : zHa.f t (tx w) = some ([], false) := by
  unfold zHa.f
  simp only [areKept_f t w hw, h, Bool.false_and, Option.bind_some]
  rfl
theorem specUnder_bad {t : List zL} (h : validB t = false) (ht : t.length ≤ 1000) (w : List UInt8) : Ev (fun k => zxa.f k t (tx w)) ([], false) := by
  unfold zxa.f
  refine Ev.bind (specTrie_ev t (by omega)) ?_
  rw [h]
  refine Ev.neg (by simp) (Ev.succ ?_)
  simp only [zxa.j0]
  exact Ev.pos trivial (Ev.const rfl)
theorem implComp_bad {t : List zL} (h : validB t = false) (w : List UInt8) (hw : w.length ≤ 1000000) : Ev (fun k => zna.f k t (tx w)) (noText, false) := by
  unfold zna.f
  simp only [areKept_f t w hw, h, Bool.false_and, Option.bind_some]
  refine Ev.neg (by simp) (Ev.succ ?_)
  simp only [zna.j0]
  exact Ev.pos trivial (Ev.const rfl)
theorem specComp_bad {t : List zL} (h : validB t = false) (ht : t.length ≤ 1000) (w : List UInt8) : Ev (fun k => zwa.f k t (tx w)) (noText, false) := by
  unfold zwa.f
  refine Ev.bind (specTrie_ev t (by omega)) ?_
  rw [h]
  refine Ev.neg (by simp) (Ev.succ ?_)
  simp only [zwa.j0]
  exact Ev.pos trivial (Ev.const rfl)
theorem implShar_bad {t : List zL} (h : validB t = false) : Ev (fun k => zla.f k t) (noText, false) := by
  unfold zla.f zfb.f
  simp only [h, Option.bind_some]
  refine Ev.neg (by simp) (Ev.succ ?_)
  simp only [zla.j0]
  exact Ev.pos trivial (Ev.const rfl)
theorem specShar_bad {t : List zL} (h : validB t = false) (ht : t.length ≤ 1000) : Ev (fun k => zka.f k t) (noText, false) := by
  unfold zka.f
  refine Ev.bind (specTrie_ev t (by omega)) ?_
  rw [h]
  refine Ev.neg (by simp) (Ev.succ ?_)
  simp only [zka.j0]
  exact Ev.pos trivial (Ev.const rfl)
section
variable {W : List (List UInt8)} (h : OkW W)
include h
theorem OkW.ofW_len : (ofW W).length ≤ 481 := by
  have e : (ofW W).length = (zha W).length := by simp [ofW, zTa]
  rw [e]; exact h.bound.1
theorem OkW.val : validB (ofW W) = true := (validB_iff _).2 ⟨W, h, rfl⟩
theorem OkW.implWords : Ev (fun k => zT.f k (ofW W)) (W.map tx) := by
  have := words_ev (ofW W) (zha W) h.prefs
  rwa [h.words] at this
theorem OkW.specWords : Ev (fun k => zW.f k (ofW W)) (W.map tx) := by
  have := specWords_ev (ofW W) (by have := h.ofW_len; omega)
  rwa [wordsX_ofW h] at this
theorem OkW.specTrie : Ev (fun k => zea.f k (ofW W)) true := by
  have := specTrie_ev (ofW W) (by have := h.ofW_len; omega)
  rwa [h.val] at this
theorem OkW.under_len (p : List UInt8) : (zJa W p).length ≤ 40 := Nat.le_trans (List.length_filter_le _ _) h.few
theorem OkW.word_len {x : List UInt8} (hx : x ∈ W) : x.length ≤ 12 := (h.wrd x hx).1
theorem implUniq_l0 (w : List UInt8) (hw : w.length ≤ 1000000) (m : Nat) : ∀ i : Nat, i + m = w.length →
    Ev (fun k => zY.l0 k (tx w) (w.length : Int) (i : Int) (ofW W)) (tx (uniqG W w m i), true) := by
  induction m with
  | zero =>
    intro i hi
    refine Ev.succ ?_
    simp only [zY.l0]
    exact Ev.neg (by omega) (Ev.const rfl)
  | succ m ih =>
    intro i hi
    refine Ev.succ ?_
    simp only [zY.l0, zMa, tx_extract, Int.toNat_natCast, List.drop_zero, implUnder_f h, Option.bind_some, List.length_map]
    refine Ev.pos (by omega) (Ev.pos (by omega) (Ev.pos (by omega) ?_))
    by_cases hc : (zJa W (w.take i)).length = 1
    · have e : uniqG W w (m + 1) i = w.take i := by simp only [uniqG]; rw [if_pos hc]
      rw [e]
      exact Ev.pos (by omega) (Ev.const rfl)
    · have e : uniqG W w (m + 1) i = uniqG W w m (i + 1) := by simp only [uniqG]; rw [if_neg hc]
      rw [e]
      refine Ev.neg (by omega) ?_
      rw [zSa (by omega) (by omega)]
      have := ih (i + 1) (by omega)
      simpa using this
theorem implUniq_ev (w : List UInt8) (hw : w.length ≤ 1000000) : Ev (fun k => zY.f k (ofW W) (tx w)) (uniqR W w) := by
  unfold zY.f uniqR
  simp only [areKept_f _ w hw, h.val, Bool.true_and, Option.bind_some, decide_eq_true_eq]
  by_cases hwd : WordW w
  · refine Ev.pos hwd (Ev.bind (has_ev h w) (Ev.succ ?_))
    simp only [zY.j0, zMa]
    by_cases hm : w ∈ W
    · rw [if_pos hm]
      refine Ev.neg (by simp [hm]) ?_
      exact implUniq_l0 h w hw _ 0 (by omega)
    · rw [if_neg hm]
      exact Ev.pos (by simp [hm]) (Ev.const rfl)
  · rw [if_neg (fun hm => hwd (h.wrd w hm))]
    refine Ev.neg hwd (Ev.succ ?_)
    simp only [zY.j0]
    exact Ev.pos trivial (Ev.const rfl)
theorem specUniq_ev (w : List UInt8) (hw : w.length ≤ 1000000) : Ev (fun k => zja.f k (ofW W) (tx w)) (uniqR W w) := by
  unfold zja.f uniqR
  refine Ev.bind h.specTrie (Ev.pos rfl (Ev.bind h.specWords (Ev.bind (l2Has_ev W w (by have := h.few; omega)) (Ev.succ ?_))))
  simp only [zja.j0]
  by_cases hm : w ∈ W
  · rw [if_pos hm]
    exact Ev.neg (by simp [hm]) (Ev.bind h.specWords (Ev.bind (unique_ev W w (by have := h.few; omega) hw) (Ev.const rfl)))
  · rw [if_neg hm]
    exact Ev.pos (by simp [hm]) (Ev.const rfl)
theorem implUnderR (w : List UInt8) (hw : w.length ≤ 1000000) : zHa.f (ofW W) (tx w) = some (underR W w) := by
  unfold zHa.f underR
  simp only [areKept_f _ w hw, h.val, Bool.true_and, Option.bind_some, decide_eq_true_eq, implUnder_f h]
  split <;> rfl
theorem specUnder_ev (w : List UInt8) (hw : w.length ≤ 1000000) : Ev (fun k => zxa.f k (ofW W) (tx w)) (underR W w) := by
  unfold zxa.f underR
  refine Ev.bind h.specTrie (Ev.pos rfl (Ev.bind (word_ev w (by omega)) (Ev.succ ?_)))
  simp only [zxa.j0]
  by_cases hwd : WordW w
  · rw [if_pos hwd]
    exact Ev.neg (by simp [hwd]) (Ev.bind h.specWords (Ev.bind (under_ev W w (by have := h.few; omega)) (Ev.const rfl)))
  · rw [if_neg hwd]
    exact Ev.pos (by simp [hwd]) (Ev.const rfl)
theorem implComp_ev (w : List UInt8) (hw : w.length ≤ 1000000) : Ev (fun k => zna.f k (ofW W) (tx w)) (compR W w) := by
  unfold zna.f
  simp only [areKept_f _ w hw, h.val, Bool.true_and, Option.bind_some, decide_eq_true_eq, implUnder_f h, List.length_map]
  by_cases hwd : WordW w
  · refine Ev.pos hwd (Ev.succ ?_)
    simp only [zna.j0, implUnder_f h, Option.bind_some]
    by_cases hu : zJa W w = []
    · have e : compR W w = (noText, false) := if_neg (fun hc => hc.2 hu)
      rw [e]
      exact Ev.pos (by simp [hu]) (Ev.const rfl)
    · have e : compR W w = (tx (sharedW (zJa W w)), true) := if_pos ⟨hwd, hu⟩
      rw [e]
      refine Ev.neg (by have := List.length_pos_iff.2 hu; simp; omega) ?_
      rw [implShared_f hu (fun x hx => by have := h.word_len (mem_underW.1 hx).1; omega)]
      exact Ev.const rfl
  · have e : compR W w = (noText, false) := if_neg (fun hc => hwd hc.1)
    rw [e]
    refine Ev.neg hwd (Ev.succ ?_)
    simp only [zna.j0]
    exact Ev.pos trivial (Ev.const rfl)
theorem specComp_ev (w : List UInt8) (hw : w.length ≤ 1000000) : Ev (fun k => zwa.f k (ofW W) (tx w)) (compR W w) := by
  unfold zwa.f compR
  refine Ev.bind h.specTrie (Ev.pos rfl (Ev.bind (word_ev w (by omega)) (Ev.succ ?_)))
  simp only [zwa.j0]
  by_cases hwd : WordW w
  · refine Ev.neg (by simp [hwd]) (Ev.bind h.specWords (Ev.bind (under_ev W w (by have := h.few; omega)) ?_))
    simp only [List.length_map]
    by_cases hu : zJa W w = []
    · rw [if_neg (fun hc => hc.2 hu)]
      exact Ev.pos (by simp [hu]) (Ev.const rfl)
    · rw [if_pos ⟨hwd, hu⟩]
      refine Ev.neg (by have := List.length_pos_iff.2 hu; omega) (Ev.bind (specShared_ev _ (asc_underW h.asc w) hu (by have := h.under_len w; omega) (fun x hx => by have := h.word_len (mem_underW.1 hx).1; omega)) (Ev.const rfl))
  · rw [if_neg (fun hc => hwd hc.1)]
    exact Ev.pos (by simp [hwd]) (Ev.const rfl)
theorem implShar_ev : Ev (fun k => zla.f k (ofW W)) (sharR W) := by
  unfold zla.f zfb.f
  simp only [h.val, Option.bind_some]
  refine Ev.pos trivial (Ev.bind h.implWords (Ev.succ ?_))
  simp only [zla.j0, List.length_map]
  by_cases hu : W = []
  · have e : sharR W = (noText, false) := if_neg (fun hc => hc hu)
    rw [e]
    exact Ev.pos (by simp [hu]) (Ev.const rfl)
  · have e : sharR W = (tx (sharedW W), true) := if_pos hu
    rw [e]
    refine Ev.neg (by have := List.length_pos_iff.2 hu; simp; omega) (Ev.bind h.implWords ?_)
    rw [implShared_f hu (fun x hx => by have := h.word_len hx; omega)]
    exact Ev.const rfl
theorem specShar_ev : Ev (fun k => zka.f k (ofW W)) (sharR W) := by
  unfold zka.f sharR
  refine Ev.bind h.specTrie (Ev.pos rfl (Ev.bind h.specWords (Ev.succ ?_)))
  simp only [zka.j0, List.length_map]
  by_cases hu : W = []
  · rw [if_neg (fun hc => hc hu)]
    exact Ev.pos (by simp [hu]) (Ev.const rfl)
  · rw [if_pos hu]
    exact Ev.neg (by have := List.length_pos_iff.2 hu; simp; omega) (Ev.bind h.specWords (Ev.bind (specShared_ev W h.asc hu (by have := h.few; omega) (fun x hx => by have := h.word_len hx; omega)) (Ev.const rfl)))
theorem implCount_ev : Ev (fun k => impl_CountWords.f k (ofW W)) ((W.length : Int), true) := by
  unfold impl_CountWords.f zfb.f
  simp only [h.val, Option.bind_some]
  refine Ev.pos trivial (Ev.bind h.implWords (Ev.const ?_))
  rw [List.length_map]
end
theorem texts_l0 (a b : List (List UInt8)) (hab : a.length = b.length) (hl : a.length ≤ 1000000) (m : Nat) : ∀ i : Nat, a.length - i = m → i ≤ a.length →
    Ev (fun k => zeb.l0 k (a.map tx) (b.map tx) (i : Int)) (decide (a.drop i = b.drop i)) := by
  induction m with
  | zero =>
    intro i hm hi
    obtain rfl : i = a.length := by omega
    refine Ev.succ ?_
    simp only [zeb.l0, List.length_map]
    refine Ev.neg (by omega) (Ev.const ?_)
    rw [List.drop_length, hab, List.drop_length]; rfl
  | succ m ih =>
    intro i hm hi
    have hlt : i < a.length := by omega
    have hg1 : a.getD i [] = a[i] := by rw [List.getD_eq_getElem?_getD, List.getElem?_eq_getElem hlt]; rfl
    have hg2 : b.getD i [] = b[i] := by rw [List.getD_eq_getElem?_getD, List.getElem?_eq_getElem (by omega)]; rfl
    refine Ev.succ ?_
    simp only [zeb.l0, List.length_map, rdOf_tx, Int.toNat_natCast, hg1, hg2, zbb]
    refine Ev.pos (by omega) (Ev.pos (by omega) (Ev.pos (by omega) ?_))
    rw [List.drop_eq_getElem_cons hlt, List.drop_eq_getElem_cons (show i < b.length by omega)]
    by_cases hc : a[i] = b[i]
    · refine Ev.pos hc ?_
      rw [zSa (by omega) (by omega)]
      have e : decide (a[i] :: a.drop (i + 1) = b[i] :: b.drop (i + 1)) = decide (a.drop (i + 1) = b.drop (i + 1)) := by
        rw [decide_eq_decide]; exact ⟨fun h => (List.cons.inj h).2, fun h => by rw [hc, h]⟩
      rw [e]
      have := ih (i + 1) (by omega) (by omega)
      rwa [Int.natCast_add] at this
    · refine Ev.neg hc (Ev.const ?_)
      rw [decide_eq_false]
      intro e
      exact hc (List.cons.inj e).1
theorem texts_ev (a b : List (List UInt8)) (hl : a.length ≤ 1000000) : Ev (fun k => zeb.f k (a.map tx) (b.map tx)) (decide (a = b)) := by
  unfold zeb.f
  simp only [List.length_map]
  by_cases h : a.length = b.length
  · refine Ev.pos (by omega) ?_
    have := texts_l0 a b h hl _ 0 rfl (Nat.zero_le _)
    simpa using this
  · refine Ev.neg (by omega) (Ev.const ?_)
    rw [decide_eq_false]
    intro e; exact h (by rw [e])
end Go.Proofs.YtfabennfhmlihaaGreatDoor.P
end
section
namespace Go.Proofs.YtfabennfhmlihaaGreatDoor.P
open Go Go.RowKit Go.Proofs.YtfabennfhmlihaaGreatDoorW.zJ Go.Proofs.YtfabennfhmlihaaGreatDoorW.zU Go.Proofs.YtfabennfhmlihaaGreatDoorW.PrintMore
set_option linter.unusedVariables false
/-- The answers in one round of the law. -/
structure Ans3 (c : List Int) where
  T : List zL
  X : ByteArray
  ru : ByteArray
  bu : Bool
  rU : List ByteArray
  bf : Bool
  rc : ByteArray
  bt : Bool
  S : List zL
  rs : ByteArray
  bs : Bool
  e1 : ∃ k, spec_DrawUniquePrefix.f k c = some (T, X)
  e2 : ∃ k, zY.f k T X = some (ru, bu)
  e3 : ∃ k, zja.f k T X = some (ru, bu)
  e4 : zHa.f T X = some (rU, bf)
  e5 : ∃ k, zxa.f k T X = some (rU, bf)
  e6 : ∃ k, zna.f k T X = some (rc, bt)
  e7 : ∃ k, zwa.f k T X = some (rc, bt)
  e8 : ∃ k, spec_DrawSharedPrefix.f k (cutF c) = some S
  e9 : ∃ k, zla.f k S = some (rs, bs)
  e10 : ∃ k, zka.f k S = some (rs, bs)
  e11 : ∃ k, zeb.f k rU rU = some true
  x1 : X.size ≤ 1000
  c1 : bt = (bf && decide (0 < rU.length))
  c2 : bs = true → ∃ A : List ByteArray, (∃ k, zna.f k S ⟨#[]⟩ = some (rs, true)) ∧ zHa.f S rs = some (A, true) ∧ (∃ k, impl_CountWords.f k S = some ((A.length : Int), true))
  c3 : bu = true → ∃ O : List ByteArray, zHa.f T ru = some (O, true) ∧ ru.size ≤ X.size ∧ X.extract 0 ru.size = ru ∧ (ru ≠ X → O.length = 1) ∧
    (0 < ru.size → ∃ M : List ByteArray, zHa.f T (ru.extract 0 (ru.size - 1)) = some (M, true) ∧ 2 ≤ M.length)
  c4 : bt = true → ∃ A : List ByteArray, zHa.f T rc = some (A, true) ∧ X.size ≤ rc.size ∧ rc.extract 0 X.size = X ∧ (∃ k, zeb.f k A rU = some true)
theorem Bytes.cut {c : List Int} (h : Bytes c) (hl : c.length ≤ 65536) : Bytes (cutF c) := by
  unfold cutF
  split
  · exact ⟨by simp, by simp⟩
  · refine ⟨fun x hx => ?_, by simp; omega⟩
    rcases List.mem_append.1 hx with hx | hx
    · exact h.1 x (List.mem_of_mem_drop hx)
    · rw [List.mem_singleton.1 hx]; omega
theorem WordW.begs {p w : List UInt8} (h : p <+: w) (hw : WordW w) : WordW p :=
  ⟨Nat.le_trans h.length_le hw.1, lettersW_prefix h hw.2⟩
theorem law3 {c : List Int} (hc : Bytes c) (hl : c.length ≤ 65536) : Nonempty (Ans3 c) := by
  obtain ⟨T, w, hd, hTl, hwl⟩ := drawUnique_ok hc
  obtain ⟨S, hd2, hSl⟩ := drawShared_ok (hc.cut hl)
  -- the second trie
  have shared : ∃ rs bs, (∃ k, zla.f k S = some (rs, bs)) ∧ (∃ k, zka.f k S = some (rs, bs)) ∧
      (bs = true → ∃ A : List ByteArray, (∃ k, zna.f k S ⟨#[]⟩ = some (rs, true)) ∧ zHa.f S rs = some (A, true) ∧ (∃ k, impl_CountWords.f k S = some ((A.length : Int), true))) := by
    cases hv : validB S with
    | false => exact ⟨noText, false, (implShar_bad hv).get, (specShar_bad hv hSl).get, fun h => by cases h⟩
    | true =>
      obtain ⟨V, hV, rfl⟩ := (validB_iff S).1 hv
      refine ⟨(sharR V).1, (sharR V).2, (implShar_ev hV).get, (specShar_ev hV).get, fun hb => ?_⟩
      by_cases hne : V = []
      · have e : sharR V = (noText, false) := if_neg (fun hc => hc hne)
        rw [e] at hb; cases hb
      · have e : sharR V = (tx (sharedW V), true) := if_pos hne
        rw [e]
        have hnil : WordW [] := ⟨by simp, rfl⟩
        have hsw : WordW (sharedW V) := WordW.begs (sharedW_all hV.asc (headD_mem hne)) (hV.wrd _ (headD_mem hne))
        have h1 := (implComp_ev hV [] (by simp)).get
        have e1 : compR V [] = (tx (sharedW V), true) := by
          unfold compR
          rw [underW_nil]
          exact if_pos ⟨hnil, hne⟩
        rw [e1] at h1
        have h2 := implUnderR hV (sharedW V) (by have := hsw.1; omega)
        have e2 : underR V (sharedW V) = (V.map tx, true) := by
          unfold underR
          rw [if_pos hsw, underW_all (fun x hx => sharedW_all hV.asc hx)]
        rw [e2] at h2
        refine ⟨V.map tx, h1, h2, ?_⟩
        rw [List.length_map]
        exact (implCount_ev hV).get
  obtain ⟨rs, bs, s1, s2, s3⟩ := shared
  cases hv : validB T with
  | false =>
    exact ⟨{ T := T, X := tx w, ru := noText, bu := false, rU := [], bf := false, rc := noText, bt := false, S := S, rs := rs, bs := bs, e1 := hd.get, e2 := (implUniq_bad hv w (by omega)).get, e3 := (specUniq_bad hv hTl w).get, e4 := implUnder_bad hv w (by omega), e5 := (specUnder_bad hv hTl w).get, e6 := (implComp_bad hv w (by omega)).get, e7 := (specComp_bad hv hTl w).get, e8 := hd2.get, e9 := s1, e10 := s2, e11 := (texts_ev [] [] (by simp)).get, x1 := (by rw [zMa]; omega), c1 := rfl, c2 := s3, c3 := (fun h => by cases h), c4 := (fun h => by cases h) }⟩
  | true =>
    obtain ⟨W, hW, rfl⟩ := (validB_iff T).1 hv
    have uw : ∀ p, WordW p → zHa.f (ofW W) (tx p) = some ((zJa W p).map tx, true) := by
      intro p hp
      have := implUnderR hW p (by have := hp.1; omega)
      unfold underR at this
      rwa [if_pos hp] at this
    have tt : ∀ U : List (List UInt8), U.length ≤ 1000000 → ∃ k, zeb.f k (U.map tx) (U.map tx) = some true := by
      intro U hU
      have := (texts_ev U U hU).get
      simpa using this
    refine ⟨{ T := ofW W, X := tx w, ru := (uniqR W w).1, bu := (uniqR W w).2, rU := (underR W w).1, bf := (underR W w).2, rc := (compR W w).1, bt := (compR W w).2, S := S, rs := rs, bs := bs, e1 := hd.get, e2 := (implUniq_ev hW w (by omega)).get, e3 := (specUniq_ev hW w (by omega)).get, e4 := implUnderR hW w (by omega), e5 := (specUnder_ev hW w (by omega)).get, e6 := (implComp_ev hW w (by omega)).get, e7 := (specComp_ev hW w (by omega)).get, e8 := hd2.get, e9 := s1, e10 := s2, e11 := ?_, x1 := (by rw [zMa]; omega), c1 := ?_, c2 := s3, c3 := ?_, c4 := ?_ }⟩
    · by_cases hwd : WordW w
      · have e : underR W w = ((zJa W w).map tx, true) := if_pos hwd
        rw [e]; exact tt _ (by have := hW.under_len w; omega)
      · have e : underR W w = ([], false) := if_neg hwd
        rw [e]; exact tt [] (by simp)
    · by_cases hwd : WordW w
      · have e : underR W w = ((zJa W w).map tx, true) := if_pos hwd
        rw [e]
        by_cases hu : zJa W w = []
        · have e2 : compR W w = (noText, false) := if_neg (fun hc => hc.2 hu)
          rw [e2, hu]; rfl
        · have e2 : compR W w = (tx (sharedW (zJa W w)), true) := if_pos ⟨hwd, hu⟩
          rw [e2]
          have := List.length_pos_iff.2 hu
          simp; exact this
      · have e : underR W w = ([], false) := if_neg hwd
        have e2 : compR W w = (noText, false) := if_neg (fun hc => hwd hc.1)
        rw [e, e2]; rfl
    · intro hb
      by_cases hm : w ∈ W
      · have e : uniqR W w = (tx (uniqW W w), true) := if_pos hm
        rw [e]
        obtain ⟨n, hn, hu, hlt, h1⟩ := uniqW_spec W w
        have hww := hW.wrd w hm
        have hpre : uniqW W w <+: w := by rw [hu]; exact List.take_prefix _ _
        have hul : (uniqW W w).length = n := by rw [hu, List.length_take]; omega
        refine ⟨_, uw _ (hww.begs hpre), ?_, ?_, ?_, ?_⟩
        · show (tx (uniqW W w)).size ≤ (tx w).size
          rw [zMa, zMa]; exact hpre.length_le
        · show (tx w).extract 0 (tx (uniqW W w)).size = tx (uniqW W w)
          rw [zMa, tx_extract, List.drop_zero, hul, ← hu]
        · intro hne
          rw [List.length_map]
          have : n < w.length := by
            rcases Nat.lt_or_ge n w.length with h | h
            · exact h
            · exfalso
              apply hne
              show tx (uniqW W w) = tx w
              rw [hu, show n = w.length by omega, List.take_length]
          rw [hu]; exact h1 this
        · intro hpos
          have hpos : 0 < (tx (uniqW W w)).size := hpos
          rw [zMa, hul] at hpos
          have e3 : (tx (uniqW W w)).extract 0 ((tx (uniqW W w)).size - 1) = tx (w.take (n - 1)) := by
            rw [zMa, tx_extract, List.drop_zero, hul, hu, List.take_take]
            congr 2; omega
          refine ⟨(zJa W (w.take (n - 1))).map tx, ?_, ?_⟩
          · show zHa.f (ofW W) ((tx (uniqW W w)).extract 0 ((tx (uniqW W w)).size - 1)) = _
            rw [e3]
            exact uw _ (hww.begs (List.take_prefix _ _))
          · rw [List.length_map]
            have h2 := hlt (n - 1) (by omega)
            have h3 : 0 < (zJa W (w.take (n - 1))).length := List.length_pos_of_mem (mem_underW.2 ⟨hm, List.take_prefix _ _⟩)
            omega
      · have e : uniqR W w = (noText, false) := if_neg hm
        rw [e] at hb; cases hb
    · intro hb
      by_cases hcu : WordW w ∧ zJa W w ≠ []
      · have e2 : compR W w = (tx (sharedW (zJa W w)), true) := if_pos hcu
        have e : underR W w = ((zJa W w).map tx, true) := if_pos hcu.1
        rw [e2, e]
        have hsm := headD_mem hcu.2
        have hsp : sharedW (zJa W w) <+: (zJa W w).headD [] := sharedW_all (asc_underW hW.asc w) hsm
        have hsw : WordW (sharedW (zJa W w)) := WordW.begs hsp (hW.wrd _ (mem_underW.1 hsm).1)
        have hpw : w <+: sharedW (zJa W w) := sharedW_best hcu.2 (fun y hy => (mem_underW.1 hy).2)
        refine ⟨_, uw _ hsw, ?_, ?_, ?_⟩
        · show (tx w).size ≤ (tx (sharedW (zJa W w))).size
          rw [zMa, zMa]; exact hpw.length_le
        · show (tx (sharedW (zJa W w))).extract 0 (tx w).size = tx w
          rw [zMa, tx_extract, List.drop_zero, ← List.prefix_iff_eq_take.1 hpw]
        · rw [underW_shared hW.asc w hcu.2]
          exact tt _ (by have := hW.under_len w; omega)
      · have e2 : compR W w = (noText, false) := if_neg hcu
        rw [e2] at hb; cases hb
end Go.Proofs.YtfabennfhmlihaaGreatDoor.P
end
section
namespace Go.Proofs.YtfabennfhmlihaaGreatDoor.P
open Go Go.RowKit Go.Proofs.YtfabennfhmlihaaGreatDoorW.zJ Go.Proofs.YtfabennfhmlihaaGreatDoorW.zU Go.Proofs.YtfabennfhmlihaaGreatDoorW.PrintMore
set_option linter.unusedVariables false
theorem zdb {b : Nat} {w W W' : World} (h : b ≤ W.heap.size ∧ Below b w W) (hb : Below W.heap.size W W') : b ≤ W'.heap.size ∧ Below b w W' :=
  ⟨Nat.le_trans h.1 hb.size, h.2.trans (hb.mono h.1)⟩
theorem step_alloc {b : Nat} {w W : World} (h : b ≤ W.heap.size ∧ Below b w W) (o : Obj) : b ≤ (W.alloc o).heap.size ∧ Below b w (W.alloc o) :=
  zdb h (zg (Below.refl _ _) o)
theorem zWa {W : World} {g : Nat} {v : Value} {t : TypeId} (h : W.heap[g]? = some (.cells #[v] t (0, 0))) : W.cell? ⟨g, 0, none⟩ = some v := zD h 0
set_option maxRecDepth 100000 in
set_option maxHeartbeats 8000000 in
theorem law3_calls (A0 : Option Addr) (c0 : Nat) (l0 : List Int) (w : World) (hr0 : Kd.C (Kd.int .u8) w A0 l0.length l0) (hc0 : l0.length ≤ c0) (hby : Bytes l0) (hsm : l0.length ≤ 65536) :
    Calls Tryz.prog 3 #[.slice A0 l0.length c0] w fun e w' => e = .returned (.bool true) ∧ Below w.heap.size w w' := by
  obtain ⟨T, X, ru, bu, rU, bf, rc, bt, S, rs, bs, ⟨k1, e1⟩, ⟨k2, e2⟩, ⟨k3, e3⟩, e4, ⟨k5, e5⟩, ⟨k6, e6⟩, ⟨k7, e7⟩, ⟨k8, e8⟩, ⟨k9, e9⟩, ⟨k10, e10⟩, ⟨k11, e11⟩, hX, c1, c2, c3, c4⟩ := law3 hby hsm
  have hB : zb (w.heap.size ≤ w.heap.size ∧ Below w.heap.size w w) := ⟨Nat.le_refl _, Below.refl _ w⟩
  have hC := zb.mk hr0
  have hc := zb.mk hc0
  have hlen : zb (l0.length ≤ 140737488355000) := ⟨by omega⟩
  have hbig : zb (laws_vBig.f l0 = some false) := ⟨by unfold laws_vBig.f; simp; omega⟩
  clear hr0 hc0 hby hsm
  replace e1 := zb.mk e1
  replace e2 := zb.mk e2
  replace e3 := zb.mk e3
  replace e4 := zb.mk e4
  replace e5 := zb.mk e5
  replace e6 := zb.mk e6
  replace e7 := zb.mk e7
  replace e8 := zb.mk e8
  replace e9 := zb.mk e9
  replace e10 := zb.mk e10
  replace e11 := zb.mk e11
  replace c1 := zb.mk c1
  replace c2 := zb.mk c2
  replace c3 := zb.mk c3
  replace c4 := zb.mk c4
  go_enter Tryz.func3, Tryz.ntmps3
  go_wp2_with fail
  go_at_call 9
  refine (laws_vBig.calls _ _ l0 _ _ hC.out hc.out hbig.out).mono ?_
  rintro e W ⟨rfl, hd⟩
  have hb := zX.below hd
  clear hd
  have n_ := zb.mk (zdb hB.out hb); clear hB; have hB := n_; clear n_
  have n_ := zb.mk (Kd.zV hC.out hb); clear hC; have hC := n_; clear n_
  clear hb
  go_wp2_with fail
  go_at_call 10
  refine (spec_DrawUniquePrefix.calls k1 _ _ l0 T X _ hC.out hc.out e1.out).mono ?_
  rintro e WT ⟨v, rfl, ho, hb⟩
  have n_ := zb.mk (zdb hB.out hb); clear hB; have hB := n_; clear n_
  have n_ := zb.mk (Kd.zV hC.out hb); clear hC; have hC := n_; clear n_
  clear hb
  obtain ⟨AT, cT, eT⟩ := Kd.zpa ho
  subst eT
  have hT := zb.mk (Kd.zga (Kd.zQ ho).2.2 (.cells #[.slice AT T.length cT] 26))
  have hcT := zb.mk (Kd.zQ ho).2.1
  have hbT := zb.mk (blk_new WT (.cells #[.slice AT T.length cT] 26))
  have n_ := zb.mk (step_alloc hB.out (.cells #[.slice AT T.length cT] 26)); clear hB; have hB := n_; clear n_
  have n_ := zb.mk (Kd.zga hC.out (.cells #[.slice AT T.length cT] 26)); clear hC; have hC := n_; clear n_
  have cxT := zWa hbT.out
  clear ho
  go_wp2_with fail
  go_at_call 11
  refine (zY.calls k2 _ _ T X ru bu _ hT.out hcT.out e2.out).mono ?_
  rintro e W ⟨rfl, hb⟩
  have n_ := zb.mk (zdb hB.out hb); clear hB; have hB := n_; clear n_
  have n_ := zb.mk (Kd.zV hC.out hb); clear hC; have hC := n_; clear n_
  have n_ := zb.mk (Kd.zV hT.out hb); clear hT; have hT := n_; clear n_
  have n_ := zb.mk (zG hbT.out hb); clear hbT; have hbT := n_; clear n_
  clear cxT; have cxT := zWa hbT.out
  clear hb
  go_wp2_with fail
  go_at_call 12
  refine (zja.calls k3 _ _ T X ru bu _ hT.out hcT.out e3.out).mono ?_
  rintro e W ⟨rfl, hb⟩
  have n_ := zb.mk (zdb hB.out hb); clear hB; have hB := n_; clear n_
  have n_ := zb.mk (Kd.zV hC.out hb); clear hC; have hC := n_; clear n_
  have n_ := zb.mk (Kd.zV hT.out hb); clear hT; have hT := n_; clear n_
  have n_ := zb.mk (zG hbT.out hb); clear hbT; have hbT := n_; clear n_
  clear cxT; have cxT := zWa hbT.out
  clear hb
  go_wp2_with fail
  go_at_call 13
  refine (zHa.calls _ _ T X rU bf _ hT.out hcT.out e4.out).mono ?_
  rintro e W ⟨v, rfl, ho, hb⟩
  have n_ := zb.mk (zdb hB.out hb); clear hB; have hB := n_; clear n_
  have n_ := zb.mk (Kd.zV hC.out hb); clear hC; have hC := n_; clear n_
  have n_ := zb.mk (Kd.zV hT.out hb); clear hT; have hT := n_; clear n_
  have n_ := zb.mk (zG hbT.out hb); clear hbT; have hbT := n_; clear n_
  clear cxT; have cxT := zWa hbT.out
  clear hb
  obtain ⟨AU, cU, eU⟩ := Kd.zpa ho
  subst eU
  have hU := zb.mk (Kd.zQ ho).2.2
  have hcU := zb.mk (Kd.zQ ho).2.1
  clear ho
  go_wp2_with fail
  go_at_call 14
  refine (zxa.calls k5 _ _ T X rU bf _ hT.out hcT.out e5.out).mono ?_
  rintro e W ⟨v, rfl, ho, hb⟩
  have n_ := zb.mk (zdb hB.out hb); clear hB; have hB := n_; clear n_
  have n_ := zb.mk (Kd.zV hC.out hb); clear hC; have hC := n_; clear n_
  have n_ := zb.mk (Kd.zV hT.out hb); clear hT; have hT := n_; clear n_
  have n_ := zb.mk (zG hbT.out hb); clear hbT; have hbT := n_; clear n_
  have n_ := zb.mk (Kd.zV hU.out hb); clear hU; have hU := n_; clear n_
  clear cxT; have cxT := zWa hbT.out
  clear hb
  obtain ⟨AV, cV, eV⟩ := Kd.zpa ho
  subst eV
  have hV := zb.mk (Kd.zQ ho).2.2
  have hcV := zb.mk (Kd.zQ ho).2.1
  clear ho
  go_wp2_with fail
  go_at_call 15
  refine (zna.calls k6 _ _ T X rc bt _ hT.out hcT.out e6.out).mono ?_
  rintro e W ⟨rfl, hb⟩
  have n_ := zb.mk (zdb hB.out hb); clear hB; have hB := n_; clear n_
  have n_ := zb.mk (Kd.zV hC.out hb); clear hC; have hC := n_; clear n_
  have n_ := zb.mk (Kd.zV hT.out hb); clear hT; have hT := n_; clear n_
  have n_ := zb.mk (zG hbT.out hb); clear hbT; have hbT := n_; clear n_
  have n_ := zb.mk (Kd.zV hU.out hb); clear hU; have hU := n_; clear n_
  have n_ := zb.mk (Kd.zV hV.out hb); clear hV; have hV := n_; clear n_
  clear cxT; have cxT := zWa hbT.out
  clear hb
  go_wp2_with fail
  go_at_call 16
  refine (zwa.calls k7 _ _ T X rc bt _ hT.out hcT.out e7.out).mono ?_
  rintro e W ⟨rfl, hb⟩
  have n_ := zb.mk (zdb hB.out hb); clear hB; have hB := n_; clear n_
  have n_ := zb.mk (Kd.zV hC.out hb); clear hC; have hC := n_; clear n_
  have n_ := zb.mk (Kd.zV hT.out hb); clear hT; have hT := n_; clear n_
  have n_ := zb.mk (zG hbT.out hb); clear hbT; have hbT := n_; clear n_
  have n_ := zb.mk (Kd.zV hU.out hb); clear hU; have hU := n_; clear n_
  have n_ := zb.mk (Kd.zV hV.out hb); clear hV; have hV := n_; clear n_
  clear cxT; have cxT := zWa hbT.out
  clear hb
  go_wp2_with fail
  go_at_call 18
  refine (laws_vCut.one _ _ l0 _ hC.out hc.out hlen.out).mono ?_
  rintro e W ⟨v, rfl, ho, hb⟩
  have n_ := zb.mk (zdb hB.out hb); clear hB; have hB := n_; clear n_
  have n_ := zb.mk (Kd.zV hC.out hb); clear hC; have hC := n_; clear n_
  have n_ := zb.mk (Kd.zV hT.out hb); clear hT; have hT := n_; clear n_
  have n_ := zb.mk (zG hbT.out hb); clear hbT; have hbT := n_; clear n_
  have n_ := zb.mk (Kd.zV hU.out hb); clear hU; have hU := n_; clear n_
  have n_ := zb.mk (Kd.zV hV.out hb); clear hV; have hV := n_; clear n_
  clear cxT; have cxT := zWa hbT.out
  clear hb
  obtain ⟨AK, cK, eK⟩ := Kd.zpa ho
  subst eK
  have hK := zb.mk (Kd.zQ ho).2.2
  have hcK := zb.mk (Kd.zQ ho).2.1
  clear ho
  clear hC
  go_wp2_with fail
  go_at_call 17
  refine (spec_DrawSharedPrefix.calls k8 _ _ (cutF l0) S _ hK.out hcK.out e8.out).mono ?_
  rintro e WS ⟨v, rfl, ho, hb⟩
  have n_ := zb.mk (zdb hB.out hb); clear hB; have hB := n_; clear n_
  have n_ := zb.mk (Kd.zV hT.out hb); clear hT; have hT := n_; clear n_
  have n_ := zb.mk (zG hbT.out hb); clear hbT; have hbT := n_; clear n_
  have n_ := zb.mk (Kd.zV hU.out hb); clear hU; have hU := n_; clear n_
  have n_ := zb.mk (Kd.zV hV.out hb); clear hV; have hV := n_; clear n_
  have n_ := zb.mk (Kd.zV hK.out hb); clear hK; have hK := n_; clear n_
  clear cxT; have cxT := zWa hbT.out
  clear hb
  obtain ⟨AS, cS, eS⟩ := Kd.zpa ho
  subst eS
  have hS := zb.mk (Kd.zga (Kd.zQ ho).2.2 (.cells #[.slice AS S.length cS] 26))
  have hcS := zb.mk (Kd.zQ ho).2.1
  have hbS := zb.mk (blk_new WS (.cells #[.slice AS S.length cS] 26))
  have n_ := zb.mk (step_alloc hB.out (.cells #[.slice AS S.length cS] 26)); clear hB; have hB := n_; clear n_
  have n_ := zb.mk (Kd.zga hT.out (.cells #[.slice AS S.length cS] 26)); clear hT; have hT := n_; clear n_
  have n_ := zb.mk (zi hbT.out (.cells #[.slice AS S.length cS] 26)); clear hbT; have hbT := n_; clear n_
  have n_ := zb.mk (Kd.zga hU.out (.cells #[.slice AS S.length cS] 26)); clear hU; have hU := n_; clear n_
  have n_ := zb.mk (Kd.zga hV.out (.cells #[.slice AS S.length cS] 26)); clear hV; have hV := n_; clear n_
  have n_ := zb.mk (Kd.zga hK.out (.cells #[.slice AS S.length cS] 26)); clear hK; have hK := n_; clear n_
  clear cxT; have cxT := zWa hbT.out
  have cxS := zWa hbS.out
  clear ho
  clear hK
  go_wp2_with fail
  go_at_call 19
  refine (zla.calls k9 _ _ S rs bs _ hS.out hcS.out e9.out).mono ?_
  rintro e W ⟨rfl, hb⟩
  have n_ := zb.mk (zdb hB.out hb); clear hB; have hB := n_; clear n_
  have n_ := zb.mk (Kd.zV hT.out hb); clear hT; have hT := n_; clear n_
  have n_ := zb.mk (zG hbT.out hb); clear hbT; have hbT := n_; clear n_
  have n_ := zb.mk (Kd.zV hU.out hb); clear hU; have hU := n_; clear n_
  have n_ := zb.mk (Kd.zV hV.out hb); clear hV; have hV := n_; clear n_
  have n_ := zb.mk (Kd.zV hS.out hb); clear hS; have hS := n_; clear n_
  have n_ := zb.mk (zG hbS.out hb); clear hbS; have hbS := n_; clear n_
  clear cxT; have cxT := zWa hbT.out
  clear cxS; have cxS := zWa hbS.out
  clear hb
  go_wp2_with fail
  go_at_call 20
  refine (zka.calls k10 _ _ S rs bs _ hS.out hcS.out e10.out).mono ?_
  rintro e W ⟨rfl, hb⟩
  have n_ := zb.mk (zdb hB.out hb); clear hB; have hB := n_; clear n_
  have n_ := zb.mk (Kd.zV hT.out hb); clear hT; have hT := n_; clear n_
  have n_ := zb.mk (zG hbT.out hb); clear hbT; have hbT := n_; clear n_
  have n_ := zb.mk (Kd.zV hU.out hb); clear hU; have hU := n_; clear n_
  have n_ := zb.mk (Kd.zV hV.out hb); clear hV; have hV := n_; clear n_
  have n_ := zb.mk (Kd.zV hS.out hb); clear hS; have hS := n_; clear n_
  have n_ := zb.mk (zG hbS.out hb); clear hbS; have hbS := n_; clear n_
  clear cxT; have cxT := zWa hbT.out
  clear cxS; have cxS := zWa hbS.out
  clear hb
  go_upto_region 13 with fail
  go_cut [138] (fun sq wq => sq = .bool false ∧ zb (w.heap.size ≤ wq.heap.size ∧ Below w.heap.size w wq) ∧ zb (Kd.C zXa wq AT T.length T) ∧ zb (wq.heap[WT.heap.size]? = some (.cells #[.slice AT T.length cT] 26 (0, 0))) ∧ zb (Kd.C Kd.string wq AU rU.length rU) ∧ zb (Kd.C Kd.string wq AV rU.length rU) ∧ zb (Kd.C zXa wq AS S.length S) ∧ zb (wq.heap[WS.heap.size]? = some (.cells #[.slice AS S.length cS] 26 (0, 0))))
  case first =>
    as_aux_lemma =>
      have hcases : (bf = false ∧ bt = false) ∨ (bf = true ∧ bt = false ∧ ¬ 0 < rU.length) ∨ (bf = true ∧ bt = true ∧ 0 < rU.length) := by
        have := c1.out
        cases bf
        · exact .inl ⟨rfl, by simpa using this⟩
        · rcases Nat.eq_zero_or_pos rU.length with h | h
          · exact .inr (.inl ⟨rfl, by simpa [h] using this, by omega⟩)
          · exact .inr (.inr ⟨rfl, by simpa [h] using this, h⟩)
      rcases hcases with ⟨rfl, rfl⟩ | ⟨rfl, rfl, hz⟩ | ⟨rfl, rfl, hz⟩
      all_goals
        go_wp2_with fail
        go_at_call 21
        refine (zeb.calls k11 _ _ rU _ _ rU true _ hU.out hcU.out hV.out hcV.out e11.out).mono ?_
        rintro e W ⟨rfl, hd⟩
        have hb := zX.below hd
        clear hd
        have n_ := zb.mk (zdb hB.out hb); clear hB; have hB := n_; clear n_
        have n_ := zb.mk (Kd.zV hT.out hb); clear hT; have hT := n_; clear n_
        have n_ := zb.mk (zG hbT.out hb); clear hbT; have hbT := n_; clear n_
        have n_ := zb.mk (Kd.zV hU.out hb); clear hU; have hU := n_; clear n_
        have n_ := zb.mk (Kd.zV hV.out hb); clear hV; have hV := n_; clear n_
        have n_ := zb.mk (Kd.zV hS.out hb); clear hS; have hS := n_; clear n_
        have n_ := zb.mk (zG hbS.out hb); clear hbS; have hbS := n_; clear n_
        clear cxT; have cxT := zWa hbT.out
        clear cxS; have cxS := zWa hbS.out
        clear hb
        go_wp2_with fail
        go_meet
        exact ⟨rfl, hB, hT, hbT, hU, hV, hS, hbS⟩
  case rest =>
    as_aux_lemma =>
      clear cxT cxS
      clear hB hT hbT hU hV hS hbS
      obtain ⟨rfl, hB, hT, hbT, hU, hV, hS, hbS⟩ := hcut
      have cxT := zWa hbT.out
      have cxS := zWa hbS.out
      clear hV
      go_upto_if 139 with fail
      go_cut [] (fun wq => zb (w.heap.size ≤ wq.heap.size ∧ Below w.heap.size w wq) ∧ zb (Kd.C zXa wq AT T.length T) ∧ zb (wq.heap[WT.heap.size]? = some (.cells #[.slice AT T.length cT] 26 (0, 0))) ∧ zb (Kd.C Kd.string wq AU rU.length rU) ∧ zb (Kd.C zXa wq AS S.length S) ∧ zb (wq.heap[WS.heap.size]? = some (.cells #[.slice AS S.length cS] 26 (0, 0))))
      case first =>
        as_aux_lemma =>
          cases bs
          ·
            go_wp2_with fail
            go_meet
            exact ⟨hB, hT, hbT, hU, hS, hbS⟩
          ·
            obtain ⟨A, ⟨k12, e12⟩, e13, k14, e14⟩ := c2.out (by trivial)
            replace e12 := zb.mk e12
            replace e13 := zb.mk e13
            replace e14 := zb.mk e14
            go_wp2_with fail
            go_at_call 15
            refine (zna.calls k12 _ _ S ⟨#[]⟩ rs true _ hS.out hcS.out e12.out).mono ?_
            rintro e W ⟨rfl, hb⟩
            have n_ := zb.mk (zdb hB.out hb); clear hB; have hB := n_; clear n_
            have n_ := zb.mk (Kd.zV hT.out hb); clear hT; have hT := n_; clear n_
            have n_ := zb.mk (zG hbT.out hb); clear hbT; have hbT := n_; clear n_
            have n_ := zb.mk (Kd.zV hU.out hb); clear hU; have hU := n_; clear n_
            have n_ := zb.mk (Kd.zV hS.out hb); clear hS; have hS := n_; clear n_
            have n_ := zb.mk (zG hbS.out hb); clear hbS; have hbS := n_; clear n_
            clear cxT; have cxT := zWa hbT.out
            clear cxS; have cxS := zWa hbS.out
            clear hb
            go_wp2_with fail
            go_at_call 13
            refine (zHa.calls _ _ S rs A true _ hS.out hcS.out e13.out).mono ?_
            rintro e W ⟨v, rfl, ho, hb⟩
            have n_ := zb.mk (zdb hB.out hb); clear hB; have hB := n_; clear n_
            have n_ := zb.mk (Kd.zV hT.out hb); clear hT; have hT := n_; clear n_
            have n_ := zb.mk (zG hbT.out hb); clear hbT; have hbT := n_; clear n_
            have n_ := zb.mk (Kd.zV hU.out hb); clear hU; have hU := n_; clear n_
            have n_ := zb.mk (Kd.zV hS.out hb); clear hS; have hS := n_; clear n_
            have n_ := zb.mk (zG hbS.out hb); clear hbS; have hbS := n_; clear n_
            clear cxT; have cxT := zWa hbT.out
            clear cxS; have cxS := zWa hbS.out
            clear hb
            obtain ⟨AQ, cQ, eQ⟩ := Kd.zpa ho
            subst eQ
            have hQ := zb.mk (Kd.zQ ho).2.2
            have hcQ := zb.mk (Kd.zQ ho).2.1
            clear ho
            go_wp2_with fail
            go_at_call 22
            refine (impl_CountWords.calls k14 _ _ S (A.length : Int) true _ hS.out hcS.out e14.out).mono ?_
            rintro e W ⟨rfl, hb⟩
            have n_ := zb.mk (zdb hB.out hb); clear hB; have hB := n_; clear n_
            have n_ := zb.mk (Kd.zV hT.out hb); clear hT; have hT := n_; clear n_
            have n_ := zb.mk (zG hbT.out hb); clear hbT; have hbT := n_; clear n_
            have n_ := zb.mk (Kd.zV hU.out hb); clear hU; have hU := n_; clear n_
            have n_ := zb.mk (Kd.zV hS.out hb); clear hS; have hS := n_; clear n_
            have n_ := zb.mk (zG hbS.out hb); clear hbS; have hbS := n_; clear n_
            have n_ := zb.mk (Kd.zV hQ.out hb); clear hQ; have hQ := n_; clear n_
            clear cxT; have cxT := zWa hbT.out
            clear cxS; have cxS := zWa hbS.out
            clear hb
            clear hQ
            go_wp2_with fail
            go_meet
            exact ⟨hB, hT, hbT, hU, hS, hbS⟩
      case rest =>
        as_aux_lemma =>
          clear cxT cxS
          clear hB hT hbT hU hS hbS
          obtain ⟨hB, hT, hbT, hU, hS, hbS⟩ := hcut
          have cxT := zWa hbT.out
          have cxS := zWa hbS.out
          clear hS hbS cxS
          go_upto_if 177 with fail
          go_cut [] (fun wq => zb (w.heap.size ≤ wq.heap.size ∧ Below w.heap.size w wq) ∧ zb (Kd.C zXa wq AT T.length T) ∧ zb (wq.heap[WT.heap.size]? = some (.cells #[.slice AT T.length cT] 26 (0, 0))) ∧ zb (Kd.C Kd.string wq AU rU.length rU))
          case first =>
            as_aux_lemma =>
              cases bu
              ·
                go_wp2_with fail
                go_meet
                exact ⟨hB, hT, hbT, hU⟩
              ·
                obtain ⟨O, e15, hle, hex, hone, hmore⟩ := c3.out (by trivial)
                replace e15 := zb.mk e15
                replace hmore := zb.mk hmore
                have hle2 : decide (X.size < ru.size) = false := decide_eq_false (by omega)
                have hxt : (X.extract 0 ru.size).toList = ru.toList := by rw [hex]
                clear hex
                have hq : ru.toList = X.toList ∨ (ru.toList == X.toList) = false ∧ ((O.length : Int) != 1) = false := by
                  by_cases h : ru = X
                  · exact .inl (by rw [h])
                  · refine .inr ⟨?_, by rw [hone h]; rfl⟩
                    rw [beq_eq_false_iff_ne]
                    intro e; exact h (by rw [tx_surj ru, e, ← tx_surj X])
                clear hone
                go_wp2_with fail
                go_at_call 13
                refine (zHa.calls _ _ T ru O true _ hT.out hcT.out e15.out).mono ?_
                rintro e W ⟨v, rfl, ho, hb⟩
                have n_ := zb.mk (zdb hB.out hb); clear hB; have hB := n_; clear n_
                have n_ := zb.mk (Kd.zV hT.out hb); clear hT; have hT := n_; clear n_
                have n_ := zb.mk (zG hbT.out hb); clear hbT; have hbT := n_; clear n_
                have n_ := zb.mk (Kd.zV hU.out hb); clear hU; have hU := n_; clear n_
                clear cxT; have cxT := zWa hbT.out
                clear hb
                obtain ⟨AO, cO, eO⟩ := Kd.zpa ho
                subst eO
                have hO := zb.mk (Kd.zQ ho).2.2
                have hcO := zb.mk (Kd.zQ ho).2.1
                clear ho
                go_upto_region 23 with fail
                go_cut [210] (fun sq wq => sq = .bool false ∧ zb (w.heap.size ≤ wq.heap.size ∧ Below w.heap.size w wq) ∧ zb (Kd.C zXa wq AT T.length T) ∧ zb (wq.heap[WT.heap.size]? = some (.cells #[.slice AT T.length cT] 26 (0, 0))) ∧ zb (Kd.C Kd.string wq AU rU.length rU) ∧ zb (Kd.C Kd.string wq AO O.length O))
                case first =>
                  as_aux_lemma =>
                    rcases hq with hq | ⟨hq, hq1⟩
                    all_goals
                      go_wp2_with fail
                      go_meet
                      exact ⟨rfl, hB, hT, hbT, hU, hO⟩
                case rest =>
                  as_aux_lemma =>
                    clear cxT
                    clear hB hT hbT hU hO
                    obtain ⟨rfl, hB, hT, hbT, hU, hO⟩ := hcut
                    have cxT := zWa hbT.out
                    clear hO
                    by_cases hp : 0 < ru.size
                    ·
                      obtain ⟨M, e17, hM⟩ := hmore.out hp
                      obtain ⟨m, hm⟩ : ∃ m, ru.size = m + 1 := ⟨ru.size - 1, by omega⟩
                      rw [show ru.size - 1 = m by omega] at e17
                      have wj : IntKind.i64.wrap ((ru.size : Int) - 1) = (m : Int) := by rw [hm, zva, zSa (by omega) (by omega)]; omega
                      have pj := eq_true (show 0 ≤ (m : Int) by omega)
                      have qj := eq_true (show (m : Int) ≤ (ru.size : Int) by omega)
                      replace e17 := zb.mk e17
                      replace hm := zb.mk hm
                      go_wp2_with fail
                      have czT := cxT
                      have hb : Below wc.heap.size wc wc.drew := (Below.refl _ _).drew
                      have n_ := zb.mk (zdb hB.out hb); clear hB; have hB := n_; clear n_
                      have n_ := zb.mk (Kd.zV hT.out hb); clear hT; have hT := n_; clear n_
                      have n_ := zb.mk (zG hbT.out hb); clear hbT; have hbT := n_; clear n_
                      have n_ := zb.mk (Kd.zV hU.out hb); clear hU; have hU := n_; clear n_
                      clear cxT; have cxT := zWa hbT.out
                      clear hb
                      go_region_held3 (fun w' => w'.cell? ⟨WT.heap.size, 0, none⟩ = some (.slice AT T.length cT)) (first | exact czT | exact cxT | go_keep) ((go_at_call 13; refine (zHa.calls _ _ T _ M true _ hT.out hcT.out e17.out).mono ?_; rintro e W1 ⟨v, rfl, ho, hb⟩; have n_ := zb.mk (zdb hB.out hb); clear hB; have hB := n_; clear n_; have n_ := zb.mk (Kd.zV hT.out hb); clear hT; have hT := n_; clear n_; have n_ := zb.mk (zG hbT.out hb); clear hbT; have hbT := n_; clear n_; have n_ := zb.mk (Kd.zV hU.out hb); clear hU; have hU := n_; clear n_; clear cxT; have cxT := zWa hbT.out; clear hb))
                      clear czT
                      obtain ⟨AM, cM, eM⟩ := Kd.zpa ho
                      subst eM
                      have hM := zb.mk (Kd.zQ ho).2.2
                      have hcM := zb.mk (Kd.zQ ho).2.1
                      clear ho
                      clear wj pj qj
                      have hM2 : decide (M.length < 2) = false := decide_eq_false (by omega)
                      clear hM
                      go_wp2_with fail
                      go_meet
                      exact ⟨hB, hT, hbT, hU⟩
                    ·
                      go_wp2_with fail
                      go_meet
                      exact ⟨hB, hT, hbT, hU⟩
          case rest =>
            as_aux_lemma =>
              clear cxT
              clear hB hT hbT hU
              obtain ⟨hB, hT, hbT, hU⟩ := hcut
              have cxT := zWa hbT.out
              cases bt
              ·
                go_wp2
                go_ret
                exact ⟨rfl, hB.out.2⟩
              ·
                obtain ⟨A, e15, hle, hex, k16, e16⟩ := c4.out (by trivial)
                replace e15 := zb.mk e15
                replace e16 := zb.mk e16
                have hle2 : decide (rc.size < X.size) = false := decide_eq_false (by omega)
                have hle3 : decide (X.size ≤ rc.size) = true := decide_eq_true hle
                have hxt : (rc.extract 0 X.size).toList = X.toList := by rw [hex]
                clear hex
                go_wp2_with fail
                go_at_call 13
                refine (zHa.calls _ _ T rc A true _ hT.out hcT.out e15.out).mono ?_
                rintro e W ⟨v, rfl, ho, hb⟩
                have n_ := zb.mk (zdb hB.out hb); clear hB; have hB := n_; clear n_
                have n_ := zb.mk (Kd.zV hT.out hb); clear hT; have hT := n_; clear n_
                have n_ := zb.mk (zG hbT.out hb); clear hbT; have hbT := n_; clear n_
                have n_ := zb.mk (Kd.zV hU.out hb); clear hU; have hU := n_; clear n_
                clear cxT; have cxT := zWa hbT.out
                clear hb
                obtain ⟨AO, cO, eO⟩ := Kd.zpa ho
                subst eO
                have hO := zb.mk (Kd.zQ ho).2.2
                have hcO := zb.mk (Kd.zQ ho).2.1
                clear ho
                go_wp2_with fail
                go_at_call 21
                refine (zeb.calls k16 _ _ A _ _ rU true _ hO.out hcO.out hU.out hcU.out e16.out).mono ?_
                rintro e W ⟨rfl, hd⟩
                have hb := zX.below hd
                clear hd
                have n_ := zb.mk (zdb hB.out hb); clear hB; have hB := n_; clear n_
                have n_ := zb.mk (Kd.zV hT.out hb); clear hT; have hT := n_; clear n_
                have n_ := zb.mk (zG hbT.out hb); clear hbT; have hbT := n_; clear n_
                have n_ := zb.mk (Kd.zV hU.out hb); clear hU; have hU := n_; clear n_
                have n_ := zb.mk (Kd.zV hO.out hb); clear hO; have hO := n_; clear n_
                clear cxT; have cxT := zWa hbT.out
                clear hb
                go_wp2
                go_ret
                exact ⟨rfl, hB.out.2⟩
theorem wf_byte {n : Int} (h : (Lit.int .u8 n).wf = true) : 0 ≤ n ∧ n ≤ 255 := by
  simp [Lit.wf, IntKind.min, IntKind.max, IntKind.signed, IntKind.bits] at h
  omega
set_option maxRecDepth 100000 in
set_option maxHeartbeats 1000000 in
theorem fnPrefixes_big (A0 : Option Addr) (c0 : Nat) (l0 : List Int) (w : World) (hr0 : Kd.C (Kd.int .u8) w A0 l0.length l0) (hc0 : l0.length ≤ c0) (hsm : 65536 < l0.length) :
    Calls Tryz.prog 3 #[.slice A0 l0.length c0] w fun e w' => e = .returned (.bool true) ∧ Below w.heap.size w w' := by
  have hbig : zb (laws_vBig.f l0 = some true) := ⟨by unfold laws_vBig.f; simp; omega⟩
  have hC := zb.mk hr0
  have hc := zb.mk hc0
  clear hr0 hc0 hsm
  go_enter Tryz.func3, Tryz.ntmps3
  go_wp2_with fail
  go_at_call 9
  refine (laws_vBig.calls _ _ l0 _ _ hC.out hc.out hbig.out).mono ?_
  rintro e W ⟨rfl, hd⟩
  have hb := zb.mk (zX.below hd)
  clear hd
  go_wp2
  go_ret
  exact ⟨rfl, hb.out⟩
theorem fnPrefixes_walk (a0 : Option Addr) (len0 cap0 : Nat) (z0 : List Int) (w : World)
    (w0 : (a0 = none ∧ len0 = 0 ∧ cap0 = 0 ∧ z0 = []) ∨ ∃ x, a0 = some x ∧ len0 ≤ cap0 ∧ cap0 ≤ maxLen ∧ z0.length = cap0 ∧ (∀ i, i < z0.length → w.cell? (x.add i) = some (.int .u8 (z0.getD i 0))) ∧ ∀ n ∈ z0, (Lit.int .u8 n).wf = true) (y0 : len0 * 1 ≤ 140737488351232) :
    Calls Tryz.prog 3 #[.slice a0 len0 cap0] w fun e w' => e = .returned (.bool true) ∧ Below w.heap.size w w' := by
  obtain ⟨l0, rfl, hr0, hm0, hw0, hc0⟩ := ReadsInt.ofRowC w0
  have hC := Kd.C_of_reads (d := (0 : Int)) (h1 := fun _ => rfl) hr0
  rcases Nat.lt_or_ge 65536 l0.length with hsm | hsm
  · exact fnPrefixes_big a0 cap0 l0 w hC hc0 hsm
  · exact law3_calls a0 cap0 l0 w hC hc0 ⟨fun x hx => wf_byte (hw0 x hx), by omega⟩ hsm
end Go.Proofs.YtfabennfhmlihaaGreatDoor.P
end
