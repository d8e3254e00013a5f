/-
  The law's keep, walked: a list is written full, remembered with what it should read as, and appended to.
-/
import Derived.Test.YtdmgbfkioghkeaaLDo
import Derived.Test.YtdmgbfkioghkeaaTabOld
namespace Go.Proofs.Ytdmgbfkioghkeaa
open Go.RowKit Go.Ytdmgbfkioghkeaa Go.Ytdmgbfkioghkeaa.Gt Go.Ytdmgbfkioghkeaa.Reg

/-- A slice's header. -/
structure Hd where
  a : Option Addr
  len : Nat
  cap : Nat
def Hd.val (h : Hd) : Value := .slice h.a h.len h.cap
def KeptK : Kind (Hd × Hd) := ⟨59, 2, fun t => [t.1.val, t.2.val], fun _ => rfl, by decide, fun x u hu => by simp at hu; rcases hu with rfl | rfl <;> rfl⟩
theorem keptAt : KindAt Try.prog 54 KeptK 48 := KindAt.mk' (by kernel_rfl) (by kernel_rfl)

/-- The list reads as xs and lies in one of the blocks B. -/
def ListIn (w : World) (B : List Nat) (v : Value) (xs : List Int) : Prop := Tab IntK w v xs ∧ ∀ x, v.ownBlock = some x → x ∈ B
def EntryOk (w : World) (B : List Nat) (e : Hd × Hd) : Prop := ∃ xs, ListIn w B e.1.val xs ∧ ListIn w B e.2.val xs

theorem ListIn.kept {w w' : World} {B S : List Nat} {v : Value} {xs : List Int} (h : ListIn w B v xs) (hT : Tch S w w') (hS : ∀ x ∈ B, x ∉ S) : ListIn w' B v xs :=
  ⟨h.1.touch hT (fun g hg => hS g (h.2 g hg)), h.2⟩
theorem EntryOk.kept {w w' : World} {B S : List Nat} {e : Hd × Hd} (h : EntryOk w B e) (hT : Tch S w w') (hS : ∀ x ∈ B, x ∉ S) : EntryOk w' B e := by
  obtain ⟨xs, h1, h2⟩ := h
  exact ⟨xs, h1.kept hT hS, h2.kept hT hS⟩
theorem EntryOk.mono {w : World} {B B' : List Nat} {e : Hd × Hd} (h : EntryOk w B e) (hB : ∀ x ∈ B, x ∈ B') : EntryOk w B' e := by
  obtain ⟨xs, h1, h2⟩ := h
  exact ⟨xs, ⟨h1.1, fun x hx => hB x (h1.2 x hx)⟩, ⟨h2.1, fun x hx => hB x (h2.2 x hx)⟩⟩

/-- What keep leaves. -/
def KeepPost (w : World) (vb l : Value) (K : List (Hd × Hd)) (u : Value) (w' : World) : Prop :=
  ∃ (e1 e2 : Hd × Hd) (B : List Nat), Tab KeptK w' u (K ++ [e1, e2]) ∧ EntryOk w' B e1 ∧ EntryOk w' B e2 ∧ Tch (vb.ownBlock.toList ++ l.ownBlock.toList) w w' ∧
    (∀ x ∈ B, (l.ownBlock = some x ∨ w.heap.size ≤ x) ∧ x < w'.heap.size) ∧ ∀ x, u.ownBlock = some x → (vb.ownBlock = some x ∨ w.heap.size ≤ x) ∧ x ∉ B

theorem full_next {m : Int} {xs : List Int} {j : Nat} (hj : j < xs.length) : (List.replicate j m ++ xs.drop j).set j m = List.replicate (j + 1) m ++ xs.drop (j + 1) := by
  have hd : xs.drop j = xs[j] :: xs.drop (j + 1) := List.drop_eq_getElem_cons hj
  rw [hd, List.set_append_right _ _ (by simp), List.length_replicate, Nat.sub_self, List.set_cons_zero, List.replicate_succ', List.append_assoc]
  rfl
theorem full_at {m : Int} {xs : List Int} {j : Nat} (hj : j < xs.length) : (List.replicate j m ++ xs.drop j)[j]? = some xs[j] := by
  rw [List.getElem?_append_right (by simp)]
  simp [List.getElem?_drop, hj]
theorem more_next (m : Int) (j : Nat) : List.replicate (j + 1) m = List.replicate j m ++ [m] := List.replicate_succ'

set_option maxRecDepth 100000 in
set_option maxHeartbeats 4000000 in
theorem keep_any (vb l : Value) (K : List (Hd × Hd)) (xs : List Int) (mark : Int) (w : World) (hb : Tab KeptK w vb K) (hl : Tab IntK w l xs) (hne : ∀ x, vb.ownBlock = some x → l.ownBlock ≠ some x)
    (hK : K.length ≤ 100000000) (hxs : xs.length ≤ 100) (hm0 : -1000000000 ≤ mark) (hm1 : mark ≤ 0) :
    Rets Try.prog 32 #[vb, l, .int .i64 mark] w fun u w' => KeepPost w vb l K u w' := by
  unfold Rets
  obtain ⟨ab, cb, rfl⟩ := hb.slice
  obtain ⟨al, cl, rfl⟩ := hl.slice
  go_enter Try.func32, Try.ntmps32
  go_wp2
  go_loopw [7] (fun vj wr => ∃ j : Nat, j ≤ xs.length ∧ vj = .int .i64 j ∧ Tab IntK wr (.slice al xs.length cl) (List.replicate j mark ++ xs.drop j) ∧ Tch ((Value.slice al xs.length cl).ownBlock.toList) w wr ∧ wr.heap.size = w.heap.size) (fun vj _ => xs.length - (intOf vj).toNat)
  case atStart => exact ⟨0, Nat.zero_le _, rfl, by simpa using hl, Tch.refl _ _, rfl⟩
  case round =>
    obtain ⟨j, hj, rfl, hlj, hTj, hsz⟩ := hrel
    by_cases hjl : j < xs.length
    · have hfn := full_next (m := mark) hjl
      have hfa := full_at (m := mark) hjl
      rcases hlj.form with ⟨_, h0⟩ | ⟨g, cap', hv, _⟩
      · rw [h0] at hfa; simp at hfa
      have hlen : (List.replicate j mark ++ xs.drop j).length = xs.length := by simp; omega
      rw [hlen] at hv
      cases hv
      have q0 : wr.cell? ⟨g, j, none⟩ = some (.int .i64 xs[j]) := by have := hlj.cell (f := 0) hfa rfl; simpa [IntK] using this
      have qf : ∀ i, wr.frozen? ⟨g, i, none⟩ = false := fun i => hlj.frozen i
      have HFN := Lib.hid hfn
      have HFA := Lib.hid hfa
      clear hfn hfa
      go_wp2
      go_roundw
      case rel =>
        refine ⟨j + 1, by omega, by go_num, ?_, hTj.setCell (.inl (by simp [Value.ownBlock])) _, by simp [World.setCell, hsz]⟩
        have := hlj.put mark (.int .i64 mark) HFA.out (f := 0) (by decide) rfl
        rw [HFN.out] at this
        simpa [IntK] using this
      case measure => simp [intOf]; omega
    · obtain rfl : j = xs.length := by omega
      have hlj1 : Tab IntK wr (.slice al xs.length cl) (List.replicate xs.length mark) := by simpa using hlj
      have hbj := hb.touch hTj (fun g hg hm => hne g hg (by simpa using hm))
      generalize wr = w1 at *
      clear hlj hl hb
      go_wp2
      go_loopw [8, 9] (fun vw vj wr => ∃ j : Nat, j ≤ xs.length ∧ vj = .int .i64 j ∧ NewList IntK w1 (List.replicate j mark) vw wr) (fun _ vj _ => xs.length - (intOf vj).toNat)
      case atStart => exact ⟨0, Nat.zero_le _, rfl, Tab.nil _ _, Tch.refl _ _, by simp [Value.ownBlock]⟩
      case round =>
        obtain ⟨j, hj2, rfl, hn⟩ := hrel
        obtain ⟨aw, cw, hvw⟩ := hn.1.slice
        rw [List.length_replicate] at hvw
        subst hvw
        by_cases hjl2 : j < xs.length
        · go_wp2_with (at_builtin; refine wpList_append_tab (v := .slice aw j cw) intAt rfl _ _ rfl rfl (hn.1.alloc _) _ _ _ [mark] rfl rfl (by exact news_one IntK mark (Blk.last _ _ _ rfl)) (by simp [maxLen]; omega) (by simp; omega) ?_; intro v' w2 ht2 hg2 hfr2)
          go_roundw
          case rel => exact ⟨j + 1, by omega, by go_num, by rw [more_next]; exact newList_append hn ((Tch.refl [] wr).alloc _) ht2 hg2 hfr2⟩
          case measure => simp [intOf]; omega
        · obtain rfl : j = xs.length := by omega
          generalize wr = w2 at *
          have hL0 : ∀ x, (Value.slice al xs.length cl).ownBlock = some x → x < w1.heap.size := fun x hx => hlj1.block_lt hx
          have hB0 : ∀ x, (Value.slice ab K.length cb).ownBlock = some x → x < w1.heap.size := fun x hx => hbj.block_lt hx
          have hs2 := hn.2.1.size
          have hb2 := hbj.touch hn.2.1 (by simp)
          have hl2 := hlj1.touch hn.2.1 (by simp)
          have hW0 : ∀ x, (Value.slice aw xs.length cw).ownBlock = some x → w1.heap.size ≤ x ∧ x < w2.heap.size := fun x hx => ⟨hn.2.2 x hx, hn.1.block_lt hx⟩
          go_wp2_with (first
            | (at_builtin; refine wpList_append_both (v := .slice none 0 0) intAt rfl _ _ rfl rfl (Tab.nil IntK _) rfl hw3 (by simp [maxLen]; omega) (by simp; omega) ?_; intro vv0 w4 htv4 hg4 hfr4; rw [List.nil_append] at htv4; obtain ⟨av0, cv0, hvv0⟩ := htv4.slice; rw [List.length_replicate] at hvv0; subst hvv0)
            | (at_builtin; refine wpList_append_tab (v := .slice ab K.length cb) keptAt rfl _ _ rfl rfl (hb2.alloc _) _ _ _ [(⟨al, xs.length, cl⟩, ⟨aw, xs.length, cw⟩)] rfl rfl (by exact news_one KeptK (⟨al, xs.length, cl⟩, ⟨aw, xs.length, cw⟩) (Blk.last _ _ _ rfl)) (by simp [maxLen]; omega) (by simp; omega) ?_; intro vb1 w3 htb3 hg3 hfr3; have hw3 : Tab IntK w3 (.slice aw xs.length cw) (List.replicate xs.length mark) := (hn.1.alloc _).kept (fun x hx => hg3.block x (by have := (hW0 x hx).2; simp; omega) (fun e => by have a1 := hB0 x e.symm; have a2 := (hW0 x hx).1; omega)); obtain ⟨ab1, cb1, hvb1⟩ := htb3.slice; rw [List.length_append, List.length_singleton] at hvb1; subst hvb1))
          have hs3 : w2.heap.size + 1 ≤ w3.heap.size := by have := hg3.size; simpa using this
          have hs4 := hg4.size
          have hB1 : ∀ x, (Value.slice ab1 (K.length + 1) cb1).ownBlock = some x → ((Value.slice ab K.length cb).ownBlock = some x ∨ w2.heap.size ≤ x) ∧ x < w3.heap.size := fun x hx => ⟨(hfr3 x hx).imp id (fun e => by simp at e; omega), htb3.block_lt hx⟩
          have hV0 : ∀ x, (Value.slice av0 xs.length cv0).ownBlock = some x → w3.heap.size ≤ x := fun x hx => by
            rcases hfr4 x hx with h | h
            · simp [Value.ownBlock] at h
            · omega
          have hl4 : Tab IntK w4 (.slice al xs.length cl) (List.replicate xs.length mark) :=
            ((hl2.alloc _).kept (fun x hx => hg3.block x (by have := hL0 x hx; simp; omega) (fun e => hne x e.symm hx))).kept (fun x hx => hg4.block x (by have := hL0 x hx; omega) (by simp [Value.ownBlock]))
          have hw4 := hw3.kept (fun x hx => hg4.block x (by have := (hW0 x hx).2; omega) (by simp [Value.ownBlock]))
          have htb4 := htb3.kept (fun x hx => hg4.block x (hB1 x hx).2 (by simp [Value.ownBlock]))
          have hT4 : Tch ((Value.slice ab K.length cb).ownBlock.toList ++ (Value.slice al xs.length cl).ownBlock.toList) w w4 := by
            have t1 := hTj.mono (S' := (Value.slice ab K.length cb).ownBlock.toList ++ (Value.slice al xs.length cl).ownBlock.toList) (fun x hx => .inl (List.mem_append_right _ hx))
            exact (((t1.trans hn.2.1 (by simp)).alloc _).grown hg3 (fun x hx => .inl (by rw [hx]; simp))).grown hg4 (by simp [Value.ownBlock])
          have HT4 := Lib.hid hT4
          have HB1 := Lib.hid hB1
          have HV0 := Lib.hid hV0
          clear hg3 hg4 hfr3 hfr4 hT4 hB1 hV0 htb3 hw3 hl2 hb2 hn hTj hbj hlj1
          go_loopw [10, 11, 12] (fun vg vv vj wr => ∃ j : Nat, j ≤ 64 ∧ vj = .int .i64 j ∧ Tab IntK wr vg (List.replicate xs.length mark ++ List.replicate j (mark + 1)) ∧ Tab IntK wr vv (List.replicate xs.length mark ++ List.replicate j (mark + 1)) ∧
            Tab IntK wr (.slice al xs.length cl) (List.replicate xs.length mark) ∧ NewOr w4 (.slice al xs.length cl) vg ∧ NewOr w4 (.slice av0 xs.length cv0) vv ∧ (∀ x, vg.ownBlock = some x → vv.ownBlock ≠ some x) ∧
            Tch ((Value.slice al xs.length cl).ownBlock.toList ++ (Value.slice av0 xs.length cv0).ownBlock.toList) w4 wr) (fun _ _ vj _ => 64 - (intOf vj).toNat)
          case atStart => exact ⟨0, Nat.zero_le _, rfl, by simpa using hl4, by simpa using htv4, hl4, NewOr.refl _ _, NewOr.refl _ _, fun x hx h2 => by have a1 := hL0 x hx; have a2 := HV0.out x h2; omega, Tch.refl _ _⟩
          case round =>
            obtain ⟨j, hj3, rfl, htg, htv, hlr, hng, hnv, hdj, hTr⟩ := hrel
            obtain ⟨ag, cg, hvg⟩ := htg.slice
            obtain ⟨av, cv, hvv⟩ := htv.slice
            rw [show (List.replicate xs.length mark ++ List.replicate j (mark + 1)).length = xs.length + j from by simp] at hvg hvv
            subst hvg
            subst hvv
            have hsr := hTr.size
            by_cases hjl3 : j < 64
            · go_wp2_with (first
                | (at_builtin; refine wpList_append_old (v := .slice av (xs.length + j) cv) intAt rfl _ _ rfl rfl (htv5.alloc _) _ _ _ [mark + 1] rfl rfl (by exact news_one IntK (mark + 1) (Blk.last _ _ _ rfl)) (by simp [maxLen]; omega) (by simp; omega) ?_; intro v2 w6 ht6 hg6 hfr6 ha6)
                | (at_builtin; refine wpList_append_old (v := .slice ag (xs.length + j) cg) intAt rfl _ _ rfl rfl (htg.alloc _) _ _ _ [mark + 1] rfl rfl (by exact news_one IntK (mark + 1) (Blk.last _ _ _ rfl)) (by simp [maxLen]; omega) (by simp; omega) ?_; intro v1 w5 ht5 hg5 hfr5 ha5; have hl5 := Tab.aside hlr htg ((Tch.refl [] _).alloc _) hg5 ha5 ht5; have htv5 := (htv.alloc _).kept (fun x hx => hg5.block x (by have := htv.block_lt hx; simp; omega) (fun e => hdj x e.symm hx))))
              have hs5 : wr.heap.size + 1 ≤ w5.heap.size := by have := hg5.size; simpa using this
              have hs6 : w5.heap.size + 1 ≤ w6.heap.size := by have := hg6.size; simpa using this
              have hLr : ∀ x, (Value.slice al xs.length cl).ownBlock = some x → x < w4.heap.size := fun x hx => hl4.block_lt hx
              have hvl : ∀ x, (Value.slice av (xs.length + j) cv).ownBlock = some x → (Value.slice al xs.length cl).ownBlock ≠ some x := fun x hx h2 => by
                rcases hnv x hx with h | h
                · have a1 := hL0 x h2; have a2 := HV0.out x h; omega
                · have a1 := hLr x h2; omega
              have hv5 : ∀ x, v1.ownBlock = some x → x < w5.heap.size ∧ (Value.slice av (xs.length + j) cv).ownBlock ≠ some x := fun x hx => ⟨ht5.block_lt hx, fun h2 => by
                rcases hfr5 x hx with h | h
                · exact hdj x h h2
                · have := htv.block_lt h2; simp at h; omega⟩
              go_roundw
              case rel =>
                refine ⟨j + 1, by omega, by go_num, ?_, ?_, ?_, ?_, ?_, ?_, ?_⟩
                · rw [more_next, ← List.append_assoc]
                  exact (ht5.alloc _).kept (fun x hx => hg6.block x (by have := (hv5 x hx).1; simp; omega) (fun e => (hv5 x hx).2 e.symm))
                · rw [more_next, ← List.append_assoc]
                  exact ht6
                · exact (hl5.alloc _).kept (fun x hx => hg6.block x (by have := hLr x hx; simp; omega) (fun e => hvl x e.symm hx))
                · exact hng.trans (hfr5.newOr (w0 := w4) (by simp; omega)) (Nat.le_refl _)
                · exact hnv.trans (hfr6.newOr (w0 := w4) (by simp; omega)) (Nat.le_refl _)
                · intro x hx h2
                  rcases hfr6 x h2 with h | h
                  · exact (hv5 x hx).2 h
                  · have := (hv5 x hx).1; simp at h; omega
                · refine ((((hTr.alloc _).grown hg5 ?_).alloc _).grown hg6 ?_)
                  · intro x hx
                    rcases hng x hx with h | h
                    · exact .inl (by rw [h]; simp)
                    · exact .inr h
                  · intro x hx
                    rcases hnv x hx with h | h
                    · exact .inl (by rw [h]; simp)
                    · exact .inr h
              case measure => simp [intOf]; omega
            · obtain rfl : j = 64 := by omega
              have hLr : ∀ x, (Value.slice al xs.length cl).ownBlock = some x → x < w4.heap.size := fun x hx => hl4.block_lt hx
              have hbr : ∀ x, (Value.slice ab1 (K.length + 1) cb1).ownBlock = some x → (Value.slice al xs.length cl).ownBlock ≠ some x ∧ (Value.slice aw xs.length cw).ownBlock ≠ some x ∧ (Value.slice ag (xs.length + 64) cg).ownBlock ≠ some x ∧ (Value.slice av (xs.length + 64) cv).ownBlock ≠ some x ∧ (Value.slice av0 xs.length cv0).ownBlock ≠ some x := fun x hx => by
                obtain ⟨b1, b2⟩ := HB1.out x hx
                have c1 : (Value.slice al xs.length cl).ownBlock ≠ some x := fun h => by
                  rcases b1 with b1 | b1
                  · exact hne x b1 h
                  · have := hL0 x h; omega
                have c5 : (Value.slice av0 xs.length cv0).ownBlock ≠ some x := fun h => by have := HV0.out x h; omega
                refine ⟨c1, fun h => ?_, fun h => ?_, fun h => ?_, c5⟩
                · obtain ⟨d1, d2⟩ := hW0 x h
                  rcases b1 with b1 | b1
                  · have := hB0 x b1; omega
                  · omega
                · rcases hng x h with h | h
                  · exact c1 h
                  · omega
                · rcases hnv x h with h | h
                  · exact c5 h
                  · omega
              have hbt := htb4.touch hTr (fun g hg hm => by
                simp only [List.mem_append, Option.mem_toList] at hm
                rcases hm with h | h
                · exact (hbr g hg).1 h
                · exact (hbr g hg).2.2.2.2 h)
              have hwt := hw4.touch hTr (fun g hg hm => by
                have d := hW0 g hg
                simp only [List.mem_append, Option.mem_toList] at hm
                rcases hm with h | h
                · have := hL0 g h; omega
                · have := HV0.out g h; omega)
              go_wp2_with (at_builtin; refine wpList_append_tab (v := .slice ab1 (K.length + 1) cb1) keptAt rfl _ _ rfl rfl (hbt.alloc _) _ _ _ [(⟨ag, xs.length + 64, cg⟩, ⟨av, xs.length + 64, cv⟩)] rfl rfl (by exact news_one KeptK (⟨ag, xs.length + 64, cg⟩, ⟨av, xs.length + 64, cv⟩) (Blk.last _ _ _ rfl)) (by simp [maxLen]; omega) (by simp; omega) ?_; intro vb2 w8 htb8 hg8 hfr8)
              have hs8 : wr.heap.size + 1 ≤ w8.heap.size := by have := hg8.size; simpa using this
              have hk8 : ∀ {v : Value} {ys : List Int}, Tab IntK wr v ys → (∀ x, (Value.slice ab1 (K.length + 1) cb1).ownBlock = some x → v.ownBlock ≠ some x) → Tab IntK w8 v ys := fun ht hn =>
                (ht.alloc _).kept (fun x hx => hg8.block x (by have := ht.block_lt hx; simp; omega) (fun e => hn x e.symm hx))
              go_ret
              refine ⟨_, rfl, (⟨al, xs.length, cl⟩, ⟨aw, xs.length, cw⟩), (⟨ag, xs.length + 64, cg⟩, ⟨av, xs.length + 64, cv⟩),
                (Value.slice al xs.length cl).ownBlock.toList ++ ((Value.slice aw xs.length cw).ownBlock.toList ++ ((Value.slice ag (xs.length + 64) cg).ownBlock.toList ++ (Value.slice av (xs.length + 64) cv).ownBlock.toList)), ?_, ?_, ?_, ?_, ?_, ?_⟩
              · have := htb8
                rw [List.append_assoc] at this
                exact this
              · refine ⟨List.replicate xs.length mark, ⟨hk8 hlr (fun x hx => (hbr x hx).1), fun x hx => ?_⟩, ⟨hk8 hwt (fun x hx => (hbr x hx).2.1), fun x hx => ?_⟩⟩
                · rw [show (Hd.val ⟨al, xs.length, cl⟩).ownBlock = (Value.slice al xs.length cl).ownBlock from rfl] at hx; rw [hx]; simp
                · rw [show (Hd.val ⟨aw, xs.length, cw⟩).ownBlock = (Value.slice aw xs.length cw).ownBlock from rfl] at hx; rw [hx]; simp
              · refine ⟨List.replicate xs.length mark ++ List.replicate 64 (mark + 1), ⟨hk8 htg (fun x hx => (hbr x hx).2.2.1), fun x hx => ?_⟩, ⟨hk8 htv (fun x hx => (hbr x hx).2.2.2.1), fun x hx => ?_⟩⟩
                · rw [show (Hd.val ⟨ag, xs.length + 64, cg⟩).ownBlock = (Value.slice ag (xs.length + 64) cg).ownBlock from rfl] at hx; rw [hx]; simp
                · rw [show (Hd.val ⟨av, xs.length + 64, cv⟩).ownBlock = (Value.slice av (xs.length + 64) cv).ownBlock from rfl] at hx; rw [hx]; simp
              · refine ((HT4.out.trans hTr (fun x hx => ?_)).alloc _).grown hg8 (fun x hx => ?_)
                · simp only [List.mem_append, Option.mem_toList] at hx
                  rcases hx with h | h
                  · exact .inl (by rw [h]; simp)
                  · exact .inr (by have := HV0.out x h; omega)
                · rcases (HB1.out x hx).1 with h | h
                  · exact .inl (by rw [h]; simp)
                  · exact .inr (by omega)
              · intro x hx
                simp only [List.mem_append, Option.mem_toList] at hx
                rcases hx with h | h | h | h
                · exact ⟨.inl h, by have := hL0 x h; omega⟩
                · exact ⟨.inr (by have := hW0 x h; omega), by have := hW0 x h; omega⟩
                · refine ⟨(hng x h).imp id (fun h => by omega), by have := htg.block_lt h; omega⟩
                · refine ⟨.inr ?_, by have := htv.block_lt h; omega⟩
                  rcases hnv x h with h | h
                  · have := HV0.out x h; omega
                  · omega
              · intro x hx
                rcases hfr8 x hx with h | h
                · refine ⟨(HB1.out x h).1.imp id (fun h => by omega), fun hm => ?_⟩
                  obtain ⟨c1, c2, c3, c4, _⟩ := hbr x h
                  simp only [List.mem_append, Option.mem_toList] at hm
                  rcases hm with h | h | h | h
                  · exact c1 h
                  · exact c2 h
                  · exact c3 h
                  · exact c4 h
                · simp at h
                  refine ⟨.inr (by omega), fun hm => ?_⟩
                  simp only [List.mem_append, Option.mem_toList] at hm
                  rcases hm with h2 | h2 | h2 | h2
                  · have := hL0 x h2; omega
                  · have := hW0 x h2; omega
                  · have := htg.block_lt h2; omega
                  · have := htv.block_lt h2; omega
end Go.Proofs.Ytdmgbfkioghkeaa
