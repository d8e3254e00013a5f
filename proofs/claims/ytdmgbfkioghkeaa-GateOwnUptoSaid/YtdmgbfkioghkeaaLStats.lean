/-
  The law GateStats holds: every Stat, behind the script once more; no condition.
-/
import Derived.Test.YtdmgbfkioghkeaaLWalk
namespace Go.Proofs.Ytdmgbfkioghkeaa
open Go.ChangeShapes Go.WideShapes Go.ChangeAt Go.RowKit Go.Ytdmgbfkioghkeaa Go.Ytdmgbfkioghkeaa.Gt Go.Ytdmgbfkioghkeaa.Reg

def DeedK : Kind Deed := ⟨40, 3, fun o => [.int .i64 o.kind, .int .i64 o.id, .bool o.yes], fun _ => rfl, by decide, fun x u hu => by simp at hu; rcases hu with rfl | rfl | rfl <;> rfl⟩
theorem deedAt : KindAt Try.prog 36 DeedK 24 := KindAt.mk' (by kernel_rfl) (by kernel_rfl)

set_option maxRecDepth 100000 in
theorem script_size {H : Type} {enc : TypeId × Value → H} {W : World} {v : Value} {d : DataW H} {p : List MemPlace} {base : Nat} {ts : List TypeId} {ds : List (DataW H)} {j : Nat} {os : List Deed}
    (hok : Value.okWide Try.prog W .any base 36 v) (h : DataW.Trod enc Try.prog W 0 (fun _ => true) true 36 v d p)
    (hsz : (DataW.weightsEach Try.prog ts ds).all (· ≤ reachBytes) = true) (htj : ts[j]? = some 36) (hdj : ds[j]? = some d) (hs : Script W v os) : os.length * 24 ≤ 140737488351232 ∧ (∀ cap, v = .slice none os.length cap → cap = 0) := by
  obtain ⟨a0, len, cap, rfl⟩ := okWide_slice Try.underlying36 hok
  obtain ⟨a1, cap1, hv, _⟩ := hs
  cases hv
  obtain ⟨fuel, hf⟩ := h
  rcases Go.Deep.open_slice Try.underlying36 hf with ⟨hcs, _⟩ | ⟨a, len', cap', m, n, D, Pl, hcs, _, hlc, _, hm, hx, hel⟩
  · simp [Value.cells] at hcs
    obtain ⟨rfl, h0, rfl⟩ := hcs
    rw [h0]
    exact ⟨by simp, fun cap h => by cases h; rfl⟩
  · simp [Value.cells] at hcs
    obtain ⟨rfl, rfl, rfl⟩ := hcs
    simp only [Prod.mk.injEq] at hx
    obtain ⟨hd, _⟩ := hx
    have := sized_slice hsz htj (by rw [hdj, hd]) Try.underlying36
    simp only [List.length_map, List.length_range] at this
    have hb : Try.prog.bytesOf 40 = 24 := by kernel_rfl
    rw [hb] at this
    simp only [reachBytes] at this
    exact ⟨by omega, fun cap h => by cases h⟩

theorem script_news {w : World} {b off : Nat} {os : List Deed} (h : ∀ (i : Nat) (o : Deed), os[i]? = some o → w.cell? ⟨b, off + i * 3, none⟩ = some (.int .i64 o.kind) ∧ w.cell? ⟨b, off + (i * 3 + 1), none⟩ = some (.int .i64 o.id) ∧
    w.cell? ⟨b, off + (i * 3 + 2), none⟩ = some (.bool o.yes)) : ∀ j u, (os.flatMap DeedK.enc)[j]? = some u → w.cell? ((⟨b, off, none⟩ : Addr).add j) = some u := by
  intro j u hu
  have hl := (List.getElem?_eq_some_iff.1 hu).1
  rw [DeedK.flat_len] at hl
  have hl3 : j < os.length * 3 := hl
  obtain ⟨o, ho⟩ : ∃ o, os[j / 3]? = some o := ⟨_, List.getElem?_eq_getElem (by omega)⟩
  obtain ⟨h0, h1, h2⟩ := h _ o ho
  rw [add_plain]
  have hj : j = j / 3 * 3 + j % 3 := by omega
  have hf := DeedK.flat_at os (j / 3) (j % 3) o ho (show j % 3 < 3 by omega)
  rw [show j / 3 * DeedK.sz + j % 3 = j from by show j / 3 * 3 + j % 3 = j; omega, hu] at hf
  rcases (show j % 3 = 0 ∨ j % 3 = 1 ∨ j % 3 = 2 by omega) with h3 | h3 | h3
  · rw [h3] at hf hj
    have : u = .int .i64 o.kind := by simpa [DeedK] using hf
    rw [this, hj]; exact h0
  · rw [h3] at hf hj
    have : u = .int .i64 o.id := by simpa [DeedK] using hf
    rw [this, hj]; exact h1
  · rw [h3] at hf hj
    have : u = .bool o.yes := by simpa [DeedK] using hf
    rw [this, hj]; exact h2

theorem script_tab {w : World} {v : Value} {os : List Deed} (h : Tab DeedK w v os) (hl : os.length ≤ 10000000000000) : Script w v os := by
  rcases h.form with ⟨rfl, rfl⟩ | ⟨g, cap, rfl, _⟩
  · exact ⟨none, 0, rfl, by simp, by simp⟩
  · refine ⟨some ⟨g, 0, none⟩, cap, rfl, hl, fun i o ho => ⟨g, 0, rfl, ?_, ?_, ?_⟩⟩
    · have := h.cell (f := 0) ho rfl
      rw [Nat.zero_add]; simpa [DeedK] using this
    · have := h.cell (f := 1) ho rfl
      rw [Nat.zero_add]; simpa [DeedK] using this
    · have := h.cell (f := 2) ho rfl
      rw [Nat.zero_add]; simpa [DeedK] using this

set_option maxRecDepth 100000 in
set_option maxHeartbeats 1000000 in
theorem gateStats_any (most units : Int) (v : Value) (os : List Deed) (w : World) (hs : Script w v os) (hsz : os.length * 24 ≤ 140737488351232) (hn : ∀ cap, v = .slice none os.length cap → cap = 0) :
    Rets Try.prog 9 #[.int .i64 most, .int .i64 units, v] w fun u w' => u = .bool true ∧ Tch [] w w' := by
  unfold Rets
  obtain ⟨a, cap, rfl, hl, hc⟩ := hs
  cases a with
  | none =>
    obtain rfl := hn cap rfl
    have hos : os = [] := by
      cases os with
      | nil => rfl
      | cons o os => obtain ⟨b, off, h, _⟩ := hc 0 o rfl; cases h
    subst hos
    go_enter Try.func9, Try.ntmps9
    go_wp2_with (first
      | (at_builtin; first
        | (refine wpList_append_both (v := .slice none 0 0) (ys := ([] : List Deed)) deedAt rfl _ _ rfl rfl (Tab.nil DeedK _) rfl (Tab.nil DeedK _) (by simp) (by simp) ?_; intro v1 w1 ht1 hg1 hfr1; obtain ⟨a1, c1, hv1⟩ := ht1.slice; subst hv1)
        | (refine wpList_append_tab (v := .slice a1 ([] : List Deed).length c1) deedAt rfl _ _ rfl rfl (ht1.alloc _) _ _ _ [⟨7, 0, false⟩] rfl rfl (by exact news_one DeedK ⟨7, 0, false⟩ (Blk.last _ _ _ rfl)) (by simp [maxLen]) (by simp) ?_; intro v2 w2 ht2 hg2 hfr2))
      | (go_at_call 20; refine (walk_any most units 7 7 _ _ _ (script_tab ht2 (by simp))).use ?_; rintro _ w3 ⟨rfl, hT3⟩))
    have hT1 := (Tch.refl [] w).grown hg1 (fun k hk => by simp [Value.ownBlock] at hk)
    have hT2 := (hT1.alloc _).grown hg2 (fun k hk => .inr (by
      rcases hfr1 k hk with h | h
      · simp [Value.ownBlock] at h
      · omega))
    go_ret
    exact ⟨_, rfl, rfl, hT2.trans hT3 (by simp)⟩
  | some ad =>
    have hnews : ∀ j u, (os.flatMap DeedK.enc)[j]? = some u → w.cell? (ad.add j) = some u := by
      cases hos : os with
      | nil => intro j u hu; simp at hu
      | cons o rest =>
        rw [← hos]
        obtain ⟨b, off, h, _⟩ := hc 0 o (by rw [hos]; rfl)
        cases h
        exact script_news fun i x hx => by
          obtain ⟨b', off', h', h0, h1, h2⟩ := hc i x hx
          cases h'
          exact ⟨h0, h1, h2⟩
    have HC := Lib.hid hc
    clear hc
    go_enter Try.func9, Try.ntmps9
    go_wp2_with (first
      | (at_builtin; first
        | (refine wpList_append_tab (v := .slice a1 os.length c1) deedAt rfl _ _ rfl rfl (ht1.alloc _) _ _ _ [⟨7, 0, false⟩] rfl rfl (by exact news_one DeedK ⟨7, 0, false⟩ (Blk.last _ _ _ rfl)) (by simp [maxLen]; omega) (by simp; omega) ?_; intro v2 w2 ht2 hg2 hfr2)
        | (refine wpList_append_tab (v := .slice none 0 0) (xs := ([] : List Deed)) deedAt rfl _ _ rfl rfl (Tab.nil DeedK _) ad os.length cap os rfl rfl hnews (by simp [maxLen]; omega) (by simp; omega) ?_; intro v1 w1 ht1 hg1 hfr1; rw [List.nil_append] at ht1; obtain ⟨a1, c1, hv1⟩ := ht1.slice; subst hv1))
      | (go_at_call 20; refine (walk_any most units 7 7 _ _ _ (script_tab ht2 (by simp; omega))).use ?_; rintro _ w3 ⟨rfl, hT3⟩))
    have hT1 := (Tch.refl [] w).grown hg1 (fun k hk => by simp [Value.ownBlock] at hk)
    have hT2 := (hT1.alloc _).grown hg2 (fun k hk => .inr (by
      rcases hfr1 k hk with h | h
      · simp [Value.ownBlock] at h
      · omega))
    go_ret
    exact ⟨_, rfl, rfl, hT2.trans hT3 (by simp)⟩

set_option maxRecDepth 100000 in
theorem gateStats_lifted (os : Os) (started : os.Started) (H : Type) (enc : TypeId × Value → H) :
    ReturnsInHanded {} Try.checked os 9 .any (Rows.gateStatsSpec.pre6 enc Try.prog Try.f9 Rows.gateStatsRow.domain false) (Rows.gateStatsSpec.post enc Try.prog Try.f9 false true false false) := by
  refine returnsInHanded_of_change_sized (C := Try.checked) Try.own started (by kernel_rfl) Try.func9
    (ChangeSpec.witness6 (enc := enc) (C := Try.checked) false ⟨#[], #[.int .i64 0, .int .i64 0, .slice none 0 0], []⟩ 8 (by kernel_rfl) (by kernel_rfl) (by kernel_rfl) (by kernel_rfl)) ?_
  intro W base args ds gs before hval0 hW _ hsz0 _
  have hsz : (DataW.weightsEach Try.prog (Try.f9.params.toList ++ Rows.gateStatsSpec.plain.varTypes Try.prog) (ds ++ gs)).all (· ≤ reachBytes) = true := hsz0
  have hval : ∀ (j : Nat) t v, Try.f9.params[j]? = some t → args[j]? = some v → Value.okWide Try.prog W .any base t v := hval0
  have hW' := hW
  obtain ⟨p, q, hA0, hV, rfl, hfz, hnd⟩ := hW
  have hA : DataW.TrodAll enc Try.prog W 0 (fun _ => true) true Try.f9.params.toList args.toList ds p := hA0
  rw [Try.params9] at hA hval hsz
  obtain ⟨v0, v1, v2, d0, d1, d2, p0, p1, p2, rfl, rfl, rfl, h0, h1, h2⟩ := trodAll_three hA
  obtain ⟨rfl, rfl⟩ := trodVars_none hV
  obtain ⟨a, rfl, rfl, rfl, wa⟩ := open_int Try.underlying3 (hval 0 3 v0 rfl rfl) h0
  obtain ⟨b, rfl, rfl, rfl, wb⟩ := open_int Try.underlying3 (hval 1 3 v1 rfl rfl) h1
  obtain ⟨l, hl⟩ := script_of (hval 2 36 v2 rfl rfl) h2 hsz (j := 2) rfl rfl
  obtain ⟨hz, hn⟩ := script_size (hval 2 36 v2 rfl rfl) h2 hsz (j := 2) rfl rfl hl
  refine (gateStats_any a b v2 l W hl hz hn).use fun e W' ⟨he, hT⟩ => ?_
  subst he
  exact ⟨_, rfl, post_true Try.laidOut hW' hA0 (by kernel_rfl) hT rfl (by kernel_rfl) rfl rfl⟩

theorem gateStats_holds : Rows.GateStatsSaid :=
  OpenClaim.holds_of_wide 9 Try.f9 rfl rfl rfl rfl rfl rfl rfl ⟨rfl, rfl, rfl, rfl, rfl⟩ rfl rfl rfl rfl rfl (by kernel_rfl) Try.func9 (by kernel_rfl)
    (of_decide_eq_true (by kernel_rfl)) (by unfold Func.isWrapper; first | (rw [if_pos (by decide +kernel)]; kernel_rfl) | (rw [if_neg (by decide +kernel)]; exact ⟨rfl, rfl⟩))
    (fun os started H enc _ => gateStats_lifted os started H enc)
end Go.Proofs.Ytdmgbfkioghkeaa
