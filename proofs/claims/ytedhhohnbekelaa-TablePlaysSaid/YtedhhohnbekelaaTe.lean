/- The document's Join (package pinfoldref12). No condition. -/
import Derived.Test.YtedhhohnbekelaaTd
namespace Go.Proofs.Ytedhhohnbekelaa
open Go.RowKit Go.Deep

/-- What the document's Join answers, and who waits for whom then. -/
def rJoinD (n : Nat) (ts : Nat → Tk) (W : List (Nat × Nat)) (id on : Int) : Int × List (Nat × Nat) :=
  if ¬ ((0 ≤ id ∧ id < n) ∧ 0 ≤ on ∧ on < n) then (3, W) else if id = on then (1, W) else if ts on.toNat 25 = 8 then (5, W)
  else if W.any (fun p => p.1 == id.toNat) then (9, W) else (0, W ++ [(id.toNat, on.toNat)])

theorem Try.info82 : (Try.prog.info? 82).map (fun i => (i.zero, i.size, i.bytes)) = some (some (.agg #[.int .i64 0, .int .i64 0]), 2, 16) := by kernel_rfl

theorem src_new2 (W : World) (a b : Value) (t : TypeId) : SrcN (W.alloc (.cells #[a, b] t)) (.slice (some ⟨W.heap.size, 0, none⟩) 1 1) 1 2 [a, b] := by
  refine ⟨_, _, rfl, rfl, .inr ⟨_, rfl, fun j u hu => ?_⟩⟩
  match j, hu with
  | 0, hu => simp at hu; subst hu; simp [Addr.add]
  | 1, hu => simp at hu; subst hu; simp [Addr.add]

section
variable {w w' : World} {rb rs room : Nat} {lv wv : Value} {e : Rb}

/-- The document's table has another slice of waits from now on. -/
theorem IsRef.newW {B : Nat} {v' : Value} {W' : List (Nat × Nat)} (h : IsRef w rb rs lv wv room e) (hB : Below w.heap.size w w') (ho : w'.ownsRow B 82 2 v' W'.length (prs W')) (hb : w.heap.size ≤ B) (hn : W'.length ≤ 100) :
    IsRef (w'.setCell ⟨rb, 2, none⟩ v') rb rs lv v' room ⟨e.n, e.ts, W'⟩ ∧ Frm (RefS rb lv) w (w'.setCell ⟨rb, 2, none⟩ v') := by
  have h' := h.below hB
  have hlow := h.low
  refine ⟨⟨(h'.top.set 2 v').congr fun o ho => ?_, ?_, ?_, by simpa using h'.low, fun g hg hw => ?_, h.most.1, h.most.2.1, hn⟩, ?_⟩
  · match o, ho with
    | 0, _ => rfl
    | 1, _ => rfl
    | 2, _ => rfl
  · exact own_of_heap h'.own fun k hk => Below.heap_setCell _ _ _ _ (by have := (h'.own.lt k hk).1; simp only []; omega)
  · refine own_of_heap (own_low ho (by omega)) fun k hk => Below.heap_setCell _ _ _ _ (by have := (ho.lt k hk).1; simp only []; omega)
  · have h1 := (ho.lt g hw).1
    have h2 := (h.own.lt g hg).2
    omega
  · exact (Frm.ofBelow hB).setCell (p := ⟨rb, 2, none⟩) (fun _ => .inl rfl) v'

def RJoinTo (w : World) (rb rs : Nat) (lv wv : Value) (room : Nat) (e : Rb) (q : Int × List (Nat × Nat)) (r : Ending) (w' : World) : Prop :=
  r = .returned (.int .i64 q.1) ∧ ∃ wv', IsRef w' rb rs lv wv' room ⟨e.n, e.ts, q.2⟩ ∧ Frm (RefS rb lv) w w' ∧ (wv'.ownBlock = wv.ownBlock ∨ ∃ g, w.heap.size ≤ g ∧ wv'.ownBlock = some g)

set_option maxRecDepth 100000 in
set_option maxHeartbeats 4000000 in
theorem RJoin_any (h : IsRef w rb rs lv wv room e) (id on : Int) (h100 : e.W.length < 100) : Calls Try.prog 29 #[.pointer (some ⟨rb, 0, none⟩), .int .i64 id, .int .i64 on] w
    (RJoinTo w rb rs lv wv room e (rJoinD e.n e.ts e.W id on)) := by
  have H := Lib.hid h
  have c1 := h.c1
  have c2 := h.c2
  have hmost := h.most
  obtain ⟨a, cap, hlv, hg⟩ := h.lvForm
  obtain ⟨b, wcap, hwv, hwg⟩ := h.wvForm
  obtain ⟨n, ts, Ws⟩ := e
  simp only at hlv hg hwv hwg c1 c2 hmost h100 ⊢
  subst hlv hwv
  by_cases h1 : 0 ≤ id
  · by_cases h2 : id < n
    · by_cases h3 : 0 ≤ on
      · by_cases h4 : on < n
        · obtain ⟨id, rfl⟩ := Int.eq_ofNat_of_zero_le h1
          obtain ⟨on, rfl⟩ := Int.eq_ofNat_of_zero_le h3
          obtain ⟨g, rfl⟩ := hg (by omega)
          have hon : on < n := by omega
          have i1 : ¬ (n : Int) ≤ id := by omega
          have i2 : ¬ (n : Int) ≤ on := by omega
          have cs := h.cell (e := ⟨n, ts, Ws⟩) (i := on) hon (o := 25) (by omega)
          simp only [show tkKind 25 = .i64 from rfl] at cs
          by_cases h5 : (id : Int) = on
          · have e1 : rJoinD n ts Ws id on = (1, Ws) := by unfold rJoinD; rw [if_neg (fun h => h ⟨⟨h1, h2⟩, h3, h4⟩), if_pos h5]
            rw [e1]
            have n5 : ((id : Int) == (on : Int)) = true := by simpa using h5
            clear h e1 h1 h2 h3 h4 h5 hg hwg cs c2
            go_enter Try.func29, Try.ntmps29
            go_wp2_with fail
            go_ret
            exact ⟨rfl, _, H.out, Frm.refl _ _, .inl rfl⟩
          · have n5 : ((id : Int) == (on : Int)) = false := by simpa using h5
            by_cases h6 : ts on 25 = 8
            · have e1 : rJoinD n ts Ws id on = (5, Ws) := by unfold rJoinD; rw [if_neg (fun h => h ⟨⟨h1, h2⟩, h3, h4⟩), if_neg h5, Int.toNat_natCast, if_pos h6]
              rw [e1]
              rw [h6] at cs
              clear h e1 h1 h2 h3 h4 h5 h6 hg hwg c2
              go_enter Try.func29, Try.ntmps29
              go_wp2_with fail
              go_ret
              exact ⟨rfl, _, H.out, Frm.refl _ _, .inl rfl⟩
            · have e1 : rJoinD n ts Ws id on = if Ws.any (fun p => p.1 == id) then (9, Ws) else (0, Ws ++ [(id, on)]) := by unfold rJoinD; rw [if_neg (fun h => h ⟨⟨h1, h2⟩, h3, h4⟩), if_neg h5, Int.toNat_natCast, if_neg h6, Int.toNat_natCast]
              rw [e1]
              obtain ⟨q, hq⟩ : ∃ q, (if Ws.any (fun p => p.1 == id) then ((9 : Int), Ws) else (0, Ws ++ [(id, on)])) = q := ⟨_, rfl⟩
              rw [hq]
              have HQ := Lib.hid hq
              clear hq
              have n6 : (ts on 25 == 8) = false := by simpa using h6
              obtain ⟨m, hm⟩ : ∃ m, Ws.length = m := ⟨_, rfl⟩
              have HMM := Lib.hid hm
              rw [hm] at c2 hwg hmost h100
              have HWG := Lib.hid hwg
              obtain ⟨i82, I82, Z82, S82, B82⟩ := info_parts Try.info82
              have I82 := Lib.hid I82
              have Z82 := Lib.hid Z82
              have S82 := Lib.hid S82
              have B82 := Lib.hid B82
              generalize ts on 25 = st at *
              clear e1 h1 h2 h3 h4 h5 h6 hg hwg
              rw [hm] at H
              clear hm h
              go_enter Try.func29, Try.ntmps29
              go_wp2_with fail
              go_loopw [50] (fun s wr => ∃ k : Nat, k ≤ m ∧ s = .int .i64 k ∧ (∀ p ∈ Ws.take k, p.1 ≠ id) ∧ Below w.heap.size w wr) (fun s _ => m - (intOf s).toNat)
              case atStart => exact ⟨0, Nat.zero_le _, rfl, by simp, Below.refl _ _⟩
              case round =>
                obtain ⟨k, hk, rfl, hno, hB⟩ := hrel
                have HB := Lib.hid hB
                have HNO := Lib.hid hno
                have HT := Lib.hid (H.out.below hB)
                clear hB hno
                by_cases hlt : k < m
                · have hltI : (k : Int) < m := by omega
                  obtain ⟨gw, rfl⟩ := HWG.out (by omega)
                  obtain ⟨p, hp⟩ : ∃ p, Ws[k]? = some p := ⟨Ws[k]'(by rw [HMM.out]; exact hlt), List.getElem?_eq_getElem _⟩
                  have hT := HT.out
                  rw [← HMM.out] at hT
                  obtain ⟨p0, p1⟩ := hT.wcell (e := ⟨n, ts, Ws⟩) hp
                  have HP := Lib.hid hp
                  obtain ⟨pt, po⟩ := p
                  simp only at p0 p1
                  clear hT hp
                  by_cases hx : (pt : Int) = id
                  · have n7 : ((pt : Int) == (id : Int)) = true := by simpa using hx
                    have HANY := Lib.hid (show Ws.any (fun p => p.1 == id) = true by
                      rw [List.any_eq_true]
                      exact ⟨(pt, po), List.mem_of_getElem? HP.out, by simp; omega⟩)
                    clear hx
                    go_wp2_with fail
                    go_ret
                    have hq := HQ.out
                    rw [if_pos HANY.out] at hq
                    rw [← hq]
                    refine ⟨rfl, _, ?_, Frm.ofBelow (HB.out.alloc HB.out.size _), .inl rfl⟩
                    rw [HMM.out]
                    exact HT.out.alloc _
                  · have n7 : ((pt : Int) == (id : Int)) = false := by simpa using hx
                    have HNO2 := Lib.hid (show ∀ p ∈ Ws.take (k + 1), p.1 ≠ id by
                      intro p hp
                      have hk2 : k < Ws.length := by rw [HMM.out]; exact hlt
                      rw [List.take_add_one, HP.out] at hp
                      rcases List.mem_append.1 hp with hp | hp
                      · exact HNO.out p hp
                      · simp at hp; subst hp; simp only; omega)
                    clear hx
                    go_wp2_with fail
                    go_roundw
                    case rel => exact ⟨k + 1, by omega, by go_num, HNO2.out, HB.out.alloc HB.out.size _⟩
                    case measure => simp [intOf]; omega
                · obtain rfl : k = m := by omega
                  have HANY := Lib.hid (show Ws.any (fun p => p.1 == id) = false by
                    rw [List.any_eq_false]
                    intro p hp
                    have := HNO.out p (by rw [← HMM.out, List.take_length]; exact hp)
                    simpa using this)
                  have HBW0 := Lib.hid ((Below.refl wr.heap.size wr).alloc (Nat.le_refl _) (.cells #[] 82))
                  have c2' := HBW0.out.cell (p := ⟨rb, 2, none⟩) HT.out.top.lt
                  rw [HT.out.c2] at c2'
                  have HO1 := Lib.hid (show (wr.alloc (.cells #[] 82)).ownsRow wr.heap.size 82 2 (.slice (some ⟨wr.heap.size, 0, none⟩) 0 0) 0 [] from World.ownsRow_made wr #[] 0 (Nat.le_refl _) (by decide) rfl)
                  have HS1 := Lib.hid (show SrcN (wr.alloc (.cells #[] 82)) (.slice b k wcap) k 2 (prs Ws) from by
                    have := (SrcN.own HT.out.wts).below HBW0.out
                    simp only [HMM.out] at this
                    exact this)
                  have HPO := Lib.hid (prs_one Ws)
                  clear hlt
                  go_wp2_with (first | (at_builtin; refine wpList_append_srcN rfl _ _ 48 rfl wr.heap.size 82 i82 _ 2 16 Try.underlying48 I82.out Z82.out S82.out B82.out rfl (by omega) rfl (HOW1.out.alloc _) rfl (src_new2 W1 _ _ 82) (by simp [Value.oneCell']) (by simp only [maxLen]; omega) (by omega) (HBW1.out.alloc HBW1.out.size (.cells #[.int .i64 id, .int .i64 on] 82)).size ?_; intro v2 W2 hown2 hgrow2 _; have HX := Lib.hid ((HBW1.out.alloc HBW1.out.size (.cells #[.int .i64 id, .int .i64 on] 82)).grown hgrow2 (HBW1.out.alloc HBW1.out.size (.cells #[.int .i64 id, .int .i64 on] 82)).size (fun j hj => (HOW1.out.lt j hj).1)); have cR := (HX.out.cell (p := ⟨rb, 2, none⟩) HT.out.top.lt).trans HT.out.c2; have fB : W2.frozen? ⟨rb, 2, none⟩ = false := (World.frozen?_of_block (a := ⟨rb, 2, none⟩) (HX.out.block rb HT.out.top.lt)).trans (HT.out.top.frozen 2); rw [Nat.zero_add, List.nil_append] at hown2; have HO2 := Lib.hid hown2; obtain ⟨gF, capF, hvF⟩ := ownsRow_succ hown2; subst hvF; clear hown2 hgrow2) | (at_builtin; refine wpList_append_srcN rfl _ _ 48 rfl wr.heap.size 82 i82 _ 2 16 Try.underlying48 I82.out Z82.out S82.out B82.out rfl (by omega) rfl HO1.out rfl HS1.out HPO.out (by simp only [maxLen]; omega) (by omega) HBW0.out.size ?_; intro v1 W1 hown1 hgrow1 _; have HBW1 := Lib.hid (HBW0.out.grown hgrow1 HBW0.out.size (fun j hj => (HO1.out.lt j hj).1)); have HOW1 := Lib.hid hown1; clear hown1 hgrow1))
                  go_ret
                  have ho := HO2.out
                  rw [show prs Ws ++ [Value.int IntKind.i64 id, Value.int IntKind.i64 on] = prs (Ws ++ [(id, on)]) from prs_more Ws (id, on)] at ho
                  have HNEW := HT.out.newW (W' := Ws ++ [(id, on)]) HX.out (by rw [List.length_append, HMM.out]; exact ho) (Nat.le_refl _) (by rw [List.length_append, HMM.out]; simp; omega)
                  have hq := HQ.out
                  rw [if_neg (by rw [HANY.out]; simp)] at hq
                  rw [← hq]
                  refine ⟨rfl, .slice (some ⟨gF, 0, none⟩) (k + 1) capF, HNEW.1, (Frm.ofBelow HB.out).trans (HNEW.2.mono fun j hj hs => ?_), .inr ⟨gF, ?_, rfl⟩⟩
                  · exact hs
                  · have h1 := (ho.lt gF rfl).1
                    have h2 := HB.out.size
                    omega
        · have hge : (n : Int) ≤ on := by omega
          have e1 : rJoinD n ts Ws id on = (3, Ws) := by unfold rJoinD; rw [if_pos (fun h => h4 h.2.2)]
          rw [e1]
          clear h e1 hg hwg c2 h4
          go_enter Try.func29, Try.ntmps29
          go_wp2_with fail
          go_ret
          exact ⟨rfl, _, H.out, Frm.refl _ _, .inl rfl⟩
      · have e1 : rJoinD n ts Ws id on = (3, Ws) := by unfold rJoinD; rw [if_pos (fun h => h3 h.2.1)]
        rw [e1]
        have hlt : on < 0 := by omega
        clear h e1 hg hwg c2 h3
        go_enter Try.func29, Try.ntmps29
        go_wp2_with fail
        go_ret
        exact ⟨rfl, _, H.out, Frm.refl _ _, .inl rfl⟩
    · have hge : (n : Int) ≤ id := by omega
      have e1 : rJoinD n ts Ws id on = (3, Ws) := by unfold rJoinD; rw [if_pos (fun h => h2 h.1.2)]
      rw [e1]
      clear h e1 hg hwg c2 h2
      go_enter Try.func29, Try.ntmps29
      go_wp2_with fail
      go_ret
      exact ⟨rfl, _, H.out, Frm.refl _ _, .inl rfl⟩
  · have hlt : id < 0 := by omega
    have e1 : rJoinD n ts Ws id on = (3, Ws) := by unfold rJoinD; rw [if_pos (fun h => h1 h.1.1)]
    rw [e1]
    clear h e1 hg hwg c2 h1
    go_enter Try.func29, Try.ntmps29
    go_wp2_with fail
    go_ret
    exact ⟨rfl, _, H.out, Frm.refl _ _, .inl rfl⟩
end
end Go.Proofs.Ytedhhohnbekelaa
