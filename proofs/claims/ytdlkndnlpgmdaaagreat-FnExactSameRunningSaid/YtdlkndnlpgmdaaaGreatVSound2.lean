/- Code of V is sound for the machine. No condition. -/
import Derived.Test.YtdlkndnlpgmdaaaGreatVSound
import Derived.LoopTactic
import Derived.Scope
import Derived.Deep.LoopGhost
/-! V is sound: code, bodies, calls. -/
namespace Go.V
open Go Go.RowKit
set_option linter.unusedSimpArgs false
set_option linter.unusedVariables false

section
variable {C : Cfg} {w : World} {F : Nat → Prop} {σ : SMap} {H : Heap} {tm : Array Value} {env : Env}

theorem regionOk_mono {m m' : Nat} (h : m ≤ m') {ops : Array Oper} {b : Bool} (hc : regionOk C m ops b = true) : regionOk C m' ops b = true := by
  unfold regionOk at *
  simp only [Bool.and_eq_true, List.all_eq_true] at *
  refine ⟨fun o ho => ?_, hc.2⟩
  have := hc.1 o ho
  cases hd : o.dst with
  | none => rfl
  | some d =>
    rw [hd] at this
    have h2 : d < m := of_decide_eq_true this
    exact decide_eq_true (Nat.lt_of_lt_of_le h2 h)
theorem codeOk_mono {m m' : Nat} (h : m ≤ m') : ∀ {c : Code}, codeOk C m c = true → codeOk C m' c = true
  | .region _ ops b, hc => regionOk_mono h hc
  | .seq x y, hc => by simp only [codeOk, Bool.and_eq_true] at *; exact ⟨codeOk_mono h hc.1, codeOk_mono h hc.2⟩
  | .cond _ x y, hc => by simp only [codeOk, Bool.and_eq_true] at *; exact ⟨codeOk_mono h hc.1, codeOk_mono h hc.2⟩
  | .block _ x, hc => codeOk_mono (c := x) h hc
  | .loop x, hc => codeOk_mono (c := x) h hc
  | .scope x, hc => codeOk_mono (c := x) h hc
  | .skip, _ | .exit _, _ | .label _, _ | .goto _, _ | .ret, _ | .refuse _, _ | .rangeFunc .., _ => rfl

theorem killAll_go (a : Nat) : ∀ (l : List Nat) (H : Heap), RelS w.heap F σ H → Go_ w F σ H w F σ (killAll a l H)
  | [], H, hs => .refl hs
  | d :: r, H, hs => (kill_row hs a d).trans (killAll_go a r _ (kill_row hs a d).rel)
theorem killAll_keep (a d : Nat) : ∀ (l : List Nat) (H : Heap), (H.get a d).body = .dead → ((killAll a l H).get a d).body = .dead
  | [], H, h => h
  | e :: r, H, h => killAll_keep a d r _ (by
    by_cases he : d = e
    · subst he; simp [Heap.kill, Heap.set]
    · simpa [Heap.kill, Heap.set, he] using h)
theorem killAll_dead (a d : Nat) : ∀ (l : List Nat) (H : Heap), d ∈ l → ((killAll a l H).get a d).body = .dead
  | e :: r, H, h => by
    by_cases he : d = e
    · subst he; exact killAll_keep a d r _ (by simp [Heap.kill, Heap.set])
    · exact killAll_dead a d r _ (by simpa [he] using h)
theorem dead_killAll (ops : Array Oper) (a : Nat) (H : Heap) (listed : Array Bool) : Dead C ops a listed (killAll a (nDsts ops.toList) H) := by
  intro k o ho hk hl d hd
  refine killAll_dead a d _ H ?_
  unfold nDsts
  refine List.mem_filterMap.2 ⟨o, by simpa using Array.mem_of_getElem? ho, ?_⟩
  unfold nDst
  unfold kOf at hk
  split at hk <;> rename_i hop <;> simp only [hop] <;> first | exact hd | (exfalso; omega) | (exfalso; split at hk <;> omega)

theorem ptr_lexed (ops : Array Oper) (a : Nat) (env : Env) : PtrInv ops a (lexed ops.size 0) env := by
  intro k ok d hk hnew hl
  rw [lexed_get (Array.getElem?_eq_some_iff.1 hk).1] at hl
  simp at hl

theorem code_step (pk : ProgOk C) {n : Nat} (ih : ∀ m, m ≤ n → SoundAt C m) : ∀ a c env H o env' H', evCode C (n + 1) a c env H = some (o, env', H') → ∀ (w : World) F σ tm, codeOk C tm.size c = true → RelG C w.heap F → RelS w.heap F σ H → RelT w.heap F σ H tm env → ∀ Q : Exit → Act → World → Prop,
    After w F σ H tm.size env' H' (Q (match o with | .norm => .normal | .exit id => .exit id | .ret => .ret)) → c.wp C.P Q ⟨tm, []⟩ w := by
  intro a c env H o env' H' h w F σ tm hok hg hs ht Q hK
  have ihn := ih n (Nat.le_refl n)
  unfold evCode at h
  cases c <;> dsimp only at h
  case skip =>
    simp only [Option.some.injEq, Prod.mk.injEq] at h
    obtain ⟨rfl, rfl, rfl⟩ := h
    exact wp_skip (hK tm w F σ rfl ht (.refl hs))
  case ret =>
    simp only [Option.some.injEq, Prod.mk.injEq] at h
    obtain ⟨rfl, rfl, rfl⟩ := h
    exact wp_ret (hK tm w F σ rfl ht (.refl hs))
  case exit id =>
    simp only [Option.some.injEq, Prod.mk.injEq] at h
    obtain ⟨rfl, rfl, rfl⟩ := h
    exact wp_exit (hK tm w F σ rfl ht (.refl hs))
  case label id =>
    simp only [Option.some.injEq, Prod.mk.injEq] at h
    obtain ⟨rfl, rfl, rfl⟩ := h
    exact wp_label (hK tm w F σ rfl ht (.refl hs))
  case seq x y =>
    simp only [codeOk, Bool.and_eq_true] at hok
    simp only [Option.bind_eq_some_iff] at h
    obtain ⟨⟨o1, env1, H1⟩, h1, h⟩ := h
    refine wp_seq (ihn.code a x env H o1 env1 H1 h1 w F σ tm hok.1 hg hs ht _ ?_)
    cases o1
    · intro tm1 w1 F1 σ1 hsz ht1 hgo
      refine ihn.code a y env1 H1 o env' H' h w1 F1 σ1 tm1 (by rw [hsz]; exact hok.2) (hg.go hgo) hgo.rel ht1 Q ?_
      rw [hsz]
      exact hK.trans hgo
    · simp only [Option.some.injEq, Prod.mk.injEq] at h
      obtain ⟨rfl, rfl, rfl⟩ := h
      exact hK
    · simp only [Option.some.injEq, Prod.mk.injEq] at h
      obtain ⟨rfl, rfl, rfl⟩ := h
      exact hK
  case cond c x y =>
    simp only [codeOk, Bool.and_eq_true] at hok
    simp only [Option.bind_eq_some_iff] at h
    obtain ⟨p, hp, h⟩ := h
    have hr := evalO_rep (df := []) hg ht c p hp
    split at h
    · rename_i b
      refine wp_cond hr.bool_inv ?_
      refine ihn.code a _ env H o env' H' h w F σ tm ?_ hg hs ht Q hK
      cases b
      · exact hok.2
      · exact hok.1
    · cases h
  case block id x =>
    simp only [Option.map_eq_some_iff] at h
    obtain ⟨⟨o1, env1, H1⟩, h1, h2⟩ := h
    simp only [Prod.mk.injEq] at h2
    obtain ⟨rfl, rfl, rfl⟩ := h2
    refine wp_block (ihn.code a x env H o1 env1 H1 h1 w F σ tm hok hg hs ht _ ?_)
    cases o1
    · exact hK
    · rename_i id'
      by_cases hid : id' = id
      · subst hid
        simp only [if_true] at hK
        intro tm1 w1 F1 σ1 h3 h4 h5
        show (if id' = id' then Q .normal _ _ else Q (.exit id') _ _)
        rw [if_pos rfl]
        exact hK tm1 w1 F1 σ1 h3 h4 h5
      · have : ¬ (Out.exit id' = Out.exit id) := fun e => hid (by injection e)
        rw [if_neg this] at hK
        intro tm1 w1 F1 σ1 h3 h4 h5
        show (if id' = id then Q .normal _ _ else Q (.exit id') _ _)
        rw [if_neg hid]
        exact hK tm1 w1 F1 σ1 h3 h4 h5
    · exact hK
  case scope x =>
    refine wp_scope_straight (ihn.code a x env H o env' H' h w F σ tm hok hg hs ht _ ?_)
    cases o <;> exact hK
  case loop x =>
    have hloop : evCode C (n + 1) a (.loop x) env H = some (o, env', H') := by unfold evCode; exact h
    refine wp_loop_ghost (fun k a' w' => k ≤ n + 1 ∧ ∃ env1 H1 F1 σ1 tm1, a' = ⟨tm1, []⟩ ∧ tm1.size = tm.size ∧ evCode C k a (.loop x) env1 H1 = some (o, env', H') ∧ Go_ w F σ H w' F1 σ1 H1 ∧ RelT w'.heap F1 σ1 H1 tm1 env1) (n + 1)
      ⟨Nat.le_refl _, env, H, F, σ, tm, rfl, rfl, hloop, .refl hs, ht⟩ ?_
    rintro k a' w' ⟨hk, env1, H1, F1, σ1, tm1, rfl, hsz, hev, hgo, ht1⟩
    cases k with
    | zero => simp [evCode] at hev
    | succ k =>
      unfold evCode at hev
      simp only [Option.bind_eq_some_iff] at hev
      obtain ⟨⟨o2, env2, H2⟩, h2, hev⟩ := hev
      refine (ih k (by omega)).code a x env1 H1 o2 env2 H2 h2 w' F1 σ1 tm1 (by rw [hsz]; exact hok) (hg.go hgo) hgo.rel ht1 _ ?_
      cases o2
      · intro tm2 w2 F2 σ2 hsz2 ht2 hgo2
        exact ⟨k, by omega, by omega, env2, H2, F2, σ2, tm2, rfl, hsz2.trans hsz, hev, hgo.trans hgo2, ht2⟩
      · simp only [Option.some.injEq, Prod.mk.injEq] at hev
        obtain ⟨rfl, rfl, rfl⟩ := hev
        rw [hsz]
        exact hK.trans hgo
      · simp only [Option.some.injEq, Prod.mk.injEq] at hev
        obtain ⟨rfl, rfl, rfl⟩ := hev
        rw [hsz]
        exact hK.trans hgo
  case region id ops b =>
    simp only [Option.map_eq_some_iff, Prod.mk.injEq] at h
    obtain ⟨⟨env1, H1⟩, h1, rfl, rfl, rfl⟩ := h
    simp only [codeOk, regionOk, Bool.and_eq_true, List.all_eq_true] at hok
    have hd : ∀ o ∈ ops.toList, ∀ x, o.dst = some x → x < tm.size := fun o ho x hx => by
      have := hok.1 o ho
      rw [hx] at this
      simpa using this
    cases b
    · exact wp_region_list (ops_list ih ops.toList n env env1 H H1 (by omega) h1 w F σ tm hd hg hs ht hK)
    · simp only [Bool.not_true, Bool.false_or] at hok
      have hdo := (drawOk_spec hok.2).1
      have hgo0 := killAll_go (w := w) a (nDsts ops.toList) H hs
      have hgo1 := hgo0.trans (Go_.drew hgo0.rel (w.drawn + 1))
      refine wp_region_any pk.mixed ?_
      rw [← lexed_zero]
      refine ops_any ihn hd (Qa := fun env' H' => env' = env1 ∧ H' = H1) (w0 := w) (F0 := F) (σ0 := σ) (H0 := H) (a := a) ?_ ops.size _ env _ ?_ _ F σ tm rfl (hg.go hgo1) hgo1 (ht.ext hgo1.ext)
      · rintro _ _ ⟨rfl, rfl⟩
        exact hK
      · have := evOps_any (n := n) hdo ops.toList n 0 env env1 _ H1 (Nat.le_refl _) (by simp) (fun j => by simp) (dead_killAll ops a H _) (ptr_lexed ops a env) h1 (Q := fun env' H' => env' = env1 ∧ H' = H1) ⟨rfl, rfl⟩
        simpa using this
  all_goals cases h
end
end Go.V
