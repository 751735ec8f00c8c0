/- Spanning trees are counted, plain: the count does not depend on the order of the links, and obeys the recursion of the recurrent piles. -/
import Derived.Test.YtifdhapaonideaaCntR
import Derived.Test.YtifdhapaonideaaChMem
namespace Go.Proofs.Ytifdhapaonideaa

/-- two groups become one -/
def mrg (g : Nat → Int) (a b : Int) : Nat → Int := fun v => if g v = b then a else g v
/-- the number of spanning trees: a link is left out, or its ends become one -/
def trees (n : Nat) : (Nat → Int) → List Lnk → Int
  | g, [] => if ∀ v, v < n → g v = g 0 then 1 else 0
  | g, x :: l => trees n g l + (if g x.a.toNat = g x.b.toNat then 0 else x.n * trees n (mrg g (g x.a.toNat) (g x.b.toNat)) l)
/-- links of a graph, in any order -/
def LinkOk (n : Nat) (x : Lnk) : Prop := x.a.toNat < n ∧ x.b.toNat < n ∧ 0 ≤ x.a ∧ 0 ≤ x.b ∧ x.a ≠ x.b ∧ 0 ≤ x.n
theorem mrg_iff (g : Nat → Int) (a b : Int) (u v : Nat) : mrg g a b u = mrg g a b v ↔ g u = g v ∨ ((g u = a ∨ g u = b) ∧ (g v = a ∨ g v = b)) := by
  unfold mrg
  split <;> split <;> omega
def SameP (n : Nat) (g h : Nat → Int) : Prop := ∀ u v, u < n → v < n → (g u = g v ↔ h u = h v)
theorem SameP.mrg {n : Nat} {g h : Nat → Int} (e : SameP n g h) {a b : Nat} (ha : a < n) (hb : b < n) : SameP n (mrg g (g a) (g b)) (mrg h (h a) (h b)) := fun u v hu hv => by
  rw [mrg_iff, mrg_iff, e u v hu hv, e u a hu ha, e u b hu hb, e v a hv ha, e v b hv hb]
theorem trees_same {n : Nat} : ∀ (l : List Lnk) (g h : Nat → Int), 0 < n → SameP n g h → (∀ x ∈ l, LinkOk n x) → trees n g l = trees n h l
  | [], g, h, hn, e, _ => by
    have : (∀ v, v < n → g v = g 0) ↔ ∀ v, v < n → h v = h 0 := ⟨fun x v hv => (e v 0 hv hn).1 (x v hv), fun x v hv => (e v 0 hv hn).2 (x v hv)⟩
    unfold trees
    by_cases c : ∀ v, v < n → g v = g 0
    · rw [if_pos c, if_pos (this.1 c)]
    · rw [if_neg c, if_neg (fun d => c (this.2 d))]
  | x :: l, g, h, hn, e, hl => by
    obtain ⟨h1, h2, _⟩ := hl x (by simp)
    have hl' := fun y hy => hl y (List.mem_cons_of_mem x hy)
    unfold trees
    rw [trees_same l g h hn e hl']
    by_cases c : g x.a.toNat = g x.b.toNat
    · rw [if_pos c, if_pos ((e _ _ h1 h2).1 c)]
    · rw [if_neg c, if_neg (fun d => c ((e _ _ h1 h2).2 d)), trees_same l _ _ hn (e.mrg h1 h2) hl']
def phi (a b x : Int) : Int := if x = b then a else x
theorem phi_same (a b : Int) : phi a b a = phi a b b := by unfold phi; split <;> simp
theorem phi_keep {f : Int → Int} {a b : Int} (h : f a = f b) (x : Int) : f (phi a b x) = f x := by
  unfold phi; split
  · next e => rw [e, h]
  · rfl
theorem swapP1 (a b c d u v : Int) (h : phi (phi a b c) (phi a b d) (phi a b u) = phi (phi a b c) (phi a b d) (phi a b v)) : phi (phi c d a) (phi c d b) (phi c d u) = phi (phi c d a) (phi c d b) (phi c d v) := by
  obtain ⟨f, hf⟩ : ∃ f : Int → Int, ∀ x, f x = phi (phi c d a) (phi c d b) (phi c d x) := ⟨_, fun _ => rfl⟩
  have h1 : f a = f b := by rw [hf, hf]; exact phi_same _ _
  have h2 : f c = f d := by rw [hf, hf, phi_same c d]
  have h3 : f (phi a b c) = f (phi a b d) := by rw [phi_keep h1, phi_keep h1, h2]
  have := congrArg f h
  rw [phi_keep h3, phi_keep h3, phi_keep h1, phi_keep h1] at this
  rw [← hf, ← hf]; exact this
theorem swapP (g : Nat → Int) (a b c d u v : Nat) : mrg (mrg g (g a) (g b)) (mrg g (g a) (g b) c) (mrg g (g a) (g b) d) u = mrg (mrg g (g a) (g b)) (mrg g (g a) (g b) c) (mrg g (g a) (g b) d) v ↔ mrg (mrg g (g c) (g d)) (mrg g (g c) (g d) a) (mrg g (g c) (g d) b) u = mrg (mrg g (g c) (g d)) (mrg g (g c) (g d) a) (mrg g (g c) (g d) b) v :=
  ⟨swapP1 (g a) (g b) (g c) (g d) (g u) (g v), swapP1 (g c) (g d) (g a) (g b) (g u) (g v)⟩
theorem trees_swap {n : Nat} {x y : Lnk} {l : List Lnk} {g : Nat → Int} (hn : 0 < n) (hx : LinkOk n x) (hy : LinkOk n y) (hl : ∀ x ∈ l, LinkOk n x) : trees n g (x :: y :: l) = trees n g (y :: x :: l) := by
  obtain ⟨x1, x2, _⟩ := hx
  obtain ⟨y1, y2, _⟩ := hy
  obtain ⟨a, ha⟩ : ∃ a, x.a.toNat = a := ⟨_, rfl⟩
  obtain ⟨b, hb⟩ : ∃ b, x.b.toNat = b := ⟨_, rfl⟩
  obtain ⟨c, hc⟩ : ∃ c, y.a.toNat = c := ⟨_, rfl⟩
  obtain ⟨d, hd⟩ : ∃ d, y.b.toNat = d := ⟨_, rfl⟩
  rw [ha] at x1; rw [hb] at x2; rw [hc] at y1; rw [hd] at y2
  simp only [trees, ha, hb, hc, hd]
  by_cases p : g a = g b
  · by_cases q : g c = g d
    · simp only [if_pos p, if_pos q]
    · rw [if_pos p, if_neg q, if_pos p, if_pos ((mrg_iff _ _ _ _ _).2 (.inl p)), if_neg q]; simp only [Int.add_zero]
  · by_cases q : g c = g d
    · rw [if_neg p, if_pos q, if_pos ((mrg_iff _ _ _ _ _).2 (.inl q)), if_pos q, if_neg p]; simp only [Int.add_zero]
    · rw [if_neg p, if_neg q, if_neg q, if_neg p]
      have k1 := mrg_iff g (g a) (g b) c d
      have k2 := mrg_iff g (g c) (g d) a b
      by_cases r : mrg g (g a) (g b) c = mrg g (g a) (g b) d
      · rw [if_pos r, if_pos (k2.2 (by have := k1.1 r; omega)), Int.add_zero, Int.add_zero]; omega
      · rw [if_neg r, if_neg (fun e => r (k1.2 (by have := k2.1 e; omega)))]
        have e : SameP n (mrg (mrg g (g a) (g b)) (mrg g (g a) (g b) c) (mrg g (g a) (g b) d)) (mrg (mrg g (g c) (g d)) (mrg g (g c) (g d) a) (mrg g (g c) (g d) b)) := fun u v _ _ => by
          have k := swapP g a b c d u v
          exact k
        rw [trees_same l _ _ hn e hl, Int.mul_add, Int.mul_add, Int.mul_left_comm]; omega
theorem trees_front {n : Nat} (hn : 0 < n) {x : Lnk} {l2 : List Lnk} (hx : LinkOk n x) (h2 : ∀ x ∈ l2, LinkOk n x) : ∀ (l1 : List Lnk) (g : Nat → Int), (∀ x ∈ l1, LinkOk n x) → trees n g (l1 ++ x :: l2) = trees n g (x :: (l1 ++ l2))
  | [], _, _ => rfl
  | y :: l1, g, h1 => by
    have h1' := fun z hz => h1 z (List.mem_cons_of_mem y hz)
    have hy := h1 y (by simp)
    have ih := fun g => trees_front hn hx h2 l1 g h1'
    rw [List.cons_append, List.cons_append, ← trees_swap hn hy hx (fun z hz => (List.mem_append.1 hz).elim (h1' z) (h2 z)), trees, ih g, ih, ← trees]
theorem trees_one {n : Nat} : ∀ (l : List Lnk) (g : Nat → Int), (∀ x ∈ l, LinkOk n x) → (∀ v, v < n → g v = g 0) → trees n g l = 1
  | [], g, _, h => if_pos h
  | x :: l, g, hl, h => by
    obtain ⟨h1, h2, _⟩ := hl x (by simp)
    rw [trees, trees_one l g (fun y hy => hl y (by simp [hy])) h, if_pos (by rw [h _ h1, h _ h2])]; rfl
/-- no tree: no link leads from some vertices to others -/
theorem trees_none {n : Nat} (S : Nat → Bool) (hS : ∃ u v, u < n ∧ v < n ∧ S u ≠ S v) : ∀ (l : List Lnk) (g : Nat → Int), (∀ x ∈ l, LinkOk n x) → (∀ u v, u < n → v < n → g u = g v → S u = S v) → (∀ x ∈ l, S x.a.toNat = S x.b.toNat) → trees n g l = 0
  | [], g, _, h, _ => if_neg fun hx => by
    obtain ⟨u, v, hu, hv, hne⟩ := hS
    exact hne (h u v hu hv (by rw [hx u hu, hx v hv]))
  | x :: l, g, hl, h, hc => by
    obtain ⟨h1, h2, _⟩ := hl x (by simp)
    have hl' := fun y hy => hl y (List.mem_cons_of_mem x hy)
    have hc' := fun y hy => hc y (List.mem_cons_of_mem x hy)
    have hx := hc x (by simp)
    rw [trees, trees_none S hS l g hl' h hc', trees_none S hS l (mrg g (g x.a.toNat) (g x.b.toNat)) hl' (fun u v hu hv e => ?_) hc']
    · simp
    · rcases (mrg_iff _ _ _ _ _).1 e with e | ⟨e1, e2⟩
      · exact h u v hu hv e
      · have a : S u = S x.a.toNat := e1.elim (h u _ hu h1) (fun e => (h u _ hu h2 e).trans hx.symm)
        have b : S v = S x.a.toNat := e2.elim (h v _ hv h1) (fun e => (h v _ hv h2 e).trans hx.symm)
        rw [a, b]

/-- many edges more from the sink to a vertex -/
theorem TreeLike.many {m : Nat → Nat → Int} {K N : Nat} {F : List Nat → (Nat → Int) → Int} (h : TreeLike m K N F) {A : List Nat} {b : Nat → Int} {v : Nat} (hn : A.Nodup) (hN : A.length ≤ N) (hv : v ∈ A) (hb : ∀ u ∈ A, 0 ≤ b u) :
    ∀ k : Nat, sL A (m v) + b v + k ≤ K → F A (fun u => if u = v then b u + k else b u) = F A b + k * F (A.erase v) (fun u => b u + m u v)
  | 0, _ => by
    rw [h.congr A _ b (fun u _ => by split <;> simp)]; simp
  | k + 1, hk => by
    have ih := h.many hn hN hv hb k (by omega)
    have e : F A (fun u => if u = v then b u + (k + 1 : Nat) else b u) = F A (Gr.bump (fun u => if u = v then b u + k else b u) v) := h.congr A _ _ fun u _ => by
      unfold Gr.bump
      by_cases e : u = v
      · simp only [if_pos e]; omega
      · simp only [if_neg e]
    have e2 : F (A.erase v) (fun u => (if u = v then b u + k else b u) + m u v) = F (A.erase v) (fun u => b u + m u v) := h.congr _ _ _ fun u hu => by
      rw [if_neg ((mem_er hn).1 hu).1]
    rw [e, h.step A _ v hn hN hv (fun u hu => by have := hb u hu; split <;> omega) (by rw [if_pos rfl]; omega), ih, e2, Int.natCast_succ, Int.add_mul]
    omega

theorem mulL_append (P Q : List Lnk) (u v : Nat) : mulL (P ++ Q) u v = mulL P u v + mulL Q u v := by simp [mulL, List.map_append, List.sum_append]
theorem mulL_nonneg {n : Nat} {l : List Lnk} (h : ∀ x ∈ l, LinkOk n x) (u v : Nat) : 0 ≤ mulL l u v := by
  induction l with
  | nil => simp [mulL]
  | cons x xs ih =>
    rw [mulL_cons]
    have := ih (fun y hy => h y (by simp [hy]))
    have := (h x (by simp)).2.2.2.2.2
    split <;> omega
/-- the edges to those that are not in the list -/
def outE (n : Nat) (A : List Nat) (l : List Lnk) (v : Nat) : Int := sumN n fun s => if s ∈ A then 0 else mulL l v s

theorem trees_tree {n : Nat} (hn : 0 < n) {m : Nat → Nat → Int} {K N : Nat} {F : List Nat → (Nat → Int) → Int} (h : TreeLike m K N F) :
    ∀ (len : Nat) (l : List Lnk) (A : List Nat) (g : Nat → Int), l.length = len → A.Nodup → A.length ≤ N → (∀ v ∈ A, v < n) → (∃ s, s < n ∧ s ∉ A) → (∀ x ∈ l, LinkOk n x) → (∀ u v, u < n → v < n → (g u = g v ↔ u = v ∨ (u ∉ A ∧ v ∉ A))) →
      (∀ u ∈ A, ∀ v ∈ A, m u v = mulL l u v) → (∀ u ∈ A, sL A (m u) + outE n A l u ≤ K) → trees n g l = F A (outE n A l) := by
  intro len
  induction len using Nat.strongRecOn with
  | _ len ih =>
    intro l A g hlen hA hN hAn hs hl hg hm hK
    by_cases hne : A = []
    · subst hne
      rw [h.nil, trees_one l g hl (fun v hv => (hg v 0 hv hn).2 (.inr ⟨by simp, by simp⟩))]
    · by_cases hx : ∃ x ∈ l, (decide (x.a.toNat ∈ A)) ≠ (decide (x.b.toNat ∈ A))
      · obtain ⟨x, hxl, hxc⟩ := hx
        obtain ⟨l1, l2, rfl⟩ := List.append_of_mem hxl
        have hx0 := hl x hxl
        have hl1 : ∀ y ∈ l1, LinkOk n y := fun y hy => hl y (by simp [hy])
        have hl2 : ∀ y ∈ l2, LinkOk n y := fun y hy => hl y (by simp [hy])
        have hl12 : ∀ y ∈ l1 ++ l2, LinkOk n y := fun y hy => (List.mem_append.1 hy).elim (hl1 y) (hl2 y)
        obtain ⟨a, ha⟩ : ∃ a, x.a.toNat = a := ⟨_, rfl⟩
        obtain ⟨b, hb⟩ : ∃ b, x.b.toNat = b := ⟨_, rfl⟩
        obtain ⟨z1, z2, z3, z4, z5, z6⟩ := hx0
        rw [ha, hb] at hxc
        have hab : a ≠ b := by omega
        -- the vertex v in the list, s at the sink
        obtain ⟨v, s, hv, hsA, hvs⟩ : ∃ v s, v ∈ A ∧ s ∉ A ∧ ((a = v ∧ b = s) ∨ (a = s ∧ b = v)) := by
          by_cases c : a ∈ A
          · exact ⟨a, b, c, fun d => hxc (by simp [c, d]), .inl ⟨rfl, rfl⟩⟩
          · exact ⟨b, a, Classical.byContradiction fun d => hxc (by simp [c, d]), c, .inr ⟨rfl, rfl⟩⟩
        have hvn := hAn v hv
        have hsn : s < n := by omega
        have hvsne : v ≠ s := fun e => hsA (e ▸ hv)
        have hlk : ∀ u w, isLnk u w x = true ↔ (u = v ∧ w = s) ∨ (u = s ∧ w = v) := fun u w => by
          rw [isLnk_iff]; omega
        have hml : ∀ u w, mulL (l1 ++ x :: l2) u w = mulL (l1 ++ l2) u w + if isLnk u w x then x.n else 0 := fun u w => by
          rw [mulL_append, mulL_append, mulL_cons]; omega
        have hin : ∀ u ∈ A, ∀ w ∈ A, mulL (l1 ++ x :: l2) u w = mulL (l1 ++ l2) u w := fun u hu w hw => by
          rw [hml, if_neg]
          · omega
          · intro k
            rcases (hlk u w).1 k with ⟨_, e⟩ | ⟨e, _⟩
            · exact hsA (by rw [← e]; exact hw)
            · exact hsA (by rw [← e]; exact hu)
        have hov : outE n A (l1 ++ x :: l2) v = outE n A (l1 ++ l2) v + x.n := by
          unfold outE
          rw [show (fun t => if t ∈ A then (0 : Int) else mulL (l1 ++ x :: l2) v t) = fun t => (if t ∈ A then 0 else mulL (l1 ++ l2) v t) + (if t = s then x.n else 0) from funext fun t => by
            by_cases c : t ∈ A
            · rw [if_pos c, if_pos c, if_neg (fun (e : t = s) => hsA (by rw [← e]; exact c))]; rfl
            · rw [if_neg c, if_neg c, hml]
              congr 1
              by_cases e : t = s
              · rw [if_pos e, if_pos ((hlk _ _).2 (.inl ⟨rfl, e⟩))]
              · rw [if_neg e, if_neg (fun k => ((hlk _ _).1 k).elim (fun k => e k.2) (fun k => hvsne k.1))], sumN_add]
          rw [sumN_one (v := s) (fun t => if t = s then x.n else (0 : Int)) hsn (fun i _ hi => if_neg hi), if_pos rfl]
        have hou : ∀ u ∈ A, u ≠ v → outE n A (l1 ++ x :: l2) u = outE n A (l1 ++ l2) u := fun u hu hne => sumN_congr fun t _ => by
          by_cases c : t ∈ A
          · rw [if_pos c, if_pos c]
          · rw [if_neg c, if_neg c, hml, if_neg (fun k => ((hlk _ _).1 k).elim (fun k => hne k.1) (fun k => hsA (k.1 ▸ hu)))]; omega
        have hb0 : ∀ u ∈ A, 0 ≤ outE n A (l1 ++ l2) u := fun u _ => sumN_nonneg fun t _ => by
          have := mulL_nonneg hl12 u t
          split <;> omega
        obtain ⟨k, hk⟩ : ∃ k : Nat, x.n = k := ⟨x.n.toNat, by omega⟩
        have hcut : (l1 ++ l2).length < len := by rw [← hlen]; simp
        have hmm : ∀ u ∈ A, ∀ w ∈ A, m u w = mulL (l1 ++ l2) u w := fun u hu w hw => by rw [hm u hu w hw, hin u hu w hw]
        have hKK : ∀ u ∈ A, sL A (m u) + outE n A (l1 ++ l2) u ≤ K := fun u hu => by
          have := hK u hu
          by_cases e : u = v
          · subst e; rw [hov] at this; omega
          · rw [hou u hu e] at this; exact this
        have hKv := hK v hv
        rw [hov] at hKv
        -- F
        have hF := h.many (b := outE n A (l1 ++ l2)) hA hN hv hb0 k (by omega)
        rw [h.congr A (outE n A (l1 ++ x :: l2)) (fun u => if u = v then outE n A (l1 ++ l2) u + k else outE n A (l1 ++ l2) u) (fun u hu => by
          by_cases e : u = v
          · rw [if_pos e, e, hov, hk]
          · rw [if_neg e, hou u hu e]), hF]
        -- trees
        rw [trees_front hn ⟨z1, z2, z3, z4, z5, z6⟩ hl2 l1 g hl1, trees, ha, hb, if_neg (fun e => by
          rcases (hg a b (by omega) (by omega)).1 e with e | ⟨e1, e2⟩
          · exact hab e
          · rcases hvs with ⟨e3, _⟩ | ⟨_, e3⟩
            · exact e1 (e3 ▸ hv)
            · exact e2 (e3 ▸ hv)), hk]
        rw [ih _ hcut (l1 ++ l2) A g rfl hA hN hAn hs hl12 hg hmm hKK]
        congr 2
        have hoe : ∀ u ∈ A.erase v, outE n (A.erase v) (l1 ++ l2) u = outE n A (l1 ++ l2) u + m u v := fun u hu => by
          obtain ⟨hne', huA⟩ := (mem_er hA).1 hu
          unfold outE
          rw [show (fun t => if t ∈ A.erase v then (0 : Int) else mulL (l1 ++ l2) u t) = fun t => (if t ∈ A then 0 else mulL (l1 ++ l2) u t) + (if t = v then mulL (l1 ++ l2) u v else 0) from funext fun t => by
            by_cases e : t = v
            · subst e
              rw [if_neg (fun c => ((mem_er hA).1 c).1 rfl), if_pos hv, if_pos rfl]; omega
            · by_cases c : t ∈ A
              · rw [if_pos ((mem_er hA).2 ⟨e, c⟩), if_pos c, if_neg e]; rfl
              · rw [if_neg (fun d => c ((mem_er hA).1 d).2), if_neg c, if_neg e]; omega, sumN_add]
          rw [sumN_one (v := v) (fun t => if t = v then mulL (l1 ++ l2) u v else (0 : Int)) hvn (fun i _ hi => if_neg hi), if_pos rfl, hmm u huA v hv]
        rw [ih _ hcut (l1 ++ l2) (A.erase v) _ rfl (hA.erase v) (by have := List.length_erase_of_mem hv; omega) (fun u hu => hAn u ((mem_er hA).1 hu).2) ⟨v, hvn, fun c => ((mem_er hA).1 c).1 rfl⟩ hl12 (fun u w hu hw => ?_)
          (fun u hu w hw => hmm u ((mem_er hA).1 hu).2 w ((mem_er hA).1 hw).2) (fun u hu => ?_)]
        · exact h.congr _ _ _ hoe
        · rw [mrg_iff, hg u w hu hw, hg u a hu (by omega), hg u b hu (by omega), hg w a hw (by omega), hg w b hw (by omega)]
          have e1 : ∀ t, t ∉ A.erase v ↔ t = v ∨ t ∉ A := fun t => by
            rw [mem_er hA]
            constructor
            · intro c
              by_cases e : t = v
              · exact .inl e
              · exact .inr fun d => c ⟨e, d⟩
            · rintro (e | e) ⟨c, d⟩
              · exact c e
              · exact e d
          rw [e1, e1]
          have hvA : ¬ (v ∉ A) := fun c => c hv
          rcases hvs with ⟨rfl, rfl⟩ | ⟨rfl, rfl⟩
          · constructor
            · rintro ((e | ⟨e1, e2⟩) | ⟨e1, e2⟩)
              · exact .inl e
              · exact .inr ⟨.inr e1, .inr e2⟩
              · refine .inr ⟨?_, ?_⟩
                · rcases e1 with (e | ⟨_, e⟩) | (e | ⟨e, _⟩)
                  · exact .inl e
                  · exact (e hv).elim
                  · exact .inr (e ▸ hsA)
                  · exact .inr e
                · rcases e2 with (e | ⟨_, e⟩) | (e | ⟨e, _⟩)
                  · exact .inl e
                  · exact (e hv).elim
                  · exact .inr (e ▸ hsA)
                  · exact .inr e
            · rintro (e | ⟨e1, e2⟩)
              · exact .inl (.inl e)
              · refine .inr ⟨?_, ?_⟩
                · exact e1.elim (fun e => .inl (.inl e)) (fun e => .inr (.inr ⟨e, hsA⟩))
                · exact e2.elim (fun e => .inl (.inl e)) (fun e => .inr (.inr ⟨e, hsA⟩))
          · constructor
            · rintro ((e | ⟨e1, e2⟩) | ⟨e1, e2⟩)
              · exact .inl e
              · exact .inr ⟨.inr e1, .inr e2⟩
              · refine .inr ⟨?_, ?_⟩
                · rcases e1 with (e | ⟨e, _⟩) | (e | ⟨_, e⟩)
                  · exact .inr (e ▸ hsA)
                  · exact .inr e
                  · exact .inl e
                  · exact (e hv).elim
                · rcases e2 with (e | ⟨e, _⟩) | (e | ⟨_, e⟩)
                  · exact .inr (e ▸ hsA)
                  · exact .inr e
                  · exact .inl e
                  · exact (e hv).elim
            · rintro (e | ⟨e1, e2⟩)
              · exact .inl (.inl e)
              · refine .inr ⟨?_, ?_⟩
                · exact e1.elim (fun e => .inr (.inl e)) (fun e => .inl (.inr ⟨e, hsA⟩))
                · exact e2.elim (fun e => .inr (.inl e)) (fun e => .inl (.inr ⟨e, hsA⟩))
        · have e := sL_erase hv (m u)
          have := hKK u ((mem_er hA).1 hu).2
          rw [hoe u hu]; omega
      · have hz : ∀ v ∈ A, outE n A l v = 0 := fun v hv => sumN_zero fun t ht => by
          by_cases c : t ∈ A
          · rw [if_pos c]
          · rw [if_neg c]
            refine mulL_none fun x hxl => ?_
            cases hk : isLnk v t x with
            | false => rfl
            | true =>
              refine (hx ⟨x, hxl, ?_⟩).elim
              rcases isLnk_iff.1 hk with ⟨e1, e2⟩ | ⟨e1, e2⟩
              · rw [e1, e2]; simp [hv, c]
              · rw [e1, e2]; simp [hv, c]
        rw [h.zero A _ hne hA hN hz]
        obtain ⟨s, hsn, hsA⟩ := hs
        obtain ⟨a, A', rfl⟩ := List.exists_cons_of_ne_nil hne
        refine trees_none (fun u => decide (u ∈ a :: A')) ⟨a, s, hAn a (by simp), hsn, by simp only [ne_eq, decide_eq_decide]; exact fun e => hsA (e.1 (by simp))⟩ l g hl (fun u v hu hv e => ?_) (fun x hxl => ?_)
        · rcases (hg u v hu hv).1 e with e | ⟨e1, e2⟩
          · rw [e]
          · simp only [decide_eq_false e1, decide_eq_false e2]
        · exact Classical.byContradiction fun c => hx ⟨x, hxl, c⟩
/-- the trees of a graph, seen from any vertex -/
theorem trees_at {n q : Nat} (hq : q < n) {L : List Lnk} (hL : ∀ x ∈ L, LinkOk n x) {K N : Nat} {F : List Nat → (Nat → Int) → Int} (h : TreeLike (mulL L) K N F) (hN : n ≤ N + 1) (hK : ∀ v, v < n → v ≠ q → sL (others n q) (mulL L v) + mulL L v q ≤ K) :
    trees n (fun v => (v : Int)) L = F (others n q) (fun v => mulL L v q) := by
  have ho : ∀ v, outE n (others n q) L v = mulL L v q := fun v => by
    unfold outE
    rw [sumN_one (v := q) _ hq (fun i hi hne => if_pos (others_mem.2 ⟨hi, hne⟩)), if_neg (fun c => (others_mem.1 c).2 rfl)]
  rw [trees_tree (by omega) h _ L (others n q) _ rfl (others_nodup n q) (by have := others_len hq; omega) (fun v hv => (others_mem.1 hv).1) ⟨q, hq, fun c => (others_mem.1 c).2 rfl⟩ hL (fun u v hu hv => ?_) (fun _ _ _ _ => rfl) (fun v hv => by
    rw [ho]; exact hK v (others_mem.1 hv).1 (others_mem.1 hv).2)]
  · exact h.congr _ _ _ fun v _ => ho v
  · constructor
    · intro e; exact .inl (by omega)
    · rintro (e | ⟨e1, e2⟩)
      · rw [e]
      · have : u = q := Classical.byContradiction fun e => e1 (others_mem.2 ⟨hu, e⟩)
        have : v = q := Classical.byContradiction fun e => e2 (others_mem.2 ⟨hv, e⟩)
        omega
end Go.Proofs.Ytifdhapaonideaa
