import Derived.Test.YtefkialcgmohkaaGreatDoorG2c
set_option linter.unusedSimpArgs false
set_option linter.unusedVariables false
namespace Go.Proofs.YtefkialcgmohkaaGreatDoor
section
open Go Go.RowKit Go.Sort
theorem z13b {α:Type} [Inhabited α] (enc:α→List Value) (k:Nat) (hk:∀ x,(enc x).length=k):∀ (l:List α) (t:Nat),t<l.length * k→(l.flatMap enc)[t]! = (enc l[t / k]!)[t % k]!
  | [],t,h=>by simp at h
  | x::l,t,h=>by
    have hx:=hk x
    have k0 : 0 < k := by rcases Nat.eq_zero_or_pos k with e | e; · subst e; simp at h
                          · exact e
    rw [List.flatMap_cons]
    by_cases ht:t<k
    · rw [List.getElem!_eq_getElem?_getD,List.getElem?_append_left (by omega),Nat.div_eq_of_lt ht,Nat.mod_eq_of_lt ht]
      simp
    · have hl : t - k < l.length * k := by
        simp only [List.length_cons,Nat.add_mul,Nat.one_mul] at h; omega
      have ih:=z13b enc k hk l (t - k) hl
      have e1:t / k=(t - k) / k+1:=by
        have h2:=Nat.add_div_right (t - k) k0
        rw [Nat.sub_add_cancel (by omega)] at h2; exact h2
      have e2:t % k=(t - k) % k:=by rw [Nat.mod_eq_sub_mod (by omega)]
      rw [List.getElem!_eq_getElem?_getD,List.getElem?_append_right (by omega),hx,e1,e2,← List.getElem!_eq_getElem?_getD,ih]
      simp
theorem zsu {α:Type} (enc:α→List Value) (k:Nat) (hk:∀ x,(enc x).length=k):∀ l:List α,(l.flatMap enc).length=l.length * k
  | []=>by simp
  | x::l=>by rw [List.flatMap_cons,List.length_append,hk,zsu enc k hk l,List.length_cons,Nat.add_mul,Nat.one_mul,Nat.add_comm]
theorem zzi {α:Type} [Inhabited α] (enc:α→List Value) (k:Nat) (hk:∀ x,(enc x).length=k) (l:List α):flatK enc k l.toArray=(l.flatMap enc).toArray:=by
  refine ext_get! (by rw [size_flatK]; simp only [List.size_toArray,zsu enc k hk]) fun t ht=>?_
  rw [size_flatK,List.size_toArray] at ht
  rw [get_flatK _ _ _ _ (by simpa using ht)]
  have:=z13b enc k hk l t ht
  simp at this ⊢
  rw [this]
theorem zss {α:Type} [Inhabited α] (enc:α→List Value) (k:Nat) (hk:∀ x,(enc x).length=k) {w:World} {b:Nat} {C:Array Value} {T:TypeId} (l:List α) (hb:w.heap[b]? = some (.cells C T (0,0))) (hc:C.toList.take (l.length * k)=l.flatMap enc):HoldsK enc k w b 0 l.toArray:=by
  intro j hj
  rw [zzi enc k hk] at hj ⊢
  have hj':j<(l.flatMap enc).length:=by simpa using hj
  constructor
  · refine ztw hb ?_
    have e:(C.toList.take (l.length * k))[j]? = (l.flatMap enc)[j]? := by rw [hc]
    rw [List.getElem?_take_of_lt (by rw [zsu enc k hk] at hj'; exact hj'),List.getElem?_eq_getElem hj'] at e
    rw [← Array.getElem?_toList,e]
    have:((l.flatMap enc).toArray)[j]! = (l.flatMap enc)[j]:=by rw [getElem!_pos _ j (by simpa using hj')]; simp
    rw [this]; rfl
  · simp [World.frozen?,hb]
theorem zww {α:Type} [Inhabited α] (enc:α→List Value) (k:Nat) (w:World) (b n:Nat) (d:Array α) (os:Array Obj) {i:Nat} (hi:i<w.heap.size) (hne:i≠b):(sortWorldK enc k w b 0 n d os).heap[i]? = w.heap[i]? := by
  show (w.heap.modify b _++os)[i]? = _
  rw [Array.getElem?_append_left (by simpa using hi),Array.getElem?_modify,if_neg (fun e=>hne e.symm)]
theorem z142 {α:Type} [Inhabited α] (enc:α→List Value) (k:Nat) (w:World) {b:Nat} (n:Nat) (d:Array α) (os:Array Obj) {C:Array Value} {T:TypeId} {fr:Nat × Nat} (hb:w.heap[b]? = some (.cells C T fr)):(sortWorldK enc k w b 0 n d os).heap[b]? = some (.cells (putCells id 0 (flatK enc k d) C) T fr):=by
  have hlt:b<w.heap.size:=(Array.getElem?_eq_some_iff.1 hb).1
  show (w.heap.modify b _++os)[b]? = _
  rw [Array.getElem?_append_left (by simpa using hlt),Array.getElem?_modify,if_pos rfl,hb]
  rfl
theorem z12n {α:Type} [Inhabited α] (enc:α→List Value) (k:Nat) (hk:∀ x,(enc x).length=k) (l:List α) (C:Array Value) (hC:l.length * k≤C.size):(putCells id 0 (flatK enc k l.toArray) C).toList.take (l.length * k)=l.flatMap enc:=by
  rw [zzi enc k hk]
  apply List.ext_getElem?
  intro t
  by_cases ht:t<l.length * k
  · rw [List.getElem?_take_of_lt ht,Array.getElem?_toList]
    have hl:t<(l.flatMap enc).length:=by rw [zsu enc k hk]; exact ht
    simp only [putCells,Array.getElem?_mapIdx,Nat.sub_zero,Nat.zero_add,List.size_toArray,Nat.zero_le,true_and]
    rw [Array.getElem?_eq_getElem (by omega),Option.map_some,if_pos hl,List.getElem?_eq_getElem hl]
    have:((l.flatMap enc).toArray)[t]! = (l.flatMap enc)[t]:=by rw [getElem!_pos _ t (by simpa using hl)]; simp
    rw [this]; rfl
  · rw [List.getElem?_eq_none (by simp; omega),List.getElem?_eq_none (by rw [zsu enc k hk]; omega)]
theorem zsy {S:Blk} {w:World}:∀ {l:List V3} {cs:List Value},z6y (z3r 32 u8R) S w cs l→cs=l.flatMap z96
  | [],cs,h=>h
  | x::l,cs,h=>by
    obtain ⟨c,d,rfl,h1,h2⟩:=h
    rw [List.flatMap_cons,zsy h2,zny h1]; rfl
theorem zrb {S:Blk} {w:World}:∀ (l:List V3),z6y (z3r 32 u8R) S w (l.flatMap z96) l
  | []=>rfl
  | x::l=>⟨z96 x,l.flatMap z96,List.flatMap_cons,zoj x.toList,zrb l⟩
theorem zve {P : Program} {f g T : Nat} (srt : List V3 → List V3) (hlen : ∀ l, (srt l).length = l.length)
    (hnone:∀ (cap:Nat) (w:World),Calls P f #[.slice none 0 cap,.func (.func g) #[] #[]] w fun e w'=>e=.returned (.tuple #[])∧w'=w)
    (hsome:∀ (blk cap:Nat) (d:Array V3) (w:World),HoldsK z96 32 w blk 0 d→blk<w.heap.size→d.size<4611686018427387904 →
      Calls P f #[.slice (some ⟨blk,0,none⟩) d.size cap,.func (.func g) #[] #[]] w fun e w'=>e=.returned (.tuple #[])∧∃ n os,w'=sortWorldK z96 32 w blk 0 n (srt d.toList).toArray os)
    (p0:Value) (c0:List V3):z1w P f [.val p0,.val (.func (.func g) #[] #[])] [(1,some (p0,.list (z3r 32 u8R) T c0))] (chk (c0.length≤1000000) >>= fun _=>some (srt c0))
      (fun r nv=>⟨[],[(1,some (p0,.list (z3r 32 u8R) T r))]⟩):=by
  intro r hr H vs w hvs hres
  have hb:c0.length≤1000000∧r=srt c0:=by
    unfold chk at hr
    split at hr
    · rename_i h; simp at hr; exact ⟨h,hr.symm⟩
    · simp at hr
  obtain ⟨hlen0,rfl⟩:=hb
  match vs,hvs with
  | [v0,v1],hvs =>
  obtain ⟨h0,h1,_⟩:=hvs
  have e0:v0=p0:=h0.1
  have e1:v1=.func (.func g) #[] #[]:=h1.1
  subst e0; subst e1
  have hc:=hres.conts 1 v0 _ rfl
  have only:∀ r v c (q:z5f),lr [(1,some (v0,q))] r=some (v,c)→r=1∧v=v0∧c=q:=fun r v c q h=>by
    rw [z1r] at h
    split at h
    · rename_i e; cases h; exact ⟨e.symm,rfl,rfl⟩
    · simp [lr,lk] at h
  rcases hc with ⟨rfl,rfl⟩ | ⟨b,o,k1,k2,b',cap,C,k3,rfl,k4,k5,k6,k7⟩
  · refine (hnone 0 w).mono fun e w' ⟨he,hw⟩=>?_
    subst hw
    refine ⟨fun _=>undef,[],he,trivial, fun r v c h=>?_, fun r v c r' v' c' h h' hne=>?_, fun r v c h b hb=>?_,zn9.rfl'⟩
    · obtain ⟨rfl,rfl,rfl⟩:=only _ _ _ _ h
      have:srt []=[]:=List.eq_nil_of_length_eq_zero (by rw [hlen]; rfl)
      exact .inl ⟨rfl,this⟩
    · exact absurd ((only _ _ _ _ h).1.trans (only _ _ _ _ h').1.symm) hne
    · obtain ⟨rfl,rfl,rfl⟩:=only _ _ _ _ h; cases hb
  · subst k3
    simp only [z5g,Option.some.injEq] at k1
    subst k1
    have hlt:b'<w.heap.size:=(Array.getElem?_eq_some_iff.1 k2).1
    have hrow:=zsy k7
    have hsz:(z3r 32 u8R).sz=32:=rfl
    rw [hsz] at k6 hrow
    have hC:c0.length * 32≤C.size:=by rw [k6]; exact Nat.mul_le_mul_right _ k4
    refine (hsome b' cap c0.toArray w (zss z96 32 zg6 c0 k2 hrow) hlt (by simp; omega)).mono fun e w' ⟨he,n,os,hw⟩=>?_
    subst hw
    refine ⟨fun _=>undef,[],he,trivial, fun r v c h=>?_, fun r v c r' v' c' h h' hne=>?_, fun r v c h b hb=>?_,rfl,rfl,rfl,?_, fun i hi=>?_⟩
    · obtain ⟨rfl,rfl,rfl⟩:=only _ _ _ _ h
      refine .inr ⟨b',_,rfl,z142 z96 32 w n _ os k2,b',cap,_, by rw [hlen],rfl, by rw [hlen]; exact k4,k5,?_,?_⟩
      · rw [hsz,← k6]; simp [putCells]
      · rw [hsz,z12n z96 32 zg6 (srt c0) C (by rw [hlen]; exact hC)]
        exact zrb _
    · exact absurd ((only _ _ _ _ h).1.trans (only _ _ _ _ h').1.symm) hne
    · obtain ⟨rfl,rfl,rfl⟩:=only _ _ _ _ h
      exact .inr ⟨1,_,_,rfl,hb⟩
    · show w.heap.size≤(w.heap.modify b' _++os).size
      simp
    · exact zww z96 32 w b' n _ os hi.1 fun e=>hi.2 ⟨1,_,_,rfl, by rw [e]; rfl⟩
end
section
open Go
section
variable {σ β α ρ τ:Type}
theorem bs (x:α) (f:α→Option β):(some x >>= f)=f x:=rfl
theorem bS (x:α) (f:α→Option β):(some x >>= f)=f x:=Eq.trans (rfl:(some x >>= f)=f x) rfl
theorem zzk (r:ρ) (k:τ→Option ρ):z61 (some (.inl r)) k=some r:=rfl
theorem zt7 (t:τ) (k:τ→Option ρ):z61 (some (.inr t)) k=k t:=rfl
theorem z1z {F:σ→Option (Sum β σ)} {s:σ} {b:β} (h:F s=some (.inl b)):iter F s=some b:=by rw [iter,h]; rfl
theorem z2f {F:σ→Option (Sum β σ)} {s s':σ} (h:F s=some (.inr s')):iter F s=iter F s':=by rw [iter,h]; rfl
theorem z9u {F:σ→Option (Sum β σ)} (I:σ→Prop) (μ:σ→Nat) (Q:β→Prop) (h:∀ s,I s→(∃ b,F s=some (.inl b)∧Q b)∨∃ s',F s=some (.inr s')∧I s'∧μ s'<μ s) (s:σ) (hs:I s):∃ b,iter F s=some b∧Q b:=by
 have key:∀ n s,μ s=n→I s→∃ b,iter F s=some b∧Q b:=by
  intro n
  induction n using Nat.strongRecOn with
  | _ n ih =>
   intro s hn hs
   rcases h s hs with ⟨b,h1,h2⟩ | ⟨s',h1,h2,h3⟩
   ·
    exact ⟨b,z1z h1,h2⟩
   ·
    rw [z2f h1]; exact ih (μ s') (hn ▸ h3) s' rfl h2
 exact key _ s rfl hs
theorem z85 {F:σ→Option (Sum β σ)} (n:Nat) (I:Nat→σ→Prop) (Q:β→Prop) (h1:∀ i s,i<n→I i s→∃ s',F s=some (.inr s')∧I (i+1) s') (h2:∀ s,I n s→∃ b,F s=some (.inl b)∧Q b) (s:σ) (i:Nat) (hi:i≤n) (hs:I i s):∃ b,iter F s=some b∧Q b:=by
 have key:∀ k i s,n - i=k→i≤n→I i s→∃ b,iter F s=some b∧Q b:=by
  intro k
  induction k with
  | zero =>
   intro i s hk hi hs
   have:i=n:=by omega
   subst this
   obtain ⟨b,h3,h4⟩:=h2 s hs
   exact ⟨b,z1z h3,h4⟩
  | succ k ih =>
   intro i s hk hi hs
   obtain ⟨s',h3,h4⟩:=h1 i s (by omega) hs
   rw [z2f h3]; exact ih (i+1) s' (by omega) (by omega) h4
 exact key _ i s rfl hi hs
theorem z2a {F:σ→Option (Sum β σ)} (n:Nat) (g:Nat→σ) {b:β} (h1:∀ i,i<n→F (g i)=some (.inr (g (i+1)))) (h2:F (g n)=some (.inl b)):iter F (g 0)=some b:=by
 obtain ⟨b',h3,rfl⟩:=z85 n (fun i s=>s=g i) (fun x=>x=b) (fun i s hi hs=>⟨_, by rw [hs]; exact h1 i hi,rfl⟩) (fun s hs=>⟨_, by rw [hs]; exact h2,rfl⟩) (g 0) 0 (Nat.zero_le _) rfl
 exact h3
theorem z0a {l:List α} {i:Nat} (h:i<l.length):idx l (i:Int)=some l[i]:=by simp [idx,h]
theorem z15i {l:List α} {i:Int} (h0:0≤i) (h:i.toNat<l.length):idx l i=some l[i.toNat]:=by simp [idx,h0,h]
theorem zbq {n:Nat} {v:Vector α n} {i:Nat} (h:i<n):z8s v (i:Int)=some v[i]:=by unfold z8s; rw [z0a (by simpa using h)]; simp
theorem zlm {n:Nat} {v:Vector α n} {i:Int} {x:α} {j:Nat} (hj:j<n):(zki v i x)[j]=if i.toNat=j then x else v[j]:=by
 unfold zki; rw [Vector.getElem_setIfInBounds hj]
theorem z3w {p:Prop} [Decidable p] (h:p):chk p=some ():=by simp [chk,h]
theorem z1f {by_:Nat} {b c:List α} (h:(b.length+c.length) * by_≤140737488355328):app by_ b c=some (b++c):=by simp [app,h]
theorem zja {by_:Nat} {x:α} {n:Nat} (h:by_ * n≤281474976710656) (h2:n≤9223372036854775807):mkn by_ x (n:Int)=some (List.replicate n x):=by
 unfold mkn; rw [if_pos ⟨by omega, by simpa using h, by omega⟩]; simp
theorem zcw {b:List α} {i j:Nat} (h:i≤j) (hj:j≤b.length):cut b (i:Int) (j:Int)=some ((b.drop i).take (j - i)):=by
 unfold cut; rw [if_pos ⟨by omega, by omega, by omega⟩]; simp
end
theorem z1c {x:Int} (h1:-9223372036854775808≤x) (h2:x≤9223372036854775807):w64 x=x:=zhq h1 h2
theorem z0e {n:Nat} (h:n<9223372036854775807):w64 ((n:Int)+1)=((n+1:Nat):Int):=by rw [z1c (by omega) (by omega)]; omega
theorem zel (a:UInt64) (n:Nat):(z8r a n).toNat=a.toNat / 2 ^ (min n 64):=by
 unfold z8r
 have h1:=UInt64.toNat_lt a
 have h2:a.toNat / 2 ^ (min n 64)≤a.toNat:=Nat.div_le_self _ _
 simp; omega
theorem znw (a:UInt64) (n:Nat):(zqx a n).toNat=a.toNat * 2 ^ (min n 64) % 18446744073709551616:=by
 unfold zqx; simp
theorem z17t (a:UInt64) (k:Nat) (hk:k<64):((z8r a k &&& 1)==1)=a.toNat.testBit k:=by
 rw [Bool.eq_iff_iff,beq_iff_eq,← UInt64.toNat_inj,UInt64.toNat_and,zel,Nat.min_eq_left (by omega)]
 have:(1:UInt64).toNat=1:=rfl
 rw [this,Nat.and_one_is_mod,Nat.testBit_eq_decide_div_mod_eq]
 simp
end
section
open Go
def z88 (n:Nat):Nat:=if n=0 then 0 else n.log2+1
theorem zfj (n k:Nat) (h:2 ^ k≤n):z88 n=k+z88 (n / 2 ^ k):=by
 have hp:0<2 ^ k:=Nat.pow_pos (by decide)
 have h1:n / 2 ^ k≠0:=by
  have:1≤n / 2 ^ k:=(Nat.le_div_iff_mul_le hp).2 (by rw [Nat.one_mul]; exact h)
  omega
 have h2:n≠0:=by omega
 unfold z88
 rw [if_neg h1,if_neg h2]
 have h3:n.log2=k+(n / 2 ^ k).log2:=by
  rw [Nat.log2_eq_iff h2]
  have h4:=(Nat.log2_eq_iff h1).1 rfl
  refine ⟨?_,?_⟩
  ·
   rw [Nat.pow_add,Nat.mul_comm]; exact (Nat.le_div_iff_mul_le hp).1 h4.1
  ·
   rw [Nat.add_assoc,Nat.pow_add,Nat.mul_comm]; exact (Nat.div_lt_iff_lt_mul hp).1 h4.2
 omega
theorem zl2 (n k:Nat) (h:n<2 ^ k):z88 n≤k:=by
 unfold z88; split
 ·
  omega
 ·
  rename_i h0; have:=(Nat.log2_lt h0).2 h; omega
def z112:ByteArray:=⟨#[0,1,2,2,3,3,3,3,4,4,4,4,4,4,4,4,5,5,5,5,5,5,5,5,5,5,5,5,5,5,5,5,6,6,6,6,6,6,6,6,6,6,6,6,6,6,6,6,6,6,6,6,6,6,6,6,6,6,6,6,6,6,6,6,7,7,7,7,7,7,7,7,7,7,7,7,7,7,7,7,7,7,7,7,7,7,7,7,7,7,7,7,7,7,7,7,7,7,7,7,7,7,7,7,7,7,7,7,7,7,7,7,7,7,7,7,7,7,7,7,7,7,7,7,7,7,7,7,8,8,8,8,8,8,8,8,8,8,8,8,8,8,8,8,8,8,8,8,8,8,8,8,8,8,8,8,8,8,8,8,8,8,8,8,8,8,8,8,8,8,8,8,8,8,8,8,8,8,8,8,8,8,8,8,8,8,8,8,8,8,8,8,8,8,8,8,8,8,8,8,8,8,8,8,8,8,8,8,8,8,8,8,8,8,8,8,8,8,8,8,8,8,8,8,8,8,8,8,8,8,8,8,8,8,8,8,8,8,8,8,8,8,8,8,8,8,8,8,8,8,8,8,8,8,8,8]⟩
set_option maxRecDepth 100000 in
theorem z116:∀ x:Fin 256,z112.data[x.val]? = some (UInt8.ofNat (z88 x.val)):=by decide +kernel
def z3s (n:Nat):List UInt8:=if h:n=0 then [] else UInt8.ofNat n::z3s (n / 256)
termination_by n
theorem zkc:z3s 0=[]:=by rw [z3s]; simp
theorem zm6 (n:Nat) (h:n≠0):z3s n=UInt8.ofNat n::z3s (n / 256):=by rw [z3s]; simp [h]
def z2g (n:Nat):List UInt8:=if n≤247 then [UInt8.ofNat n] else UInt8.ofNat (247+(z3s n).length)::(z3s n).reverse
theorem zpw (n:Nat):(z3s n).length=(z88 n+7) / 8:=by
 induction n using Nat.strongRecOn with
 | _ n ih =>
  by_cases h:n=0
  ·
   subst h; rw [zkc]; simp [z88]
  ·
   rw [zm6 n h,List.length_cons,ih (n / 256) (by omega)]
   by_cases h2:n<256
   ·
    have:n / 256=0:=by omega
    rw [this]
    have h3:z88 n≤8:=zl2 n 8 h2
    have h4:1≤z88 n:=by unfold z88; rw [if_neg h]; omega
    simp [z88] at h3 h4 ⊢
    rw [if_neg h] at h3 h4 ⊢; omega
   ·
    have:=zfj n 8 (by omega)
    rw [show (2:Nat) ^ 8=256 from rfl] at this
    omega
theorem zwi (n:Nat):∀ (i:Nat),i<(z3s n).length→(z3s n)[i]? = some (UInt8.ofNat (n / 256 ^ i)):=by
 induction n using Nat.strongRecOn with
 | _ n ih =>
  intro i hi
  by_cases h:n=0
  ·
   subst h; rw [zkc] at hi; simp at hi
  ·
   rw [zm6 n h] at hi ⊢
   cases i with
   | zero=>simp
   | succ i =>
    simp only [List.length_cons] at hi
    rw [List.getElem?_cons_succ,ih (n / 256) (by omega) i (by omega),Nat.div_div_eq_div_mul]
    congr 3
    rw [Nat.pow_succ,Nat.mul_comm]
theorem zo7 (n:Nat) (h:n<18446744073709551616):(z3s n).length≤8:=by
 rw [zpw]; have:=zl2 n 64 (by simpa using h); omega
theorem z12 (n:Nat) (h:n<18446744073709551616):1≤(z2g n).length∧(z2g n).length≤9:=by
 unfold z2g; have:=zo7 n h; split <;> simp <;> omega
def ze2 (n i:Nat):List UInt8:=UInt8.ofNat (247+(z3s n).length)::(List.replicate ((z3s n).length - i) 0++((z3s n).take i).reverse)
theorem zue (n i:Nat) (h:i≤(z3s n).length):(ze2 n i).length=(z3s n).length+1:=by simp [ze2]; omega
theorem zsg (n:Nat):(List.replicate ((z3s n).length+1) (0:UInt8)).set 0 (UInt8.ofNat (247+(z3s n).length))=ze2 n 0:=by
 simp [ze2,List.replicate_succ]
theorem zrr (n i:Nat) (h:i<(z3s n).length):(ze2 n i).set ((z3s n).length - i) (UInt8.ofNat (n / 2 ^ (8 * i)))=ze2 n (i+1):=by
 have hg:=zwi n i h
 have he:n / 2 ^ (8 * i)=n / 256 ^ i:=by rw [Nat.pow_mul]
 rw [he]
 unfold ze2
 obtain ⟨m,hm⟩:∃ m,(z3s n).length - i=m+1:=⟨(z3s n).length - i - 1, by omega⟩
 have hm2:(z3s n).length - (i+1)=m:=by omega
 rw [hm,hm2,List.set_cons_succ,List.take_succ_eq_append_getElem h,List.reverse_append,List.reverse_singleton,List.replicate_succ']
 rw [List.getElem?_eq_getElem h,Option.some.injEq] at hg
 rw [hg,List.append_assoc,List.set_append_right _ _ (by simp)]
 simp
theorem zs5 (n:Nat) (h:247<n):ze2 n (z3s n).length=z2g n:=by
 unfold ze2 z2g; rw [if_neg (by omega)]; simp
theorem zt0 (n m:Nat) (ds:List UInt8) (hm:m≠0) (h:z3s n=ds++z3s m):z3s n=(ds++[UInt8.ofNat (m % 256)])++z3s (m / 256):=by
 rw [h,zm6 m hm,List.append_assoc]
 have:UInt8.ofNat (m % 256)=UInt8.ofNat m:=by
  apply UInt8.toNat_inj.1; simp
 rw [this]; rfl
theorem zoz {α} {l a b:List α} (h:l=a++b):a.length≤l.length:=by rw [h]; simp
def zig (n:Int):Nat:=if 0≤n then (2 * n).toNat else (-2 * n - 1).toNat
theorem z16d {n:Int} (h1:-9223372036854775808≤n) (h2:n≤9223372036854775807):zig n<18446744073709551616:=by unfold zig; split <;> omega
end
section
open Go Go.RowKit
def zi4 (x:z09):Prop:=(fun _=>True) x.Kind∧inI x.Num∧(fun _=>True) x.Bits∧(fun s:List UInt8=>s.length≤9223372036854775807) x.Text∧True
def zlt (x:z18):Prop:=(fun _=>True) x.Kind∧(fun s:List UInt8=>s.length≤9223372036854775807) x.Key∧zi4 x.Value∧True
def zmb (x:z0q):Prop:=(fun _=>True) x.E∧(fun _=>True) x.S∧True
def zck (x:z0b):Prop:=(fun _=>True) x.Author∧(fun l:List V3=>(∀ x∈l,(fun v:V3=>∀ x∈v.toList,(fun _=>True) x) x)∧l.length≤9223372036854775807) x.Preds∧(fun _=>True) x.Stamp∧zlt x.Act∧zmb x.Sig∧True
def z1o (x:z00):Prop:=(fun l:List V3=>(∀ x∈l,(fun v:V3=>∀ x∈v.toList,(fun _=>True) x) x)∧l.length≤9223372036854775807) x.IDs∧(fun l:List z0b=>(∀ x∈l,zck x)∧l.length≤9223372036854775807) x.Ops∧True
end
section
open Go
theorem z122 {n k:Nat} (hn:n<9223372036854775808) (hk:k<9223372036854775808):andI (n:Int) (k:Int)=((n &&& k:Nat):Int):=by
 show IntKind.i64.wrap (BitVec.toNat (BitVec.ofInt 64 (n:Int) &&& BitVec.ofInt 64 (k:Int)):Int)=_
 rw [BitVec.ofInt_natCast,BitVec.ofInt_natCast,BitVec.toNat_and,BitVec.toNat_ofNat,BitVec.toNat_ofNat,Nat.mod_eq_of_lt (by omega),Nat.mod_eq_of_lt (by omega)]
 have:=Nat.and_le_left (n:=n) (m:=k)
 exact zhq (by omega) (by omega)
def okb (c:UInt8):Bool:=decide (32≤c.toNat)&&decide (c.toNat≤126)
theorem zq9 {b:List UInt8} {q:Nat} (h:q<b.length) (ha:(b[q]).toNat<128):zb5 b q=((b[q]).toNat,1):=by
 unfold zb5
 exact decode_ascii ⟨b.toArray⟩ q (by show q<b.toArray.size; simpa using h) ha
theorem zzx {b:List UInt8} {q:Nat} (h:q<b.length) (ha:128≤(b[q]).toNat):128≤(zb5 b q).1:=by
 unfold zb5
 have e:((ByteArray.mk b.toArray).get! (q+0)).toNat=(b[q]).toNat:=by
  show ((ByteArray.mk b.toArray).get! q).toNat=_
  simp [ByteArray.get!,h]
 simp only [Utf8.decode,e]
 rw [if_neg (by omega)]
 repeat' split
 all_goals (first | (simp only [Utf8.runeError]; omega) | (rename_i h1; simp at h1; omega) | omega)
theorem z12h (x:Int):zfe x=some (decide (x<32) || decide (126<x)):=by
 unfold zfe
 cases decide (x<32) <;> rfl
theorem zun (b:List UInt8):∀ (rest pre:List UInt8),b=pre++rest →
  (rest.all okb=true→iter (z27 b true) pre.length=some (.inr ()))∧(rest.all okb=false→∃ i:Nat,iter (z27 b true) pre.length=some (.inl (i:Int)))
 | [],pre,e=>by
  refine ⟨fun _=>z1z ?_, fun h=>by simp at h⟩
  subst e
  unfold z27
  simp
 | c::rest,pre,e=>by
  have hlen:pre.length<b.length:=by rw [e]; simp
  have hget:b[pre.length]'hlen=c:=by subst e; simp
  have hF:z27 b true pre.length=if ((decide (((zb5 b pre.length).1:Int)<32) || decide (126<((zb5 b pre.length).1:Int)))==true) then some (.inl (.inl (pre.length:Int))) else some (.inr (pre.length+(zb5 b pre.length).2)):=by
   unfold z27
   rw [if_pos hlen]
   simp only [bs,z12h]
  cases hc:okb c with
  | false =>
   refine ⟨fun h=>by simp [hc] at h, fun _=>⟨pre.length,z1z ?_⟩⟩
   rw [hF,if_pos]
   by_cases h8:c.toNat<128
   ·
    rw [zq9 hlen (by rw [hget]; exact h8),hget]
    simp only [okb,Bool.and_eq_false_iff,decide_eq_false_iff_not] at hc
    simp; omega
   ·
    have:=zzx hlen (by rw [hget]; omega)
    simp; omega
  | true =>
   simp only [okb,Bool.and_eq_true,decide_eq_true_eq] at hc
   rw [zq9 hlen (by rw [hget]; omega),hget,if_neg (by simp; omega)] at hF
   have ih:=zun b rest (pre++[c]) (by simp [e])
   simp only [List.length_append,List.length_cons,List.length_nil,Nat.zero_add] at ih
   rw [z2f hF]
   have hc':okb c=true:=by simp [okb,hc]
   simpa [hc'] using ih
theorem zmr (b:List UInt8) (hb:b.length≤9223372036854775807):∀ (rest pre:List UInt8),b=pre++rest→iter (z4j b) (pre.length:Int)=some (if rest.all okb then .inr () else .inl false)
 | [],pre,e=>by
  refine z1z ?_
  subst e
  unfold z4j
  simp
 | c::rest,pre,e=>by
  have hlen:pre.length<b.length:=by rw [e]; simp
  have hget:b[pre.length]'hlen=c:=by subst e; simp
  have hF:z4j b (pre.length:Int)=if okb c then some (.inr ((pre.length+1:Nat):Int)) else some (.inl (.inl false)):=by
   unfold z4j
   rw [if_pos (by simp <;> omega)]
   simp only [z0a hlen,hget,bs,z0e (show pre.length<9223372036854775807 by omega)]
   simp only [okb,UInt8.lt_iff_toNat_lt,UInt8.reduceToNat]
   by_cases h1:c.toNat<32
   ·
    have:¬ 32≤c.toNat:=by omega
    simp [h1,this]
   ·
    by_cases h2:126<c.toNat
    ·
     have:¬ c.toNat≤126:=by omega
     simp [h1,h2,this]
    ·
     have h3:32≤c.toNat:=by omega
     have h4:c.toNat≤126:=by omega
     simp [h1,h2,h3,h4]
  cases hc:okb c with
  | false=>rw [hc] at hF; rw [z1z hF]; simp [hc]
  | true =>
   rw [hc] at hF
   rw [z2f hF]
   have ih:=zmr b hb rest (pre++[c]) (by simp [e])
   simp only [List.length_append,List.length_cons,List.length_nil,Nat.zero_add] at ih
   rw [ih]; simp [hc]
theorem zru (b:List UInt8) (hb:b.length≤9223372036854775807):z8d b=some (b.all okb):=by
 have h:=zmr b hb b [] rfl
 unfold z8d
 rw [show (0:Int)=(([]:List UInt8).length:Int) from rfl,h]
 cases b.all okb <;> rfl
theorem z12t (b:List UInt8) (hb:b.length≤9223372036854775807):zij b=some (if decide (30<(b.length:Int)) then (⟨0,0,0,[]⟩,4) else if b.all okb then (⟨3,0,0,b⟩,0) else (⟨0,0,0,[]⟩,8)):=by
 unfold zij z5e z5b
 cases decide (30<(b.length:Int))
 ·
  simp only [Bool.false_eq_true,if_false]
  obtain ⟨h1,h2⟩:=zun b b [] rfl
  simp only [List.length_nil] at h1 h2
  cases h:b.all okb
  ·
   obtain ⟨i,hi⟩:=h2 h
   rw [hi]
   simp only [zzk,bs]
   rw [if_pos (by simp)]; rfl
  ·
   rw [h1 h]; rfl
 ·
  rfl
theorem z11x (a:UInt64):zgw a=some (((a.toNat / 4503599627370496 % 2048:Nat):Int),a % 4503599627370496):=by
 unfold zgw
 simp only [bs]
 have h0:=UInt64.toNat_lt a
 rw [zel]
 have e1:(2:Nat) ^ (min 52 64)=4503599627370496:=by decide
 rw [e1,z1c (by omega) (by omega), show (2047:Int)=((2047:Nat):Int) from rfl,z122 (by omega) (by omega)]
 congr 2
 ·
  congr 1
  exact Nat.and_two_pow_sub_one_eq_mod _ 11
 ·
  apply UInt64.toNat_inj.1
  rw [UInt64.toNat_and,UInt64.toNat_mod]
  exact Nat.and_two_pow_sub_one_eq_mod _ 52
theorem z15y (a:UInt64):z8w a=some ((a.toNat / 4503599627370496 % 2048:Nat):Int):=by
 unfold z8w
 have h0:=UInt64.toNat_lt a
 simp only [bs,UInt64.toNat_div,UInt64.toNat_mod,UInt64.reduceToNat]
 rw [z1c (by omega) (by omega)]
 congr 2
 omega
def ztu (a:UInt64):Nat:=a.toNat / 4503599627370496 % 2048
def mant (a:UInt64):Nat:=a.toNat % 4503599627370496
theorem z15j (a:UInt64):ztu a<2048:=Nat.mod_lt _ (by omega)
def clsF (a:UInt64):UInt8:=if ztu a=2047 then (if mant a=0 then 4 else 5) else if ztu a=0 then (if mant a=0 then 1 else 2) else 3
theorem z13p (a:UInt64):(a % 4503599627370496==0)=decide (mant a=0):=by
 rw [Bool.eq_iff_iff]
 simp only [beq_iff_eq,decide_eq_true_eq,← UInt64.toNat_inj,UInt64.toNat_mod]
 rfl
theorem zz7 (a:UInt64):zh2 a=some (clsF a):=by
 unfold zh2 clsF
 rw [z11x]
 simp only [bs]
 have hm:=z13p a
 have hne:(a % 4503599627370496 != 0)=!decide (mant a=0):=by rw [← hm]; rfl
 have he:((a.toNat / 4503599627370496 % 2048:Nat):Int)=(ztu a:Int):=rfl
 rw [hne,he]
 by_cases h1:ztu a=2047
 ·
  rw [h1]
  by_cases h2:mant a=0
  ·
   rw [decide_eq_true h2,if_pos h2]; rfl
  ·
   rw [decide_eq_false h2,if_neg h2]; rfl
 ·
  have e1:((ztu a:Int)==2047)=false:=by simp; omega
  rw [if_neg h1,e1]
  simp only [Bool.false_eq_true,if_false,bs]
  by_cases h0:ztu a=0
  ·
   rw [h0]
   by_cases h2:mant a=0
   ·
    rw [decide_eq_true h2,if_pos h2]; rfl
   ·
    rw [decide_eq_false h2,if_neg h2]; rfl
  ·
   have e0:((ztu a:Int) != 0)=true:=by simp; omega
   rw [e0,if_neg h0]; rfl
theorem z10y (a:UInt64):zbs a=some (clsF a):=by
 unfold zbs zc1 clsF
 rw [z15y]
 simp only [bs]
 rw [z13p a]
 have hx:=z15j a
 show z61 (if ((ztu a:Int)==0)=true then if decide (mant a=0)=true then some (.inl 1) else some (.inr ()) else some (.inr ())) (fun s5=>if ((ztu a:Int)==0)=true then some 2 else if decide ((ztu a:Int)<2047)=true then some 3 else if decide (mant a=0)=true then some 4 else some 5)=_
 by_cases h1:ztu a=2047
 ·
  rw [h1]
  by_cases h2:mant a=0 <;> simp [h2,zt7,zzk]
 ·
  by_cases h0:ztu a=0
  ·
   rw [h0]
   by_cases h2:mant a=0 <;> simp [h2,zt7,zzk]
  ·
   have e0:((ztu a:Int)==0)=false:=by simp; omega
   have e2:decide ((ztu a:Int)<2047)=true:=by simp; omega
   rw [e0,e2,if_neg h1,if_neg h0]; rfl
def zku (a:UInt64):UInt64:=if clsF a=5 then 9221120237041090560 else a
theorem zxg (a:UInt64):zgp a=some (zku a):=by
 unfold zgp zku
 rw [zz7]
 simp only [bs]
 by_cases h:clsF a=5 <;> simp [h]
theorem zyg (a:UInt64):zbz a=some (zku a):=by
 unfold zbz zku
 rw [z10y]
 simp only [bs]
 by_cases h:clsF a=5 <;> simp [h]
theorem zys (a:UInt64):zgj a=some ⟨2,0,zku a,[]⟩:=by
 unfold zgj; rw [zxg]; rfl
def okV (v:z09):Bool :=
 if v.Kind=1 then decide (v.Bits=0)&&decide (v.Text=[])
 else if v.Kind=2 then decide (v.Num=0)&&decide (v.Text=[])&&decide (zku v.Bits=v.Bits)
 else if v.Kind=3 then decide (v.Num=0)&&decide (v.Bits=0)&&decide (v.Text.length≤30)&&v.Text.all okb
 else false
theorem zyj (v:z09) (hb:v.Text.length≤9223372036854775807):zbo v=some (if okV v then 0 else 8):=by
 obtain ⟨K,n,f,t⟩:=v
 unfold zbo okV
 simp only at hb ⊢
 rw [zyg,zru t hb]
 by_cases h1:K=1
 ·
  subst h1
  by_cases hf:f=0 <;> by_cases ht:t=[] <;> simp [hf,ht]
 by_cases h2:K=2
 ·
  subst h2
  by_cases hn:n=0 <;> by_cases ht:t=[] <;> by_cases hc:zku f=f <;> simp [hn,ht,hc,bs]
 by_cases h3:K=3
 ·
  subst h3
  by_cases hl:t.length≤30
  ·
   have hl':(t.length:Int)≤30:=by omega
   by_cases hn:n=0 <;> by_cases hf:f=0 <;> cases t.all okb <;> simp [hn,hf,hl,hl',bs]
  ·
   have hl':¬ (t.length:Int)≤30:=by omega
   by_cases hn:n=0 <;> by_cases hf:f=0 <;> simp [hn,hf,hl,hl',bs]
 ·
  simp [h1,h2,h3]
theorem zsa (v:z09) (hb:v.Text.length≤9223372036854775807):zej v=some (if okV v then 0 else 8):=by
 obtain ⟨K,n,f,t⟩:=v
 unfold zej zhk okV
 simp only at hb ⊢
 rw [zys,z12t t hb]
 by_cases h1:K=1
 ·
  subst h1
  by_cases hf:f=0 <;> by_cases ht:t=[] <;> simp [hf,ht,bs]
 by_cases h2:K=2
 ·
  subst h2
  by_cases hc:zku f=f
  ·
   by_cases hn:n=0 <;> by_cases ht:t=[] <;> simp [hn,ht,hc,bs]
  ·
   have hc':¬ f=zku f:=fun e=>hc e.symm
   by_cases hn:n=0 <;> by_cases ht:t=[] <;> simp [hn,ht,hc,hc',bs]
 by_cases h3:K=3
 ·
  subst h3
  by_cases hl:30<(t.length:Int)
  ·
   have h4:¬ t.length≤30:=by omega
   rw [decide_eq_true hl,decide_eq_false h4]
   simp [bs]
  ·
   have h4:t.length≤30:=by omega
   rw [decide_eq_false hl,decide_eq_true h4]
   cases t.all okb <;> by_cases hn:n=0 <;> by_cases hf:f=0 <;> simp [hn,hf,bs]
 ·
  have e1:(K==1)=false:=by simpa using h1
  have e2:(K==2)=false:=by simpa using h2
  have e3:(K==3)=false:=by simpa using h3
  simp only [e1,e2,e3,Bool.false_eq_true,if_false,bs,h1,h2,h3]
  by_cases h0:K=0
  ·
   subst h0
   split <;> rfl
  ·
   simp [h0]
end
section
open Go
theorem z100:∀ (n:Nat) (a:UInt64) (ds:List UInt8) (N:Nat),a.toNat=n→z3s N=ds++z3s n→(z3s N).length≤8→iter z5p (a,ds)=some (z3s N):=by
 intro n
 induction n using Nat.strongRecOn with
 | _ n ih =>
  intro a ds N ha hd hl
  by_cases h0:n=0
  ·
   subst h0
   refine z1z ?_
   unfold z5p
   rw [if_neg (by simp [UInt64.lt_iff_toNat_lt,ha])]
   rw [zkc,List.append_nil] at hd
   rw [hd]
  ·
   have hF:z5p (a,ds)=some (.inr (a / 256,ds++[(a % 256).toUInt8])):=by
    unfold z5p
    rw [if_pos (by simp [UInt64.lt_iff_toNat_lt,ha]; omega)]
    have:ds.length≤8:=Nat.le_trans (zoz hd) hl
    simp only [z1f (show (ds.length+[(a % 256).toUInt8].length) * 1≤140737488355328 by simp; omega),bs]
   rw [z2f hF]
   have hd2:=zt0 N n ds h0 hd
   refine ih (n / 256) (Nat.div_lt_self (by omega) (by omega)) _ _ N ?_ ?_ hl
   ·
    simp [ha]
   ·
    rw [hd2]
    congr 2
    congr 1
    apply UInt8.toNat_inj.1
    simp [ha]
theorem zri (s:List UInt8) (hl:s.length≤8):∀ (i:Nat) (acc:List UInt8),i≤s.length→acc.length+i≤100→iter (z5w s) (acc,(i:Int) - 1)=some (acc++(s.take i).reverse)
 | 0,acc,_,_=>by
  refine z1z ?_
  unfold z5w
  rw [if_neg (by simp)]; simp
 | i+1,acc,hi,ha=>by
  have hlt:i<s.length:=by omega
  have e:((i+1:Nat):Int) - 1=(i:Int):=by omega
  have hF:z5w s (acc,((i+1:Nat):Int) - 1)=some (.inr (acc++[s[i]],(i:Int) - 1)):=by
   unfold z5w
   rw [e,if_pos (by simp)]
   simp only [z0a hlt,bs]
   rw [z1f (by simp; omega)]
   simp only [bs,z1c (show -9223372036854775808≤(i:Int) - 1 by omega) (by omega)]
  rw [z2f hF,zri s hl i _ (by omega) (by simp; omega)]
  have:List.take (i+1) s=List.take i s++[s[i]]:=by rw [List.take_add_one,List.getElem?_eq_getElem hlt]; rfl
  rw [this]; simp only [List.reverse_append,List.reverse_cons,List.reverse_nil,List.nil_append,List.append_assoc]
theorem z7p (a:UInt64):z20 a=some (z2g a.toNat):=by
 unfold z20 z2g
 have h0:=UInt64.toNat_lt a
 by_cases h:a.toNat≤247
 ·
  have h':decide (a≤247)=true:=by simpa [UInt64.le_iff_toNat_le] using h
  rw [if_pos h',if_pos h]
  congr 2
 ·
  have h':¬ decide (a≤247)=true:=by simpa [UInt64.le_iff_toNat_le] using h
  rw [if_neg h',if_neg h]
  have hd:=zo7 a.toNat h0
  rw [z100 a.toNat a [] a.toNat rfl rfl hd]
  simp only [bs]
  rw [z1c (show -9223372036854775808≤((z3s a.toNat).length:Int) - 1 by omega) (by omega),z1c (show -9223372036854775808≤247+((z3s a.toNat).length:Int) by omega) (by omega)]
  rw [zri _ hd _ _ (Nat.le_refl _) (by simp; omega)]
  simp only [bs,List.take_length]
  rw [show (247+((z3s a.toNat).length:Int))=((247+(z3s a.toNat).length:Nat):Int) by omega]
  congr 1
  show _::_=_
  congr 1
  apply UInt8.toNat_inj.1
  simp [UInt8.ofInt]
  omega
theorem zwg (a:UInt64) (k:Nat) (hk:k=(z3s a.toNat).length) (hk8:k≤8):iter (zdg a (k:Int)) (ze2 a.toNat 0,0)=some (ze2 a.toNat k):=by
 refine z2a k (fun i=>(ze2 a.toNat i,(i:Int))) (fun i hi=>?_) ?_
 ·
  have hf:=zue a.toNat i (by omega)
  unfold zdg
  rw [if_pos (by simp; omega)]
  simp only [z1c (show -9223372036854775808≤8 * (i:Int) by omega) (by omega),z3w (show (0:Int)≤8 * (i:Int) by omega),bs,z1c (show -9223372036854775808≤(k:Int) - (i:Int) by omega) (by omega),z0e (show i<9223372036854775807 by omega)]
  rw [z15i (by omega) (by omega)]
  simp only [bs]
  have:=zrr a.toNat i (by omega)
  rw [← this]
  have e1:((k:Int) - (i:Int)).toNat=(z3s a.toNat).length - i:=by omega
  have e2:(z8r a (8 * (i:Int)).toNat).toUInt8=UInt8.ofNat (a.toNat / 2 ^ (8 * i)):=by
   apply UInt8.toNat_inj.1
   have e3:(8 * (i:Int)).toNat=8 * i:=by omega
   rw [e3]
   simp only [UInt64.toNat_toUInt8,zel,Nat.min_eq_left (show 8 * i≤64 by omega)]
   simp
  rw [e1,e2]
 ·
  unfold zdg
  rw [if_neg (by simp)]
theorem zif (a:UInt64) (k:Nat) (hk:k<64):(z8r a k).toNat=a.toNat / 2 ^ k:=by rw [zel,Nat.min_eq_left (by omega)]
set_option maxRecDepth 100000 in
theorem z11g (a:UInt64):zcr a=some (z88 a.toNat:Int):=by
 unfold zcr
 have h0:=UInt64.toNat_lt a
 have s1:∃ (y:UInt64) (n:Nat),(if decide (4294967296≤a) then some (z8r a 32,(32:Int)) else some (a,0))=some (y,(n:Int))∧y.toNat<2 ^ 32∧n≤32∧z88 a.toNat=n+z88 y.toNat:=by
  by_cases h:4294967296≤a.toNat
  ·
   refine ⟨z8r a 32,32, by rw [if_pos (by simpa [UInt64.le_iff_toNat_le] using h)]; rfl,?_, by omega,?_⟩
   ·
    rw [zif a 32 (by omega)]; omega
   ·
    rw [zif a 32 (by omega)]; exact zfj _ 32 (by omega)
  ·
   exact ⟨a,0, by rw [if_neg (by simpa [UInt64.le_iff_toNat_le] using h)]; rfl, by omega, by omega, by omega⟩
 obtain ⟨y,n,e1,hy,hn,hb⟩:=s1
 rw [e1]; simp only [bs]
 have s2:∃ (z:UInt64) (k:Nat),(if decide (65536≤y) then some (z8r y 16) >>= fun y5=>some (w64 ((n:Int)+16)) >>= fun y6=>some (y5,y6) else some (y,(n:Int)))=some (z,(k:Int))∧z.toNat<2 ^ 16∧k≤48∧z88 a.toNat=k+z88 z.toNat:=by
  by_cases h:65536≤y.toNat
  ·
   refine ⟨z8r y 16,n+16, by rw [if_pos (by simpa [UInt64.le_iff_toNat_le] using h)]; simp only [bs,z1c (show -9223372036854775808≤(n:Int)+16 by omega) (by omega)]; rfl,?_, by omega,?_⟩
   ·
    rw [zif y 16 (by omega)]; omega
   ·
    rw [zif y 16 (by omega),hb,zfj y.toNat 16 (by omega)]; omega
  ·
   exact ⟨y,n, by rw [if_neg (by simpa [UInt64.le_iff_toNat_le] using h)], by omega, by omega,hb⟩
 obtain ⟨z,k,e2,hz,hk,hb2⟩:=s2
 simp only [bs] at e2
 rw [e2]; simp only [bs]
 have s3:∃ (x:UInt64) (j:Nat),(if decide (256≤z) then some (w64 ((k:Int)+8)) >>= fun y9=>some (z8r z 8,y9) else some (z,(k:Int)))=some (x,(j:Int))∧x.toNat<256∧j≤56∧z88 a.toNat=j+z88 x.toNat:=by
  by_cases h:256≤z.toNat
  ·
   refine ⟨z8r z 8,k+8, by rw [if_pos (by simpa [UInt64.le_iff_toNat_le] using h)]; simp only [bs,z1c (show -9223372036854775808≤(k:Int)+8 by omega) (by omega)]; rfl,?_, by omega,?_⟩
   ·
    rw [zif z 8 (by omega)]; omega
   ·
    rw [zif z 8 (by omega),hb2,zfj z.toNat 8 (by omega)]; omega
  ·
   exact ⟨z,k, by rw [if_neg (by simpa [UInt64.le_iff_toNat_le] using h)], by omega, by omega,hb2⟩
 obtain ⟨x,j,e3,hx,hj,hb3⟩:=s3
 simp only [bs] at e3
 rw [e3]; simp only [bs]
 have ht:=z116 ⟨x.toNat,hx⟩
 have hx8:(x.toUInt8.toNat:Int)=((x.toNat:Nat):Int):=by simp; omega
 have hle:z88 x.toNat≤8:=zl2 _ 8 (by omega)
 rw [hx8]
 have hlist:∀ (l:List UInt8),l=z112.data.toList→idx l ((x.toNat:Nat):Int)=some (UInt8.ofNat (z88 x.toNat)):=fun l hl=>by
  subst hl
  unfold idx
  rw [if_pos (by omega)]
  simpa using ht
 refine Eq.trans (congrArg (fun o:Option UInt8=>o >>= fun x10=>some (w64 ((j:Int)+(x10.toNat:Int)))) (hlist _ ?hh)) ?_
 case hh=>rfl
 simp only [bs]
 have e4:((UInt8.ofNat (z88 x.toNat)).toNat:Int)=(z88 x.toNat:Int):=by simp; omega
 rw [e4,z1c (by omega) (by omega),hb3]
 simp
theorem z7n (a:UInt64):z4t a=some (z2g a.toNat):=by
 unfold z4t
 have h0:=UInt64.toNat_lt a
 by_cases h:a.toNat≤247
 ·
  have h':decide (a≤247)=true:=by simpa [UInt64.le_iff_toNat_le] using h
  unfold z2g
  rw [if_pos h',if_pos h]
  congr 2
 ·
  have h':¬ decide (a≤247)=true:=by simpa [UInt64.le_iff_toNat_le] using h
  rw [if_neg h',z11g]
  have hd:=zo7 a.toNat h0
  have hl:=zpw a.toNat
  have hb:z88 a.toNat≤64:=zl2 _ 64 h0
  simp only [bs]
  rw [z1c (show -9223372036854775808≤(z88 a.toNat:Int)+7 by omega) (by omega)]
  have e1:Int.tdiv ((z88 a.toNat:Int)+7) 8=((z3s a.toNat).length:Int):=by
   rw [hl, show ((z88 a.toNat:Int)+7)=((z88 a.toNat+7:Nat):Int) by omega]
   rfl
  rw [e1,z1c (show -9223372036854775808≤((z3s a.toNat).length:Int) by omega) (by omega),z0e (by omega),zja (by omega) (by omega)]
  simp only [bs]
  rw [show (0:Int)=((0:Nat):Int) from rfl,z0a (by simp)]
  simp only [bs,Int.toNat_natCast]
  rw [z1c (show -9223372036854775808≤247+((z3s a.toNat).length:Int) by omega) (by omega)]
  have e2:UInt8.ofInt (247+((z3s a.toNat).length:Int))=UInt8.ofNat (247+(z3s a.toNat).length):=by
   apply UInt8.toNat_inj.1
   rw [show (247+((z3s a.toNat).length:Int))=((247+(z3s a.toNat).length:Nat):Int) by omega]
   simp [UInt8.ofInt]
   omega
  have:=zsg a.toNat
  rw [e2,this]
  have:=zwg a (z3s a.toNat).length rfl hd
  rw [show (0:Int)=((0:Nat):Int) from rfl] at this
  rw [this]
  simp only [bs]
  rw [zs5 a.toNat (by omega)]
end
section
open Go
theorem okV3 {v:z09} (h:okV v=true) (k:v.Kind=3):v.Num=0∧v.Bits=0∧v.Text.length≤30∧v.Text.all okb=true:=by
 unfold okV at h; rw [if_neg (by rw [k]; decide),if_neg (by rw [k]; decide),if_pos k] at h
 simp only [Bool.and_eq_true,decide_eq_true_eq] at h
 exact ⟨h.1.1.1,h.1.1.2,h.1.2,h.2⟩
theorem zqa {v:z09} (h:okV v=true):v.Kind=1∨v.Kind=2∨v.Kind=3:=by
 by_cases h1:v.Kind=1
 ·
  exact .inl h1
 by_cases h2:v.Kind=2
 ·
  exact .inr (.inl h2)
 by_cases h3:v.Kind=3
 ·
  exact .inr (.inr h3)
 ·
  unfold okV at h; simp [h1,h2,h3] at h
theorem z11p (x:UInt64):(x ^^^ 18446744073709551615).toNat=18446744073709551615 - x.toNat:=by
 have e:x ^^^ 18446744073709551615 = ~~~x:=by
  apply UInt64.eq_of_toBitVec_eq
  rw [UInt64.toBitVec_xor,UInt64.toBitVec_not]
  exact BitVec.xor_allOnes
 rw [e,UInt64.toNat_not]; rfl
theorem zf3 (n:Int):(UInt64.ofInt n).toNat=(n % 18446744073709551616).toNat:=by
 simp [UInt64.ofInt]; omega
theorem z17j (n:Int) (h:inI n):((zqx (UInt64.ofInt n) 1) ^^^ (UInt64.ofInt (shrI n 63))).toNat=zig n:=by
 obtain ⟨h1,h2⟩:=h
 have es:(zqx (UInt64.ofInt n) 1).toNat=(n % 18446744073709551616).toNat * 2 % 18446744073709551616:=by
  rw [znw,zf3]; rfl
 by_cases h0:0≤n
 ·
  have e:shrI n 63=0:=by
   unfold shrI
   rw [show (2:Int) ^ (min 63 64)=9223372036854775808 from rfl,Int.fdiv_eq_ediv_of_nonneg _ (by omega)]; omega
  rw [e, show UInt64.ofInt 0=0 from rfl,UInt64.xor_zero,es]
  unfold zig; rw [if_pos h0]; omega
 ·
  have e:shrI n 63 = -1:=by
   unfold shrI
   rw [show (2:Int) ^ (min 63 64)=9223372036854775808 from rfl,Int.fdiv_eq_ediv_of_nonneg _ (by omega)]; omega
  rw [e, show UInt64.ofInt (-1)=18446744073709551615 from rfl,z11p,es]
  unfold zig; rw [if_neg h0]; omega
theorem zxm (n:Int) (h:inI n):zgr n=some (z2g (zig n)):=by
 unfold zgr
 rw [z7n,z17j n h]; rfl
theorem zo9 (s:List UInt8) (h:s.length≤10000):zd2 s=some (z2g s.length++s,0):=by
 unfold zd2
 rw [if_neg (by simp; omega),z7n]
 have e:(UInt64.ofInt (s.length:Int)).toNat=s.length:=by rw [zf3]; omega
 have:=z12 s.length (by omega)
 simp only [bs,e]
 rw [z1f (by omega)]; rfl
def be8 (b:UInt64):List UInt8:=[(z8r b 56).toUInt8,(z8r b 48).toUInt8,(z8r b 40).toUInt8,(z8r b 32).toUInt8,(z8r b 24).toUInt8,(z8r b 16).toUInt8,(z8r b 8).toUInt8,(z8r b 0).toUInt8]
theorem z10r (v:z09) (l:List UInt8) (k:Nat) (hl:l.length≤100) (hk:k≤56):zad v (l,(k:Int))=some (.inr (l++[(z8r v.Bits k).toUInt8],(k:Int) - 8)):=by
 unfold zad
 rw [if_pos (by simp)]
 simp only
 rw [z3w (by omega)]
 simp only [bs,Int.toNat_natCast]
 rw [z1f (by simp; omega)]
 simp only [bs]
 rw [z1c (by omega) (by omega)]
theorem z12x (v:z09):iter (zad v) ([v.Kind],56)=some (v.Kind::be8 v.Bits):=by
 have hs:=fun l k h1 h2=>z10r v l k h1 h2
 rw [show (56:Int)=((56:Nat):Int) from rfl,z2f (hs [v.Kind] 56 (by simp) (by omega))]
 simp only [List.cons_append,List.nil_append, show ((56:Nat):Int) - 8=((48:Nat):Int) from rfl]
 rw [z2f (hs _ 48 (by simp) (by omega))]
 simp only [List.cons_append,List.nil_append, show ((48:Nat):Int) - 8=((40:Nat):Int) from rfl]
 rw [z2f (hs _ 40 (by simp) (by omega))]
 simp only [List.cons_append,List.nil_append, show ((40:Nat):Int) - 8=((32:Nat):Int) from rfl]
 rw [z2f (hs _ 32 (by simp) (by omega))]
 simp only [List.cons_append,List.nil_append, show ((32:Nat):Int) - 8=((24:Nat):Int) from rfl]
 rw [z2f (hs _ 24 (by simp) (by omega))]
 simp only [List.cons_append,List.nil_append, show ((24:Nat):Int) - 8=((16:Nat):Int) from rfl]
 rw [z2f (hs _ 16 (by simp) (by omega))]
 simp only [List.cons_append,List.nil_append, show ((16:Nat):Int) - 8=((8:Nat):Int) from rfl]
 rw [z2f (hs _ 8 (by simp) (by omega))]
 simp only [List.cons_append,List.nil_append, show ((8:Nat):Int) - 8=((0:Nat):Int) from rfl]
 rw [z2f (hs _ 0 (by simp) (by omega))]
 simp only [List.cons_append,List.nil_append]
 refine z1z ?_
 unfold zad
 rw [if_neg (by simp)]; rfl
def encV (v:z09):List UInt8:=v.Kind::(if v.Kind=1 then z2g (zig v.Num) else if v.Kind=2 then be8 v.Bits else z2g v.Text.length++v.Text)
theorem zyv {n:Int} (h:inI n):zig n<18446744073709551616:=z16d h.1 h.2
theorem z16g (v:z09) (hI:inI v.Num) (hl:v.Text.length≤9223372036854775807):zff v=some (if okV v then (encV v,0) else ([],8)):=by
 unfold zff
 rw [zsa v hl]
 cases hv:okV v
 ·
  rfl
 simp only [bs,if_true]
 rw [if_neg (by simp)]
 unfold encV
 rcases zqa hv with k | k | k
 ·
  have h1:=z12 (zig v.Num) (zyv hI)
  rw [k,zxm v.Num hI]
  simp only [bs]
  rw [if_pos (by decide),z1f (by simp; omega)]; simp [bs]
 ·
  rw [k,if_neg (by decide),if_pos (by decide),if_neg (by decide),if_pos rfl,← k,z12x]; rfl
 ·
  have h3:=(okV3 hv k).2.2.1
  have h1:=z12 v.Text.length (by omega)
  rw [k,zo9 v.Text (by omega)]
  rw [if_neg (by decide),if_neg (by decide),if_pos (by decide),if_neg (by decide),if_neg (by decide),z3w (by omega)]
  simp only [bs]
  rw [z1f (by simp; omega)]; rfl
theorem zsj (n:Int) (h:inI n):zal n=some (z2g (zig n)):=by
 obtain ⟨h1,h2⟩:=h
 unfold zal
 by_cases h0:0≤n
 ·
  rw [if_pos (by simpa using h0),z7p]
  have e:(2 * UInt64.ofInt n).toNat=zig n:=by
   rw [UInt64.toNat_mul,zf3, show (2:UInt64).toNat=2 from rfl]
   unfold zig; rw [if_pos h0]; omega
  rw [e]; rfl
 ·
  rw [if_neg (by simpa using h0),z7p]
  have e:((2 * UInt64.ofInt (w64 (0 - (w64 (n+1)))))+1).toNat=zig n:=by
   rw [z1c (x:=n+1) (by omega) (by omega),z1c (by omega) (by omega),UInt64.toNat_add,UInt64.toNat_mul,zf3, show (2:UInt64).toNat=2 from rfl, show (1:UInt64).toNat=1 from rfl]
   unfold zig; rw [if_neg h0]; omega
  rw [e]; rfl
theorem zm3 (s:List UInt8) (h:s.length≤100000):z6g s=some (z2g s.length++s):=by
 unfold z6g
 rw [z7p]
 have e:(UInt64.ofInt (s.length:Int)).toNat=s.length:=by rw [zf3]; omega
 have:=z12 s.length (by omega)
 rw [e]
 simp only [bs]
 rw [z1f (by omega)]; rfl
theorem zz9 (v:z09) (l:List UInt8) (k:Nat) (hl:l.length≤100) (hk:k≤7):z6c v (l,(k:Int))=some (.inr (l++[(z8r v.Bits (8 * k)).toUInt8],(k:Int) - 1)):=by
 unfold z6c
 rw [if_pos (by simp)]
 simp only
 have e:w64 (8 * (k:Int))=((8 * k:Nat):Int):=by rw [z1c (by omega) (by omega)]; omega
 rw [e,z3w (by omega)]
 simp only [bs,Int.toNat_natCast]
 rw [z1f (by simp; omega)]
 simp only [bs]
 rw [z1c (by omega) (by omega)]
theorem z11j (v:z09):iter (z6c v) ([v.Kind],7)=some (v.Kind::be8 v.Bits):=by
 have hs:=fun l k h1 h2=>zz9 v l k h1 h2
 rw [show (7:Int)=((7:Nat):Int) from rfl,z2f (hs [v.Kind] 7 (by simp) (by omega))]
 simp only [List.cons_append,List.nil_append, show ((7:Nat):Int) - 1=((6:Nat):Int) from rfl]
 rw [z2f (hs _ 6 (by simp) (by omega))]
 simp only [List.cons_append,List.nil_append, show ((6:Nat):Int) - 1=((5:Nat):Int) from rfl]
 rw [z2f (hs _ 5 (by simp) (by omega))]
 simp only [List.cons_append,List.nil_append, show ((5:Nat):Int) - 1=((4:Nat):Int) from rfl]
 rw [z2f (hs _ 4 (by simp) (by omega))]
 simp only [List.cons_append,List.nil_append, show ((4:Nat):Int) - 1=((3:Nat):Int) from rfl]
 rw [z2f (hs _ 3 (by simp) (by omega))]
 simp only [List.cons_append,List.nil_append, show ((3:Nat):Int) - 1=((2:Nat):Int) from rfl]
 rw [z2f (hs _ 2 (by simp) (by omega))]
 simp only [List.cons_append,List.nil_append, show ((2:Nat):Int) - 1=((1:Nat):Int) from rfl]
 rw [z2f (hs _ 1 (by simp) (by omega))]
 simp only [List.cons_append,List.nil_append, show ((1:Nat):Int) - 1=((0:Nat):Int) from rfl]
 rw [z2f (hs _ 0 (by simp) (by omega))]
 simp only [List.cons_append,List.nil_append]
 refine z1z ?_
 unfold z6c
 rw [if_neg (by simp)]; rfl
theorem zym (v:z09) (hI:inI v.Num) (hv:okV v=true):zbr v=some (encV v):=by
 unfold encV zbr
 rcases zqa hv with k | k | k
 ·
  have h1:=z12 (zig v.Num) (zyv hI)
  rw [k,zsj v.Num hI]
  simp only [bs]
  rw [if_pos (by decide),z1f (by simp; omega)]; simp [bs]
 ·
  rw [k,if_neg (by decide),if_pos (by decide),if_neg (by decide),if_pos rfl,← k,z11j]; rfl
 ·
  have h3:=(okV3 hv k).2.2.1
  have h1:=z12 v.Text.length (by omega)
  rw [k,zm3 v.Text (by omega)]
  rw [if_neg (by decide),if_neg (by decide),if_neg (by decide),if_neg (by decide),z3w (by omega)]
  simp only [bs]
  rw [z1f (by simp; omega)]; rfl
end
section
open Go
theorem z123 (a b:V3):∀ (n i:Nat),32 - i=n→i≤32→∃ r:Sum Int Unit,iter (z8f a b) (i:Int)=some r∧(z61 (some r) (fun _=>some 0)=some (Lib.compareBytes (a.toList.drop i) (b.toList.drop i))):=by
 intro n
 induction n with
 | zero =>
  intro i hn hi
  have:i=32:=by omega
  subst this
  refine ⟨.inr (),z1z ?_,?_⟩
  ·
   unfold z8f; rw [if_neg (by simp)]
  ·
   rw [List.drop_eq_nil_of_le (by simp),List.drop_eq_nil_of_le (by simp)]; rfl
 | succ n ih =>
  intro i hn hi
  have hlt:i<32:=by omega
  have da:a.toList.drop i=a[i]::a.toList.drop (i+1):=by rw [List.drop_eq_getElem_cons (by simpa using hlt)]; simp
  have db:b.toList.drop i=b[i]::b.toList.drop (i+1):=by rw [List.drop_eq_getElem_cons (by simpa using hlt)]; simp
  have hF:z8f a b (i:Int)=if decide (a[i]<b[i]) then some (.inl (.inl (-1))) else if decide (b[i]<a[i]) then some (.inl (.inl 1)) else some (.inr ((i+1:Nat):Int)):=by
   unfold z8f
   rw [if_pos (by simp; omega)]
   simp only [zbq hlt,bs,z0e (show i<9223372036854775807 by omega)]
  rw [da,db,Lib.compareBytes]
  by_cases h1:a[i]<b[i]
  ·
   rw [decide_eq_true h1] at hF
   exact ⟨_,z1z hF, by rw [if_pos h1]; rfl⟩
  ·
   rw [decide_eq_false h1] at hF
   by_cases h2:b[i]<a[i]
   ·
    rw [decide_eq_true h2] at hF
    exact ⟨_,z1z hF, by rw [if_neg h1,if_pos h2]; rfl⟩
   ·
    rw [decide_eq_false h2] at hF
    obtain ⟨r,k1,k2⟩:=ih (i+1) (by omega) (by omega)
    exact ⟨r, by rw [z2f hF]; exact k1, by rw [if_neg h1,if_neg h2]; exact k2⟩
theorem zrg (a b:V3):z7y a b=some (Lib.compareBytes a.toList b.toList):=by
 obtain ⟨r,h1,h2⟩:=z123 a b 32 0 rfl (by omega)
 unfold z7y
 rw [show (0:Int)=((0:Nat):Int) from rfl,h1]
 simpa using h2
theorem ztn (a b:V3):z9k a b=some (Lib.compareBytes a.toList b.toList):=by
 unfold z9k zh4; rfl
def z7k:List V3→Bool
 | a::b::l=>!decide (0≤Lib.compareBytes a.toList b.toList)&&z7k (b::l)
 | _=>true
theorem znv (l:List V3) (hl:l.length≤9223372036854775807):∀ (n i:Nat),l.length - i=n→1≤i→i≤l.length→iter (z4n l) (i:Int)=some (if z7k (l.drop (i - 1)) then .inr () else .inl false):=by
 intro n
 induction n with
 | zero =>
  intro i hn h1 hi
  have:i=l.length:=by omega
  refine z1z ?_
  have e:l.drop (i - 1)=[l[i - 1]'(by omega)]:=by
   rw [List.drop_eq_getElem_cons (by omega),List.drop_eq_nil_of_le (by omega)]
  rw [e]
  unfold z4n
  rw [if_neg (by simp; omega)]
  simp [z7k]
 | succ n ih =>
  intro i hn h1 hi
  have hlt:i<l.length:=by omega
  have e:l.drop (i - 1)=l[i - 1]::l[i]::l.drop (i+1):=by
   rw [List.drop_eq_getElem_cons (by omega), show i - 1+1=i by omega,List.drop_eq_getElem_cons hlt]
  have e':l.drop (i+1 - 1)=l[i]::l.drop (i+1):=by rw [Nat.add_sub_cancel,List.drop_eq_getElem_cons hlt]
  have hF:z4n l (i:Int)=if decide (0≤Lib.compareBytes (l[i - 1]).toList (l[i]).toList) then some (.inl (.inl false)) else some (.inr ((i+1:Nat):Int)):=by
   unfold z4n
   rw [if_pos (by simp; omega),z1c (by omega) (by omega), show ((i:Int) - 1)=((i - 1:Nat):Int) by omega]
   simp only [z0a hlt,z0a (show i - 1<l.length by omega),bs,zrg,z0e (show i<9223372036854775807 by omega)]
  rw [e,z7k]
  cases hc:decide (0≤Lib.compareBytes (l[i - 1]).toList (l[i]).toList) with
  | true=>rw [hc] at hF; rw [z1z hF]; rfl
  | false =>
   rw [hc] at hF
   rw [z2f hF,ih (i+1) (by omega) (by omega) (by omega),e']; simp
theorem zo4 (l:List V3) (hl:l.length≤9223372036854775807):z4w l=some (z7k l):=by
 unfold z4w
 cases l with
 | nil =>
  rw [z1z (b:=.inr ()) (by unfold z4n; rw [if_neg (by simp)])]; rfl
 | cons x l =>
  have:=znv (x::l) hl _ 1 rfl (by omega) (by simp)
  rw [show (1:Int)=((1:Nat):Int) from rfl,this]
  simp only [Nat.sub_self,List.drop_zero]
  cases z7k (x::l) <;> rfl
theorem zsd (l:List V3) (hl:l.length≤9223372036854775806):∀ (n i:Nat),l.length - i=n→i≤l.length→∃ r,iter (z0t l l) ((i:Int),(i:Int))=some r∧(z7k (l.drop i)=true→∃ c,r=.inr c)∧(z7k (l.drop i)=false→∃ (k:Nat) (c:Int),r=.inl ((k:Int),c)):=by
 intro n
 induction n with
 | zero =>
  intro i hn hi
  have:i=l.length:=by omega
  refine ⟨.inr (i:Int),z1z ?_, fun _=>⟨_,rfl⟩, fun h=>?_⟩
  ·
   unfold z0t
   rw [if_neg (by simp; omega)]
  ·
   rw [List.drop_eq_nil_of_le (by omega)] at h; simp [z7k] at h
 | succ n ih =>
  intro i hn hi
  have hlt:i<l.length:=by omega
  by_cases h2:i+1<l.length
  ·
   have e:l.drop i=l[i]::l[i+1]::l.drop (i+2):=by rw [List.drop_eq_getElem_cons hlt,List.drop_eq_getElem_cons h2]
   have e':l.drop (i+1)=l[i+1]::l.drop (i+2):=by rw [List.drop_eq_getElem_cons h2]
   have hF:z0t l l ((i:Int),(i:Int))=if decide (0≤Lib.compareBytes (l[i]).toList (l[i+1]).toList) then some (.inl (.inl ((i:Int),((i+1:Nat):Int)))) else some (.inr (((i+1:Nat):Int),((i+1:Nat):Int))):=by
    unfold z0t ze8
    rw [if_pos (by simp; omega)]
    simp only [z0a hlt,bs,z0e (show i<9223372036854775807 by omega)]
    rw [if_pos (by simp; omega),z1c (by omega) (by omega), show ((i+1:Nat):Int) - 1=(i:Int) by omega]
    simp only [z0a hlt,z0a h2,bs,ztn]
   rw [e,z7k]
   cases hc:decide (0≤Lib.compareBytes (l[i]).toList (l[i+1]).toList) with
   | true =>
    rw [hc] at hF
    exact ⟨_,z1z hF, fun h=>by simp at h, fun _=>⟨i,_,rfl⟩⟩
   | false =>
    rw [hc] at hF
    obtain ⟨r,k1,k2,k3⟩:=ih (i+1) (by omega) (by omega)
    rw [e'] at k2 k3
    exact ⟨r, by rw [z2f hF]; exact k1, fun h=>k2 (by simpa using h), fun h=>k3 (by simpa using h)⟩
  ·
   have e:l.drop i=[l[i]]:=by rw [List.drop_eq_getElem_cons hlt,List.drop_eq_nil_of_le (by omega)]
   have hF:z0t l l ((i:Int),(i:Int))=some (.inr (((i+1:Nat):Int),((i+1:Nat):Int))):=by
    unfold z0t ze8
    rw [if_pos (by simp; omega)]
    simp only [z0a hlt,bs,z0e (show i<9223372036854775807 by omega)]
    rw [if_neg (by simp; omega)]
    simp only [bs]; rfl
   obtain ⟨r,k1,k2,k3⟩:=ih (i+1) (by omega) (by omega)
   rw [List.drop_eq_nil_of_le (by omega)] at k2 k3
   exact ⟨r, by rw [z2f hF]; exact k1, fun _=>k2 rfl, fun h=>by rw [e] at h; simp [z7k] at h⟩
theorem zw5 (l:List V3) (hl:l.length≤9223372036854775806):zgl l=some (z7k l):=by
 obtain ⟨r,k1,k2,k3⟩:=zsd l hl _ 0 rfl (by omega)
 unfold zgl z2s z34
 rw [show ((0:Int),(0:Int))=(((0:Nat):Int),((0:Nat):Int)) from rfl,k1]
 simp only [List.drop_zero] at k2 k3
 cases h:z7k l with
 | true=>obtain ⟨c,rfl⟩:=k2 h; rfl
 | false =>
  obtain ⟨k,c,rfl⟩:=k3 h
  simp only [zzk,bs]
  rw [decide_eq_true (by omega)]; rfl
def zr9 (l:List V3):List UInt8:=l.flatMap Vector.toList
theorem zkt (l:List V3):(zr9 l).length=32 * l.length:=by
 induction l with
 | nil=>rfl
 | cons x l ih=>unfold zr9 at ih ⊢; rw [List.flatMap_cons,List.length_append,ih]; simp; omega
theorem zrj (l:List V3) (i:Nat) (hi:i<l.length):zr9 (l.take (i+1))=zr9 (l.take i)++(l[i]).toList:=by
 rw [List.take_add_one,List.getElem?_eq_getElem hi]; unfold zr9; rw [List.flatMap_append,Option.toList_some,List.flatMap_cons,List.flatMap_nil,List.append_nil]
theorem z156 (l:List V3) (h:l.length≤1000) (s:List UInt8) (hs:s.length≤9):iter (z7o l) (s,0)=some (s++zr9 l):=by
 have:=z2a (F:=z7o l) (b:=s++zr9 l) l.length (fun i=>(s++zr9 (l.take i),(i:Int))) (fun i hi=>?_) ?_
 ·
  simpa [zr9] using this
 ·
  unfold z7o
  have hf:=zkt (l.take i)
  rw [if_pos (by simp; omega)]
  simp only [z0a hi,bs]
  rw [z1f (by simp at hf ⊢; omega)]
  simp only [bs,z0e (show i<9223372036854775807 by omega),zrj l i hi,List.append_assoc]
 ·
  unfold z7o
  rw [if_neg (by simp)]
  simp
theorem z16t (l:List V3) (h:l.length≤1000) (s:List UInt8) (hs:s.length≤9):iter (zew l) (s,0)=some (s++zr9 l):=by
 have:=z2a (F:=zew l) (b:=s++zr9 l) l.length (fun i=>(s++zr9 (l.take i),(i:Int))) (fun i hi=>?_) ?_
 ·
  simpa [zr9] using this
 ·
  unfold zew
  have hf:=zkt (l.take i)
  rw [if_pos (by simp; omega)]
  simp only [z0a hi,bs]
  rw [z1f (by simp at hf ⊢; omega)]
  simp only [bs,z0e (show i<9223372036854775807 by omega),zrj l i hi,List.append_assoc]
 ·
  unfold zew
  rw [if_neg (by simp)]
  simp
theorem zic {n:Nat} (h:n<18446744073709551616):(UInt64.ofInt (n:Int)).toNat=n:=by
 simp [UInt64.ofInt]; omega
theorem z12m (l:List V3) (h:l.length≤1000):zab l=some (z2g l.length++zr9 l):=by
 unfold zab
 have hn:=z12 l.length (by omega)
 rw [z7p,zic (by omega)]
 simp only [bs]
 rw [z156 l h _ (by omega)]; rfl
theorem z14f (l:List V3) (h:l.length≤60) (hi:z7k l=true):zkm l=some (z2g l.length++zr9 l,0):=by
 unfold zkm
 have hn:=z12 l.length (by omega)
 rw [if_neg (by simp; omega),zw5 l (by omega),hi,z7n,zic (by omega)]
 simp only [bs,Bool.not_true,Bool.false_eq_true,if_false]
 rw [z16t l (by omega) _ (by omega)]; rfl
end
section
open Go
def nk:List UInt8→Nat
 | []=>0
 | a::l=>a.toNat * 256 ^ l.length+nk l
theorem zxw:∀ l:List UInt8,nk l<256 ^ l.length
 | []=>by simp [nk]
 | a::l=>by
  have ih:=zxw l
  have ha:=UInt8.toNat_lt a
  simp only [nk,List.length_cons,Nat.pow_succ]
  have h1:(a.toNat+1) * 256 ^ l.length≤256 * 256 ^ l.length:=Nat.mul_le_mul_right _ (by omega)
  rw [Nat.add_mul,Nat.one_mul] at h1
  omega
theorem z10i:∀ a b:List UInt8,a.length=b.length→Lib.compareBytes a b=(if nk a<nk b then -1 else if nk b<nk a then 1 else 0)∧(nk a=nk b→a=b)
 | [],[],_=>by simp [Lib.compareBytes,nk]
 | [],_::_,h=>by simp at h
 | _::_,[],h=>by simp at h
 | a::x,b::y,h=>by
  have hl:x.length=y.length:=by simpa using h
  obtain ⟨i1,i2⟩:=z10i x y hl
  have lx:=zxw x
  have ly:=zxw y
  simp only [Lib.compareBytes,nk,hl] at *
  have e:∀ u v:UInt8,u.toNat<v.toNat→u.toNat * 256 ^ y.length+256 ^ y.length≤v.toNat * 256 ^ y.length:=fun u v huv=>by
   have:=Nat.mul_le_mul_right (256 ^ y.length) (show u.toNat+1≤v.toNat from huv)
   rwa [Nat.add_mul,Nat.one_mul] at this
  by_cases h1:a<b
  ·
   have h1':a.toNat<b.toNat:=UInt8.lt_iff_toNat_lt.1 h1
   have:=e a b h1'
   rw [if_pos h1,if_pos (by omega)]
   exact ⟨rfl, fun h=>by omega⟩
  ·
   by_cases h2:b<a
   ·
    have h2':b.toNat<a.toNat:=UInt8.lt_iff_toNat_lt.1 h2
    have:=e b a h2'
    rw [if_neg h1,if_pos h2,if_neg (by omega),if_pos (by omega)]
    exact ⟨rfl, fun h=>by omega⟩
   ·
    have h3:a=b:=UInt8.toNat_inj.1 (by rw [UInt8.lt_iff_toNat_lt] at h1 h2; omega)
    subst h3
    rw [if_neg h1,if_neg h1,i1]
    refine ⟨?_, fun h=>by rw [i2 (by omega)]⟩
    by_cases c1:nk x<nk y
    ·
     rw [if_pos c1,if_pos (by omega)]
    ·
     by_cases c2:nk y<nk x
     ·
      rw [if_neg c1,if_pos c2,if_neg (by omega),if_pos (by omega)]
     ·
      rw [if_neg c1,if_neg c2,if_neg (by omega),if_neg (by omega)]
def kd (d:V3):Nat:=nk d.toList
theorem z115 (a b:V3):Lib.compareBytes a.toList b.toList=if kd a<kd b then -1 else if kd b<kd a then 1 else 0:=(z10i a.toList b.toList (by simp)).1
theorem zln {a b:V3} (h:kd a=kd b):a=b:=by
 have:=(z10i a.toList b.toList (by simp)).2 h
 exact Vector.toList_inj.1 this
theorem zv5 (a b:V3):z9k a b=some (if kd a<kd b then -1 else if kd b<kd a then 1 else 0):=by rw [ztn,z115]
theorem zty (a b:V3):z7y a b=some (if kd a<kd b then -1 else if kd b<kd a then 1 else 0):=by rw [zrg,z115]
theorem zq2 (a b:V3):decide ((if kd a<kd b then (-1:Int) else if kd b<kd a then 1 else 0)<0)=decide (kd a<kd b):=by
 by_cases h:kd a<kd b
 ·
  simp [h]
 ·
  by_cases h2:kd b<kd a <;> simp [h,h2]
theorem z13m (a b:V3):decide (0≤(if kd a<kd b then (-1:Int) else if kd b<kd a then 1 else 0))=decide (kd b≤kd a):=by
 by_cases h:kd a<kd b
 ·
  have:¬ kd b≤kd a:=by omega
  simp [h,this]
 ·
  have h3:kd b≤kd a:=by omega
  by_cases h2:kd b<kd a <;> simp [h,h2,h3]
theorem z17a (a b:V3):((if kd a<kd b then (-1:Int) else if kd b<kd a then 1 else 0)==0)=decide (a=b):=by
 by_cases h:kd a<kd b
 ·
  have:a≠b:=fun e=>by rw [e] at h; omega
  simp [h,this]
 ·
  by_cases h2:kd b<kd a
  ·
   have:a≠b:=fun e=>by rw [e] at h2; omega
   simp [h,h2,this]
  ·
   have:a=b:=zln (by omega)
   simp [h,h2,this]
theorem zv4:∀ l:List V3,z7k l=true↔∀ i (h:i+1<l.length),kd (l[i]'(by omega))<kd l[i+1]
 | []=>by simp [z7k]
 | [a]=>by simp [z7k]
 | a::b::l=>by
  have ih:=zv4 (b::l)
  rw [z7k,Bool.and_eq_true,ih,z115,z13m]
  constructor
  ·
   rintro ⟨h1,h2⟩ i hi
   cases i with
   | zero=>simpa using h1
   | succ i=>exact h2 i (by simpa using hi)
  ·
   intro h
   refine ⟨?_, fun i hi=>h (i+1) (by simpa using hi)⟩
   have:=h 0 (by simp)
   simpa using this
theorem zce:∀ l:List V3,z7k l=true↔l.Pairwise (fun a b=>kd a<kd b)
 | []=>by simp [z7k]
 | [a]=>by simp [z7k]
 | a::b::l=>by
  have ih:=zce (b::l)
  rw [z7k,Bool.and_eq_true,ih,z115,z13m]
  constructor
  ·
   rintro ⟨h1,h2⟩
   have h1':kd a<kd b:=by simpa using h1
   refine List.pairwise_cons.2 ⟨fun c hc=>?_,h2⟩
   rcases List.mem_cons.1 hc with rfl | hc
   ·
    exact h1'
   ·
    have:=(List.pairwise_cons.1 h2).1 c hc; omega
  ·
   intro h
   obtain ⟨h1,h2⟩:=List.pairwise_cons.1 h
   have:=h1 b (by simp)
   exact ⟨by simp; omega,h2⟩
theorem zyn (l:List V3) (hl:l.length≤9223372036854775807):∃ b,z1l l=some b∧(b=true↔∀ i (h:i+1<l.length),kd (l[i]'(by omega))≤kd l[i+1]):=by
 have key:∀ n,n<l.length→∃ r:Sum Bool Unit,iter (z11 l) (n:Int)=some r∧((r=.inr ()∧∀ i (h:i+1<l.length),i+1≤n→kd (l[i]'(by omega))≤kd l[i+1])∨(r=.inl false∧∃ i,∃ h:i+1<l.length,¬ kd (l[i]'(by omega))≤kd l[i+1])):=by
  intro n
  induction n with
  | zero =>
   intro h
   refine ⟨_,z1z ?_,.inl ⟨rfl, fun i _ h=>by omega⟩⟩
   unfold z11
   rw [if_neg (by simp)]
  | succ n ih =>
   intro h
   have hF:z11 l ((n+1:Nat):Int)=if decide (kd l[n+1]<kd l[n]) then some (.inl (.inl false)) else some (.inr (n:Int)):=by
    unfold z11
    rw [if_pos (by simp <;> omega),z0a h,z1c (by omega) (by omega), show (((n+1:Nat):Int) - 1)=(n:Int) by omega,z0a (by omega)]
    simp only [bS]
    rw [zv5]
    simp only [bS]
    rw [zq2]
   by_cases hc:kd l[n+1]<kd l[n]
   ·
    rw [decide_eq_true hc,if_pos rfl] at hF
    exact ⟨_,z1z hF,.inr ⟨rfl,n,h, by omega⟩⟩
   ·
    rw [decide_eq_false hc,if_neg (by simp)] at hF
    obtain ⟨r,h1,h2⟩:=ih (by omega)
    refine ⟨r, by rw [z2f hF]; exact h1,?_⟩
    rcases h2 with ⟨h2,h3⟩ | h2
    ·
     refine .inl ⟨h2, fun i hi hn=>?_⟩
     by_cases hin:i=n
     ·
      subst hin; omega
     ·
      exact h3 i hi (by omega)
    ·
     exact .inr h2
 unfold z1l
 simp only [bS]
 by_cases h0:l.length=0
 ·
  refine ⟨true,?_, by simp; intro i hi; omega⟩
  rw [h0,z1c (by omega) (by omega),z1z (b:=.inr ())]
  ·
   rfl
  ·
   unfold z11
   rw [if_neg (by simp)]
 ·
  obtain ⟨r,h1,h2⟩:=key (l.length - 1) (by omega)
  rw [z1c (by omega) (by omega), show ((l.length:Int) - 1)=((l.length - 1:Nat):Int) by omega,h1]
  rcases h2 with ⟨rfl,h3⟩ | ⟨rfl,i,hi,h3⟩
  ·
   exact ⟨true,rfl, by simp; exact fun i hi=>h3 i hi (by omega)⟩
  ·
   exact ⟨false,rfl, by simp; exact ⟨i,hi, by omega⟩⟩
theorem zqh {k n j:Nat} (h:j<n):subi k n (j:Int)=some (k+j):=by unfold subi; rw [if_pos (by omega)]; simp
theorem zu2 {α:Type} (b:List α) (k n:Nat) (x:α) (h:k+n≤b.length):(clr b k n x).length=b.length:=by
 unfold clr
 simp only [List.length_append,List.length_take,List.length_replicate,List.length_drop]; omega
theorem ztf (l:List V3) (s:Nat) (h1:1≤s) (hs:s<l.length) (hl:l.length≤9223372036854775806):∃ b:List V3 × Int,iter (z1a l s) (l,(s:Int),1)=some b∧b.1.length=l.length∧∃ j:Nat,b.2=(j:Int)∧j<l.length:=by
 refine z85 (F:=z1a l s) (l.length - s) (fun i st=>st.1.length=l.length∧st.2.2=(i:Int)∧1≤i∧∃ j:Nat,st.2.1=(j:Int)∧j+1≤s+i) _ ?_ ?_ _ 1 (by omega) ⟨rfl,rfl, by omega,s,rfl, by omega⟩
 ·
  rintro i ⟨c,j',i'⟩ hi ⟨e1,e2,e0,j,e3,e4⟩
  simp only at e1 e2 e3
  subst e2 e3
  unfold z1a
  rw [if_pos (by simp; omega)]
  simp only [Int.toNat_natCast]
  rw [zqh (by omega),z1c (x:=(i:Int) - 1) (by omega) (by omega), show ((i:Int) - 1)=((i - 1:Nat):Int) by omega,zqh (by omega)]
  simp only [bS]
  rw [z0a (by omega),z0a (by omega)]
  simp only [bS]
  by_cases hc:c[s+i]'(by omega)=c[s+(i - 1)]'(by omega)
  ·
   rw [decide_eq_true hc,if_neg (by simp)]
   exact ⟨_,rfl,e1,z0e (by omega), by omega,j,rfl, by omega⟩
  ·
   rw [decide_eq_false hc,if_pos (by simp),z0a (by omega)]
   simp only [bS]
   exact ⟨_,rfl, by simpa using e1,z0e (by omega), by omega,j+1,z0e (by omega), by omega⟩
 ·
  rintro ⟨c,j',i'⟩ ⟨e1,e2,e0,j,e3,e4⟩
  simp only at e1 e2 e3
  subst e2 e3
  unfold z1a
  rw [if_neg (by simp <;> omega)]
  exact ⟨_,rfl,e1,j,rfl, by omega⟩
theorem zx4 (l:List V3) (hl:l.length≤9223372036854775806):∃ c,z14 l=some c∧(c.length=l.length↔∀ i (h:i+1<l.length),l[i]'(by omega)≠l[i+1]):=by
 have key:∀ k n,l.length - n=k→1≤n→n≤l.length→∃ r:Sum (List V3) Unit,iter (z0m l) (n:Int)=some r∧((r=.inr ()∧∀ i (h:i+1<l.length),n≤i+1→l[i]'(by omega)≠l[i+1])∨(∃ c,r=.inl c∧c.length≠l.length∧∃ i,∃ h:i+1<l.length,l[i]'(by omega)=l[i+1])):=by
  intro k
  induction k with
  | zero =>
   intro n hk h1 hn
   refine ⟨_,z1z ?_,.inl ⟨rfl, fun i _ h=>by omega⟩⟩
   unfold z0m
   rw [if_neg (by simp; omega)]
  | succ k ih =>
   intro n hk h1 hn
   have hlt:n<l.length:=by omega
   by_cases hc:l[n]=l[n - 1]
   ·
    obtain ⟨⟨c,j'⟩,e1,e2,j,e3,e4⟩:=ztf l n h1 hlt hl
    simp only at e2 e3
    subst e3
    have hF:z0m l (n:Int)=some (.inl (.inl ((clr c j (c.length - j) (Vector.replicate 32 0)).take j))):=by
     unfold z0m
     rw [if_pos (by simp; omega),z0a hlt,z1c (by omega) (by omega), show ((n:Int) - 1)=((n - 1:Nat):Int) by omega,z0a (by omega)]
     simp only [bS]
     rw [decide_eq_true hc,if_pos rfl,z3w (by omega)]
     simp only [bS]
     rw [e1]
     simp only [bS]
     rw [z3w (by omega),z3w (by simp; omega)]
     simp only [bS,Int.toNat_natCast]
     rw [show (0:Int)=((0:Nat):Int) from rfl,zcw (by omega) (by rw [zu2 _ _ _ _ (by omega)]; omega)]
     simp
    refine ⟨_,z1z hF,.inr ⟨_,rfl,?_,n - 1, by omega,?_⟩⟩
    ·
     rw [List.length_take]; omega
    ·
     have:n - 1+1=n:=by omega
     simp only [this]; exact hc.symm
   ·
    have hF:z0m l (n:Int)=some (.inr ((n+1:Nat):Int)):=by
     unfold z0m
     rw [if_pos (by simp; omega),z0a hlt,z1c (x:=(n:Int) - 1) (by omega) (by omega), show ((n:Int) - 1)=((n - 1:Nat):Int) by omega,z0a (by omega)]
     simp only [bS]
     rw [decide_eq_false hc,if_neg (by simp),z0e (by omega)]
    obtain ⟨r,h2,h3⟩:=ih (n+1) (by omega) (by omega) (by omega)
    refine ⟨r, by rw [z2f hF]; exact h2,?_⟩
    rcases h3 with ⟨h3,h4⟩ | h3
    ·
     refine .inl ⟨h3, fun i hi hni=>?_⟩
     by_cases hin:i+1=n
     ·
      subst hin; exact fun e=>hc e.symm
     ·
      exact h4 i hi (by omega)
    ·
     exact .inr h3
 unfold z14
 by_cases h2:l.length<2
 ·
  rw [if_pos (by simp; omega)]
  exact ⟨l,rfl, by simp; intro i hi; omega⟩
 ·
  rw [if_neg (by simp; omega)]
  obtain ⟨r,e1,e2⟩:=key (l.length - 1) 1 rfl (by omega) (by omega)
  rw [show (1:Int)=((1:Nat):Int) from rfl,e1]
  rcases e2 with ⟨rfl,h3⟩ | ⟨c,rfl,h3,i,hi,h4⟩
  ·
   exact ⟨l,rfl, by simp; exact fun i hi=>h3 i hi (by omega)⟩
  ·
   exact ⟨c,rfl,⟨fun h=>absurd h h3, fun h=>absurd h4 (h i hi)⟩⟩
theorem z11z (l:List V3):z7k l=true↔(∀ i (h:i+1<l.length),kd (l[i]'(by omega))≤kd l[i+1])∧∀ i (h:i+1<l.length),l[i]'(by omega)≠l[i+1]:=by
 rw [zv4]
 constructor
 ·
  intro h
  refine ⟨fun i hi=>Nat.le_of_lt (h i hi), fun i hi e=>?_⟩
  have:=h i hi
  rw [e] at this; omega
 ·
  rintro ⟨h1,h2⟩ i hi
  have:=h1 i hi
  rcases Nat.lt_or_eq_of_le this with h | h
  ·
   exact h
  ·
   exact absurd (zln h) (h2 i hi)
end
section
open Go Go.Shelf Go.RowKit Go.Lib Go.Sort
def cfID (x y:V3):Int:=Lib.compareBytes x.toList y.toList
theorem ltID (x y:V3):ltOf cfID x y=decide (kd x<kd y):=by
 unfold ltOf cfID
 rw [z115,zq2]
theorem z16a:SWO (ltOf cfID) where
 irrefl x:=by rw [ltID]; simp
 trans x y z h1 h2:=by rw [ltID] at *; simp at *; omega
 ntrans x y z h1 h2:=by rw [ltID] at *; simp at *; omega
def zt1 (l:List V3):List V3:=l.mergeSort fun x y=>!(ltOf cfID) y x
theorem zlp (l:List V3):(zt1 l).length=l.length:=List.length_mergeSort l
theorem zs9 (l:List V3) (x:V3):x∈zt1 l↔x∈l:=List.mem_mergeSort
theorem zmv (l:List V3):(zt1 l).Pairwise fun x y=>kd x≤kd y:=by
 have h:=List.pairwise_mergeSort (le:=fun x y=>!(ltOf cfID) y x) (fun a b c h1 h2=>by
  rw [ltID] at *; simp at *; omega) (fun a b=>by rw [ltID,ltID]; simp; omega) l
 exact h.imp fun {a b} hab=>by rw [ltID] at hab; simp at hab; omega
def zp1 (l:List V3):Option (List V3):=chk (l.length≤1000000) >>= fun _=>some (zt1 l)
theorem z117 (p0:Value) (c0:List V3):z1w Tryz.prog 78 [.val p0,.val (.func (.func 105) #[] #[])] [(1,some (p0,.list (z3r 32 u8R) 62 c0))] (zp1 c0) (fun r nv=>⟨[],[(1,some (p0,.list (z3r 32 u8R) 62 r))]⟩):=by
 refine zve zt1 zlp (fun cap w=>?_) (fun blk cap d w hH hb hs=>?_) p0 c0
 ·
  exact AnyF.slices_SortFunc_none z128 none cap _ w
 ·
  have eg:∀ args w,(callFunc 105 args).run Tryz.prog w=.ok (.enter 105 args) w:=enters_of Tryz.func105 (by kernel_rfl) rfl
  exact AnyQ.slices_SortFunc_total z128 32 Tryz.isAgg62 Tryz.sizeOf62 z96 zg6 (fun x v hv=>by
   unfold z96 at hv
   obtain ⟨c,_,rfl⟩:=List.mem_map.1 hv
   rfl) cfID z16a 105 #[] blk 0 cap d w eg (fun m os dk _ x y=>zw9 x y _) hH hb hs (fun x y h1 h2=>by
   rw [ltID] at h1 h2
   simp at h1 h2
   exact zln (by omega))
theorem zrk (p0:Value) (c0:List V3):z1w Tryz.prog 78 [.val p0,.val (.func (.func 79) #[] #[])] [(1,some (p0,.list (z3r 32 u8R) 62 c0))] (zp1 c0) (fun r nv=>⟨[],[(1,some (p0,.list (z3r 32 u8R) 62 r))]⟩):=by
 refine zve zt1 zlp (fun cap w=>?_) (fun blk cap d w hH hb hs=>?_) p0 c0
 ·
  exact AnyF.slices_SortFunc_none z128 none cap _ w
 ·
  have eg:∀ args w,(callFunc 79 args).run Tryz.prog w=.ok (.enter 79 args) w:=enters_of Tryz.func79 (by kernel_rfl) rfl
  exact AnyQ.slices_SortFunc_total z128 32 Tryz.isAgg62 Tryz.sizeOf62 z96 zg6 (fun x v hv=>by
   unfold z96 at hv
   obtain ⟨c,_,rfl⟩:=List.mem_map.1 hv
   rfl) cfID z16a 79 #[] blk 0 cap d w eg (fun m os dk _ x y=>ztc x y _) hH hb hs (fun x y h1 h2=>by
   rw [ltID] at h1 h2
   simp at h1 h2
   exact zln (by omega))
end
section
open Go Go.RowKit
section
variable {ρ:Type} {C:World→World→Prop} {P:Program} {Γ:Ctx} {l:z2b} {res:Res} {d:Tmp} {ty:TypeId} {pos:String} {after:Array Edge} {g:Option (Nat × Bool)}
def z14v (b c:List UInt8):Bool:=Op.bytesLess b c
theorem z15k {ρ:Operand→Value} {w:World} {x y:Operand} {T T':TypeId} {s s':ByteArray} (hx:ρ x=(.string s)) (hy:ρ y=(.string s')) :
  (execOp ρ ⟨some d,.binOp .lss T x y T',ty,pos,after,g⟩).run P w=.ok (.value (.bool (Op.bytesLess s.toList s'.toList))) w:=(zie (by rw [hx,hy]; rfl) (by rw [hx,hy]; rfl))
theorem ltS {x y:Operand} {T T':TypeId} {b c:List UInt8} (hx:opE l x=some (.rd zkh b)) (hy:opE l y=some (.rd zkh c)):Run C P Γ l res ⟨some d,.binOp .lss T x y T',ty,pos,after,g⟩ (.rd z0g (z14v b c)):=fun _ w ha=>by
 obtain ⟨s,h1,rfl⟩:=zmt (ha.vl hx)
 obtain ⟨t,h2,rfl⟩:=zmt (ha.vl hy)
 exact ⟨_, fun w' _=>z15k h1 h2, by rw [zda,zda]; exact zdc⟩
end
end
section
open Go Go.RowKit
set_option maxRecDepth 100000
def z3e (a0:List V3) (a1:V3) (s3:Int):Option (Sum (Sum Int Unit) Int) :=
 if decide (s3<(a0.length:Int)) then
  idx a0 s3 >>= fun x5 =>
  if decide (a1=x5) then
   some (.inl (.inl s3))
  else
   some (.inr (w64 (s3+1)))
 else
  some (.inl (.inr ()))
def z75 (a0:List V3) (a1:V3):Option (Int) :=
 z61 (iter (z3e a0 a1) 0) fun s2 =>
 some (-1)
theorem ze3 (a0:List V3) (a1:V3):z1w Tryz.prog 115 [.rd (z02 aZ) a0,.rd aZ a1] [] (z75 a0 a1) (fun r nv=>⟨[.rd z0c r],[]⟩):=by
 refine z2e 19 Tryz.func115 Z Z Z fun H w=>?_
 refine gSR<|Eb Z (bx 1 Z) fun v1=>Zb Z<|z83 (fun (s2:Unit) aa ww=>Sta (ctx 19 H [] w) [] [] aa ww) ?_ (fun s2=>?_)
 ·
  refine gSR<|Zm Z<|Zq (z2w Z .rd Z tu22)<|Zm Z<|Zn<|z1v (fun (s3:Int) aa ww=>Sta (ctx 19 H [] w) [(0,.rd (z02 aZ) a0),(3,.val (z05 v1 0)),(7,.rd z0c (a0.length:Int)),(8,.rd z0c s3)] [(1,some (v1,.box 62 [.rd aZ a1]))] aa ww) (fun aa ww h=>Zu h [1]) (fun s3=>?_)
  refine gSR<|Zq (I.lss Z Z)<|Zn<|z0l<|gIf Z Z (fun h4=>?_) (fun h4=>?_)
  ·
   refine Zt<|z0l<|z49<|gSR<|Zm Z<|Zb Z<|z0l<|zgc mixed (by kernel_rfl)<|Rq Z (ld 1 Z Z fH z36 Z)<|Rq Z (mv Z)<|Rq Z (mv Z)<|z80 fun x5 h6=>Rq Z (ixR Z Z h6 tu22 z1g Z)<|Rq Z (ldR Z z36)<|Rq Z (eqA Z Z zut Z Z zuh)<|zov<|z0f<|gIf Z Z (fun h7=>?_) (fun h7=>?_)
   ·
    refine gSR<|Zm Z<|Zb Z<|z0i<|z47<|z0v<|z7z<|z5h<|Ze [] [] Z
   ·
    refine z29<|z2q<|z0f<|z1y<|Zq (I.add Z Z)<|Zm Z<|z1q<|z19 (fun aa ww h=>Zu h [1])
  ·
   refine z1k<|z0o<|z0r<|z4y (fun aa ww h=>Zu h [])
 ·
  refine gSR<|Zb Z<|z0i<|Ze [] [] Z
def z1u (a0:List V3) (a1:V3):Option (Bool) :=
 z75 a0 a1 >>= fun r2 =>
 some (decide (0≤r2)) >>= fun y4 =>
 some y4
theorem z2x (a0:List V3) (a1:V3):z1w Tryz.prog 77 [.rd (z02 aZ) a0,.rd aZ a1] [] (z1u a0 a1) (fun r nv=>⟨[.rd z0g r],[]⟩):=by
 refine z2e 9 Tryz.func77 Z Z Z fun H w=>?_
 refine gSR<|Eb Z (bx 1 Z) fun v1=>Zb Z<|gSR<|Zm Z<|Zq (ld 1 Z Z fH z36 Z)<|Zc [] [] Tryz.func115 Z (ze3 _ _) fun r2 n3=>Zq (I.geq Z Z)<|Za Z<|z1i 4 Z fun y4=>Zn<|z0i<|Ze [] [] Z
def zao (a0:V3) (c1_0:z00):Option (Bool) :=
 z1u c1_0.IDs a0 >>= fun r2 =>
 some r2
theorem zha (a0:V3) (p1_0:Value) (c1_0:z00):z1w Tryz.prog 76 [.rd aZ a0,.val (z05 p1_0 0)] [(1,some (p1_0,.box 25 [.rd z01 c1_0]))] (zao a0 c1_0) (fun r nv=>⟨[.rd z0g r],[(1,some (p1_0,.box 25 [.rd z01 c1_0]))]⟩):=by
 refine z2e 8 Tryz.func76 Z Z Z fun H w=>?_
 refine gSR<|Eb Z (bx 2 Z) fun v1=>Zb Z<|gSR<|Zq (faB 1 Z Z Tryz.underlying25 Z (by exact z4q))<|Zq (ld 1 Z Z (fP (z07 _)) z5j Z)<|Zq (ld 2 Z Z fH z36 Z)<|Zc [] [] Tryz.func77 Z (z2x _ _) fun r2 n3=>Zb Z<|z0i<|Ze [] [1] Z
def z6w (a0:List V3) (c1_0:z00) (s2:Int):Option (Sum (Sum Int Unit) Int) :=
 if decide (s2<(a0.length:Int)) then
  idx a0 s2 >>= fun x4 =>
  zao x4 c1_0 >>= fun r6 =>
  if r6 then
   some (.inl (.inl s2))
  else
   some (.inr (w64 (s2+1)))
 else
  some (.inl (.inr ()))
def z3z (a0:List V3) (c1_0:z00):Option (Int) :=
 z61 (iter (z6w a0 c1_0) 0) fun s1 =>
 some (-1)
theorem z6r (a0:List V3) (q0:Value) (l0:List V3) (p1_0:Value) (c1_0:z00):z1w Tryz.prog 114 [.vw aZ q0 l0 a0,.val (.func (.func 76) #[] #[z05 p1_0 0])] [(1,some (q0,.list aZ 62 l0)),(2,some (p1_0,.box 25 [.rd z01 c1_0]))] (z3z a0 c1_0) (fun r nv=>⟨[.rd z0c r],[(1,some (q0,.list aZ 62 l0)),(2,some (p1_0,.box 25 [.rd z01 c1_0]))]⟩):=by
 refine z2e 19 Tryz.func114 Z Z Z fun H w=>?_
 refine gSR<|Zb Z<|z83 (fun (s1:Unit) aa ww=>Sta (ctx 19 H [(1,some (q0,.list aZ 62 l0)),(2,some (p1_0,.box 25 [.rd z01 c1_0]))] w) [] [(1,some (q0,.list aZ 62 l0)),(2,some (p1_0,.box 25 [.rd z01 c1_0]))] aa ww) ?_ (fun s1=>?_)
 ·
  refine gSR<|Zm Z<|Zq (z2w Z (.vw 1 Z) Z tu22)<|Zm Z<|Zn<|z1v (fun (s2:Int) aa ww=>Sta (ctx 19 H [(1,some (q0,.list aZ 62 l0)),(2,some (p1_0,.box 25 [.rd z01 c1_0]))] w) [(0,.vw aZ q0 l0 a0),(1,.val (.func (.func 76) #[] #[z05 p1_0 0])),(7,.rd z0c (a0.length:Int)),(8,.rd z0c s2)] [(1,some (q0,.list aZ 62 l0)),(2,some (p1_0,.box 25 [.rd z01 c1_0]))] aa ww) (fun aa ww h=>Zu h [1,2]) (fun s2=>?_)
  refine gSR<|Zq (I.lss Z Z)<|Zn<|z0l<|gIf Z Z (fun h3=>?_) (fun h3=>?_)
  ·
   refine Zt<|z0l<|z49<|gSR<|Zm Z<|Zb Z<|gSR<|Zm Z<|Zm Z<|Zm Z<|z0j fun x4 h5=>Zq (ixQ 1 Z Z Z h5 tu22 z1g)<|Zq (ldQ 1 Z Z z36 Z)<|zhf [2] [(1,2)] (gd0 Z) Z Z Tryz.func76 Z Z (zha _ _ _) (Y1 Z) (cQ 2 Z<|cN) (y1 Z) fun r6 n7=>Zj Z (fun h8=>?_) (fun h8=>?_)
   ·
    refine gSR<|Zm Z<|Zb Z<|z0i<|z47<|z0v<|z7z<|z5h<|Ze [] [1,2] Z
   ·
    refine z29<|z2q<|z0f<|z1y<|Zq (I.add Z Z)<|Zm Z<|z1q<|z19 (fun aa ww h=>Zu h [1,2])
  ·
   refine z1k<|z0o<|z0r<|z4y (fun aa ww h=>Zu h [1,2])
 ·
  refine gSR<|Zb Z<|z0i<|Ze [] [1,2] Z
def z7t (c1_0:z00) (s5:(List V3) × Int × Int):Option (Sum ((List V3) × Int) ((List V3) × Int × Int)) :=
 if decide (s5.2.2<(s5.1.length:Int)) then
  idx s5.1 s5.2.2 >>= fun x7 =>
  zao x7 c1_0 >>= fun r10 =>
  if !r10 then
   idx s5.1 s5.2.1 >>= fun x13 =>
   some (w64 (s5.2.1+1)) >>= fun y15 =>
   some (w64 (s5.2.2+1)) >>= fun y16 =>
   some (.inr (s5.1.set (s5.2.1:Int).toNat x7,y15,y16))
  else
   some (w64 (s5.2.2+1)) >>= fun y17 =>
   some (.inr (s5.1,s5.2.1,y17))
 else
  some (.inl (s5.1,s5.2.1))
def z23 (c0:List V3) (c1_0:z00):Option ((List V3)) :=
 z3z c0 c1_0 >>= fun r1 =>
 if r1==(-1) then
  some c0
 else
  (iter (z7t c1_0) (c0,r1,w64 (r1+1))) >>= fun s4 =>
  chk (0≤s4.2∧s4.2≤(s4.1.length:Int)∧(s4.1.length:Int)≤(s4.1.length:Int)) >>= fun u18 =>
  chk ((s4.2:Int).toNat+(((s4.1.length:Int):Int).toNat - (s4.2:Int).toNat)≤s4.1.length) >>= fun u20 =>
  cut (clr s4.1 ((s4.2:Int).toNat) (((s4.1.length:Int):Int).toNat - (s4.2:Int).toNat) (Vector.replicate 32 0)) 0 s4.2 >>= fun x22 =>
  some x22
theorem z7i (p0:Value) (c0:List V3) (p1_0:Value) (c1_0:z00):z1w Tryz.prog 75 [.val p0,.val (.func (.func 76) #[] #[z05 p1_0 0])] [(1,some (p0,.list aZ 62 c0)),(2,some (p1_0,.box 25 [.rd z01 c1_0]))] (z23 c0 c1_0) (fun r nv=>⟨[.val (nv 0)],[(2,some (p1_0,.box 25 [.rd z01 c1_0])),(100,some (nv 0,.list aZ 62 r))]⟩):=by
 refine z2e 42 Tryz.func75 Z Z Z fun H w=>?_
 refine gSR<|Zb Z<|gSR<|Zm Z<|Zm Z<|call [1,2] [(1,1),(2,2)] Z Tryz.func114 Z Z (z6r _ _ _ _ _) (aW Z<|aQ Z<|aN) (Zi Z<|Zi Z<|rN) fun r1 n2=>Zb Z<|z0l<|gSR<|Zm Z<|Zq (I.eql Z Z)<|Zj Z (fun h3=>?_) (fun h3=>?_)
 ·
  refine gSR<|Zm Z<|Zb Z<|z0i<|z0v<|Ze [p0] [2,1] Z
 ·
  refine Zt<|z5q (fun (s4:(List V3) × Int) aa ww=>Sta (ctx 42 H [(1,some (p0,.list aZ 62 c0)),(2,some (p1_0,.box 25 [.rd z01 c1_0]))] w) [(0,.val p0),(5,.rd z0c s4.2)] [(1,some (p0,.list aZ 62 s4.1)),(2,some (p1_0,.box 25 [.rd z01 c1_0]))] aa ww) ?_ (fun s4=>?_)
  ·
   refine gSR<|Zm Z<|Zq (I.add Z Z)<|Zb Z<|z1v (fun (s5:(List V3) × Int × Int) aa ww=>Sta (ctx 42 H [(1,some (p0,.list aZ 62 c0)),(2,some (p1_0,.box 25 [.rd z01 c1_0]))] w) [(0,.val p0),(1,.val (.func (.func 76) #[] #[z05 p1_0 0])),(5,.rd z0c s5.2.1),(6,.rd z0c s5.2.2)] [(1,some (p0,.list aZ 62 s5.1)),(2,some (p1_0,.box 25 [.rd z01 c1_0]))] aa ww) (fun aa ww h=>Zu h [1,2]) (fun s5=>?_)
   refine z0l<|gSR<|Zm Z<|Zm Z<|Zq (z2w Z (.own 1 Z) Z tu22)<|Zq (I.lss Z Z)<|Zj Z (fun h6=>?_) (fun h6=>?_)
   ·
    refine Zt<|z0l<|z49<|gSR<|Zm Z<|Zm Z<|z0j fun x7 h8=>Zq (ixO 1 Z Z Z h8 tu22 z1g)<|Zq (ld 1 Z Z (Foc.el h8) z36 Z)<|Eb Z (z52 3 z1g (.zr (R:=aZ) (x:=(Vector.replicate 32 0)) zf5)) fun v9=>Es (sto 3 Z Z fH Z z1g)<|Zn<|gSR<|Zm Z<|Zq (ld 3 Z Z fH z36 Z)<|zhf [2] [(1,2)] (gd0 Z) Z Z Tryz.func76 Z Z (zha _ _ _) (Y1 Z) (cQ 2 Z<|cN) (y1 Z) fun r10 n11=>Zq (zdi Z)<|Zj Z (fun h12=>?_) (fun h12=>?_)
    ·
     refine gSR<|Zm Z<|Zm Z<|Zq (ld 3 Z Z fH z36 Z)<|z0j fun x13 h14=>Zq (ixO 1 Z Z Z h14 tu22 z1g)<|Es (sto 1 Z Z (Foc.el h14) Z z1g)<|Zn<|z1y<|Zm Z<|Zq (I.add Z Z)<|Za Z<|z1i 5 Z fun y15=>z1q<|z2q<|z0f<|z1y<|Zm Z<|Zq (I.add Z Z)<|Za Z<|z1i 6 Z fun y16=>z1q<|z19 (fun aa ww h=>Zu h [1,2])
    ·
     refine z29<|z2q<|z0f<|z1y<|Zm Z<|Zq (I.add Z Z)<|Za Z<|z1i 6 Z fun y17=>z1q<|z19 (fun aa ww h=>Zu h [1,2])
   ·
    refine z1k<|z0o<|z0r<|z3b (fun aa ww h=>Zu h [1,2])
  ·
   refine gSR<|Zm Z<|Zm Z<|z0j fun u18 h19=>Zq (zwe 1 Z Z (.to Z) .no (z4e h19) tu22 z1g)<|z0j fun u20 h21=>EsV (clrS 1 Z Z (z4e h21) Z tu22 z1g zf5 Z)<|Zn<|gSR<|Zm Z<|Zm Z<|z0j fun x22 h23=>Ef Z (cutO 1 Z Z Z h23 tu22 z1g) fun v24=>Zb Z<|z0i<|Ze [v24] [2,1] Z
def zet (a0:z00) (a1:List V3):Option ((List V3)) :=
 z0w a1 >>= fun r2 =>
 z23 r2 a0 >>= fun r4 =>
 zp1 r4 >>= fun r6 =>
 z14 r6 >>= fun r8 =>
 some r8
theorem zp9 (a0:z00) (a1:List V3):z1w Tryz.prog 44 [.rd z01 a0,.rd (z02 aZ) a1] [] (zet a0 a1) (fun r nv=>⟨[.val (nv 0)],[(100,some (nv 0,.list aZ 62 r))]⟩):=by
 refine z2e 14 Tryz.func44 Z Z Z fun H w=>?_
 refine gSR<|Eb Z (bx 1 Z) fun v1=>Zb Z<|gSR<|Zm Z<|Zc [] [(100,2)] Tryz.func46 Z (z1t _) fun r2 n3=>Zq (mkf mp0 (mp1 Z))<|Zc [2,1] [(100,3),(2,1)] Tryz.func75 Z (z7i _ _ _ _) fun r4 n5=>Zb Z<|gSR<|Zm Z<|Zc [3] [(1,3)] Tryz.func78 Z (zrk _ _) fun r6 n7=>Zn<|gSR<|Zm Z<|Zc [3] [(100,4)] Tryz.func80 Z (z30 _ _) fun r8 n9=>Zb Z<|z0i<|Ze [(n9 0)] [4] Z
def z9z (a0:z00) (a1:List V3) (a2:List V3):Option (Int) :=
 z0d a0 >>= fun r2 =>
 if r2 != 0 then
  some r2
 else
  if decide (60<(a1.length:Int)) then
   some 4
  else
   if decide (60<(a2.length:Int)) then
    some 4
   else
    some 0
theorem zhl (a0:z00) (a1:List V3) (a2:List V3):z1w Tryz.prog 33 [.rd z01 a0,.rd (z02 aZ) a1,.rd (z02 aZ) a2] [] (z9z a0 a1 a2) (fun r nv=>⟨[.rd z0c r],[]⟩):=by
 refine z2e 21 Tryz.func33 Z Z Z fun H w=>?_
 refine gSR<|Eb Z (bx 1 Z) fun v1=>Zb Z<|z0l<|gSR<|Zq (ld 1 Z Z fH z2v Z)<|Zc [] [] Tryz.func38 Z (z1x _) fun r2 n3=>Zb Z<|gSR<|Zm Z<|Zq (I.neq Z Z)<|Zj Z (fun h4=>?_) (fun h4=>?_)
 ·
  refine gSR<|Zm Z<|Zb Z<|z0i<|z0v<|Ze [] [] Z
 ·
  refine Zt<|z0l<|gSR<|Zm Z<|Zq (z2w Z .rd Z tu22)<|Zq (I.gtr Z Z)<|Zm Z<|z1d 16 Z (fun h5=>?_) (fun h5=>?_)
  ·
   refine lKn 15 Z h5<|Zk Z<|Zk Z<|Zk Z<|Zq (pkT Z Z)<|Zn<|zf9 Z<|gSR<|Zb Z<|z0i<|z0v<|Ze [] [] Z
  ·
   refine lKn 15 Z h5<|z0y Zx Z Z (mv Z)<|z0y Zx Z Z (z2w Z .rd Z tu22)<|z0y Zx Z Z (I.gtr Z Z)<|Zq (pkF Z Z)<|Zj Z (fun h6=>?_) (fun h6=>?_)
   ·
    refine gKn 19 Z h6<|gSR<|Zb Z<|z0i<|z0v<|Ze [] [] Z
   ·
    refine gKn 19 Z h6<|Zt<|gSR<|Zb Z<|z0i<|Ze [] [] Z
def z98 (a0:List V3) (a1:V3) (s3:Int):Option (Sum (Sum Bool Unit) Int) :=
 if decide (s3<(a0.length:Int)) then
  idx a0 s3 >>= fun x5 =>
  if decide (x5=a1) then
   some (.inl (.inl true))
  else
   some (.inr (w64 (s3+1)))
 else
  some (.inl (.inr ()))
def z7s (a0:List V3) (a1:V3):Option (Bool) :=
 z61 (iter (z98 a0 a1) 0) fun s2 =>
 some false
theorem z95 (a0:List V3) (a1:V3):z1w Tryz.prog 32 [.rd (z02 aZ) a0,.rd aZ a1] [] (z7s a0 a1) (fun r nv=>⟨[.rd z0g r],[]⟩):=by
 refine z2e 18 Tryz.func32 Z Z Z fun H w=>?_
 refine gSR<|Eb Z (bx 1 Z) fun v1=>Zb Z<|z83 (fun (s2:Unit) aa ww=>Sta (ctx 18 H [] w) [] [] aa ww) ?_ (fun s2=>?_)
 ·
  refine gSR<|Zb Z<|z1v (fun (s3:Int) aa ww=>Sta (ctx 18 H [] w) [(0,.rd (z02 aZ) a0),(3,.val (z05 v1 0)),(5,.rd z0c s3)] [(1,some (v1,.box 62 [.rd aZ a1]))] aa ww) (fun aa ww h=>Zu h [1]) (fun s3=>?_)
  refine z0l<|gSR<|Zm Z<|Zm Z<|Zq (z2w Z .rd Z tu22)<|Zq (I.lss Z Z)<|Zj Z (fun h4=>?_) (fun h4=>?_)
  ·
   refine Zt<|z0l<|z49<|z0l<|zgc mixed (by kernel_rfl)<|Rq Z (mv Z)<|Rq Z (mv Z)<|z80 fun x5 h6=>Rq Z (ixR Z Z h6 tu22 z1g Z)<|Rq Z (ldR Z z36)<|Rq Z (ld 1 Z Z fH z36 Z)<|Rq Z (eqA Z Z zut Z Z zuh)<|zov<|z0f<|gIf Z Z (fun h7=>?_) (fun h7=>?_)
   ·
    refine gSR<|Zb Z<|z0i<|z47<|z0v<|z7z<|z5h<|Ze [] [] Z
   ·
    refine z29<|z2q<|z0f<|z1y<|Zm Z<|Zq (I.add Z Z)<|Za Z<|z1q<|z19 (fun aa ww h=>Zu h [1])
  ·
   refine z1k<|z0o<|z0r<|z4y (fun aa ww h=>Zu h [])
 ·
  refine gSR<|Zb Z<|z0i<|Ze [] [] Z
def zau (a0:V3) (a1:V3):Option (Bool) :=
 some (z14v a0.toList a1.toList) >>= fun y3 =>
 some y3
theorem ziw (a0:V3) (a1:V3):z1w Tryz.prog 81 [.rd aZ a0,.rd aZ a1] [] (zau a0 a1) (fun r nv=>⟨[.rd z0g r],[]⟩):=by
 refine z2e 10 Tryz.func81 Z Z Z fun H w=>?_
 refine gSR<|Eb Z (bx 1 Z) fun v1=>Eb Z (bx 2 Z) fun v2=>Zb Z<|z0l<|z119 1 2 Z Z<|z119 2 3 Z Z<|zgc mixed (by kernel_rfl)<|Rq Z (cutV Z tu62 ti5 Z Z Z)<|Rq Z (cvBS Z tu75 tu5 tu9)<|Rq Z (cutV Z tu62 ti5 Z Z Z)<|Rq Z (cvBS Z tu75 tu5 tu9)<|Rq Z (ltS Z Z)<|Rq Z (asg Z)<|z166 4 Z fun y3=>zov<|z0f<|z0i<|Ze [] [] Z
def z8h (a0:List V3) (a1:V3) (s3:Int):Option (Sum Int Int) :=
 if decide (s3<(a0.length:Int)) then
  idx a0 s3 >>= fun x5 =>
  zau x5 a1 >>= fun r7 =>
  if r7 then
   some (.inr (w64 (s3+1)))
  else
   some (.inl s3)
 else
  some (.inl s3)
def z9o (a0:List V3) (a1:V3):Option ((List V3)) :=
 (iter (z8h a0 a1) 0) >>= fun s2 =>
 z61 (if decide (s2<(a0.length:Int)) then
  idx a0 s2 >>= fun x12 =>
  if decide (x12=a1) then
   some (.inl a0)
  else
   some (.inr ())
 else
  some (.inr ())) fun s10 =>
 cut a0 0 s2 >>= fun x15 =>
 app 32 ([]:List V3) x15 >>= fun x17 =>
 app 32 x17 [a1] >>= fun x19 =>
 cut a0 s2 (a0.length:Int) >>= fun x21 =>
 app 32 x19 x21 >>= fun x23 =>
 some x23
set_option maxHeartbeats 4000000 in
theorem zd6 (a0:List V3) (a1:V3):z1w Tryz.prog 45 [.rd (z02 aZ) a0,.rd aZ a1] [] (z9o a0 a1) (fun r nv=>⟨[.rd (z02 aZ) r],[]⟩):=by
 refine z2e 45 Tryz.func45 Z Z Z fun H w=>?_
 refine gSR<|Eb Z (bx 1 Z) fun v1=>Zb Z<|gSR<|Zb Z<|z5q (fun (s2:Int) aa ww=>Sta (ctx 45 H [] w) [(0,.rd (z02 aZ) a0),(3,.val (z05 v1 0)),(5,.rd z0c s2)] [(1,some (v1,.box 62 [.rd aZ a1]))] aa ww) ?_ (fun s2=>?_)
 ·
  refine z1v (fun (s3:Int) aa ww=>Sta (ctx 45 H [] w) [(0,.rd (z02 aZ) a0),(3,.val (z05 v1 0)),(5,.rd z0c s3)] [(1,some (v1,.box 62 [.rd aZ a1]))] aa ww) (fun aa ww h=>Zu h [1]) (fun s3=>?_)
  refine z0l<|z0l<|z57 [] mixed Z Z<|hTk 0 Z Z (mv Z)<|hTk 1 Z Z (mv Z)<|hTk 2 Z Z (z2w Z .rd Z tu22)<|hTk 3 Z Z (I.lss Z Z)<|hTk 4 Z Z (mv Z)<|hIf 10 Z Z (fun h4=>?_) (fun h4=>?_)
  ·
   refine hKn 9 Z Z h4<|Zg 5 Z Z (mv Z)<|Zg 6 Z Z (mv Z)<|z3j fun x5 h6=>Zg 7 Z Z (ixR Z Z h6 tu22 z1g Z)<|Zg 8 Z Z (ldR Z z36)<|Zg 9 Z Z (ld 1 Z Z fH z36 Z)<|z3h 10 [] [] Z (by kernel_rfl) Z Zx Z Tryz.func81 Z Z (ziw _ _) (Y2 Z Z) rN Z (fun _ _=>z9f) fun r7 n8=>hTk 11 Z Z (pkT Z Z)<|z3q (by kernel_rfl)<|z0f<|gIf Z Z (fun h9=>?_) (fun h9=>?_)
   ·
    refine gKn 16 Z h9<|Zt<|z49<|z1y<|Zm Z<|Zq (I.add Z Z)<|Za Z<|z1q<|z2q<|z19 (fun aa ww h=>Zu h [1])
   ·
    refine gKn 16 Z h9<|z1k<|z0o<|z0r<|z3b (fun aa ww h=>Zu h [1])
  ·
   refine hKn 9 Z Z h4<|hSk 5 Z Z<|hSk 6 Z Z<|hSk 7 Z Z<|hSk 8 Z Z<|hSk 9 Z Z<|hSk 10 Z Z<|hTk 11 Z Z (pkF Z Z)<|z3q (by kernel_rfl)<|z0f<|zc3 Z<|z1k<|z0o<|z0r<|z3b (fun aa ww h=>Zu h [1])
 ·
  refine z83 (fun (s10:Unit) aa ww=>Sta (ctx 45 H [] w) [(0,.rd (z02 aZ) a0),(3,.val (z05 v1 0)),(5,.rd z0c s2)] [(1,some (v1,.box 62 [.rd aZ a1]))] aa ww) ?_ (fun s10=>?_)
  ·
   refine z0l<|zgc mixed (by kernel_rfl)<|Rq Z (mv Z)<|Rq Z (mv Z)<|Rq Z (z2w Z .rd Z tu22)<|Rq Z (I.lss Z Z)<|Rq Z (mv Z)<|z13r 24 Z (fun h11=>?_) (fun h11=>?_)
   ·
    refine qKn 23 Z h11<|zt5 Zx Z Z (mv Z)<|zt5 Zx Z Z (mv Z)<|z80 fun x12 h13=>zt5 Zx Z Z (ixR Z Z h13 tu22 z1g Z)<|zt5 Zx Z Z (ldR Z z36)<|zt5 Zx Z Z (ld 1 Z Z fH z36 Z)<|zt5 Zx Z Z (eqA Z Z zut Z Z zuh)<|Rq Z (pkT Z Z)<|zov<|z0f<|gIf Z Z (fun h14=>?_) (fun h14=>?_)
    ·
     refine gKn 30 Z h14<|gSR<|Zm Z<|Zb Z<|z0i<|z5h<|Ze [] [] Z
    ·
     refine gKn 30 Z h14<|z29<|z4y (fun aa ww h=>Zu h [1])
   ·
    refine qKn 23 Z h11<|zjs Zx Z Z<|zjs Zx Z Z<|zjs Zx Z Z<|zjs Zx Z Z<|zjs Zx Z Z<|zjs Zx Z Z<|Rq Z (pkF Z Z)<|zov<|z0f<|zc3 Z<|z29<|z4y (fun aa ww h=>Zu h [1])
  ·
   refine z0l<|zro [(0,.rd (z02 aZ) a0),(3,.val (z05 v1 0)),(5,.rd z0c s2)] [(1,some (v1,.box 62 [.rd aZ a1]))] [1] (sS Z<|sS Z<|sS Z<|sN) (y1 Z)<|z4s fun x15 h16=>z4s fun x17 h18=>z4s fun x19 h20=>z4s fun x21 h22=>z4s fun x23 h24=>gOr [] [⟨41,none,[(0,some ([1], fun nv=>((nv 1),.list aZ 62 ([]:List V3)))),(4,some ([2], fun nv=>((nv 2),.list aZ 62 x17))),(7,some ([4], fun nv=>((nv 4),.list aZ 62 x19))),(11,some ([5], fun nv=>((nv 5),.list aZ 62 x23)))]⟩,⟨1,some ([], fun nv=>(v1,.box 62 [.rd aZ a1])),[]⟩,⟨42,none,[(6,none)]⟩] [⟨some (33,[1], fun nv=>.val (nv 1)),[(0,0,true)],[1],[]⟩,pd 34 (.rd (z02 aZ) a0),pd 35 (.rd z0c s2),pd 36 (.rd (z02 aZ) x15),⟨some (37,[2], fun nv=>.val (nv 2)),[(0,1,true)],[2],[]⟩,pk 38 (.rd aZ a1) [(1,0,false)],⟨some (39,[], fun nv=>.rd (z02 aZ) [a1]),[(2,0,true)],[3],[]⟩,⟨some (40,[4], fun nv=>.val (nv 4)),[(0,2,true)],[4],[]⟩,pd 41 (.rd (z02 aZ) a0),pd 42 (.rd z0c s2),pd 43 (.rd (z02 aZ) x21),⟨some (44,[5], fun nv=>.val (nv 5)),[(0,3,true)],[5],[]⟩,⟨some (4,[5], fun nv=>.val (nv 5)),[],[],[]⟩] mixed (oC (oEf 41 1 (fun nv E=>lit (R:=aZ) (([]:List V3):List V3) 41 (pN) Z tu22 z1g Z Z))<|oC (oRn (fun nv E=>mv Z))<|oC (oRn (fun nv E=>mv Z))<|oC (oRn (fun nv E=>zxj Z .no (.to Z) h16 tu22 z1g))<|oC (oEf 41 2 (fun nv E=>apn 41 Z Z Z .rd h18 tu22 z1g Z Z Z))<|oC (oRn (fun nv E=>ld 1 Z Z fH z36 Z))<|oC (oFz (A1:=fun nv=>[(42,some ((nv 3),.list aZ 62 [a1]))]) 42 3 (oEf 42 3 (fun nv E=>lit (R:=aZ) ([a1]:List V3) 42 (pP Z Z<|pN) Z tu22 z1g Z Z)))<|oC (oEf 41 4 (fun nv E=>apn 41 Z Z Z .rd h20 tu22 z1g Z Z Z))<|oC (oRn (fun nv E=>mv Z))<|oC (oRn (fun nv E=>mv Z))<|oC (oRn (fun nv E=>zxj Z (.to Z) .no h22 tu22 z1g))<|oC (oEf 41 5 (fun nv E=>apn 41 Z Z Z .rd h24 tu22 z1g Z Z Z))<|oC (oRn (fun nv E=>asg Z))<|oN) fun n25=>z0f<|z0i<|eFrz 41 [44,4] Z (fS Z<|fS Z<|fN)<|Ze [] [] Z
def z4v (a0:z00) (a1:List V3) (s6:(List V3) × Int):Option (Sum ((List V3)) ((List V3) × Int)) :=
 if decide (s6.2<(a1.length:Int)) then
  idx a1 s6.2 >>= fun x8 =>
  z7s a0.IDs x8 >>= fun r10 =>
  if !r10 then
   idx a1 s6.2 >>= fun x13 =>
   z9o s6.1 x13 >>= fun r15 =>
   some (w64 (s6.2+1)) >>= fun y17 =>
   some (.inr (r15,y17))
  else
   some (w64 (s6.2+1)) >>= fun y18 =>
   some (.inr (s6.1,y18))
 else
  some (.inl s6.1)
def zbx (a0:z00) (a1:List V3):Option ((List V3) × Int) :=
 z9z a0 a1 [] >>= fun r2 =>
 if r2 != 0 then
  some ([],r2)
 else
  (iter (z4v a0 a1) ([],0)) >>= fun s5 =>
  some (s5,0)
theorem zjo (a0:z00) (a1:List V3):z1w Tryz.prog 13 [.rd z01 a0,.rd (z02 aZ) a1] [] (zbx a0 a1) (fun r nv=>⟨[.rd (z02 aZ) r.1,.rd z0c r.2],[]⟩):=by
 refine z2e 36 Tryz.func13 Z Z Z fun H w=>?_
 refine gSR<|Eb Z (bx 1 Z) fun v1=>Za Z<|Zb Z<|z0l<|gSR<|Zq (ld 1 Z Z fH z2v Z)<|Zm Z<|call [] [] Z Tryz.func33 Z Z (zhl _ _ _) (aQ Z<|aQ Z<|aNil Z<|aN) rN fun r2 n3=>Zb Z<|gSR<|Zm Z<|Zq (I.neq Z Z)<|Zj Z (fun h4=>?_) (fun h4=>?_)
 ·
  refine gSR<|Zm Z<|Za Z<|Zb Z<|z0i<|z0v<|z16u aZ 4 Z<|Ze [] [] Z
 ·
  refine Zt<|gSR<|Zb Z<|z5q (fun (s5:(List V3)) aa ww=>Sta (ctx 36 H [] w) [(7,.rd (z02 aZ) s5)] [] aa ww) ?_ (fun s5=>?_)
  ·
   refine gSR<|Zb Z<|z13d aZ 7 Z<|z1v (fun (s6:(List V3) × Int) aa ww=>Sta (ctx 36 H [] w) [(1,.rd (z02 aZ) a1),(2,.val (z05 v1 0)),(7,.rd (z02 aZ) s6.1),(8,.rd z0c s6.2)] [(1,some (v1,.box 25 [.rd z01 a0]))] aa ww) (fun aa ww h=>Zu h [1]) (fun s6=>?_)
   refine z0l<|gSR<|Zm Z<|Zm Z<|Zq (z2w Z .rd Z tu22)<|Zq (I.lss Z Z)<|Zj Z (fun h7=>?_) (fun h7=>?_)
   ·
    refine Zt<|z0l<|z49<|z0l<|z57 [] mixed Z Z<|hTk 0 Z Z (faB 1 Z Z Tryz.underlying25 Z (by exact z4q))<|hTk 1 Z Z (ld 1 Z Z (fP (z07 _)) z5j Z)<|hTk 2 Z Z (mv Z)<|hTk 3 Z Z (mv Z)<|z3j fun x8 h9=>hTk 4 Z Z (ixR Z Z h9 tu22 z1g Z)<|hTk 5 Z Z (ldR Z z36)<|z3h 6 [] [] Z (by kernel_rfl) Z (gd0 Z) Z Tryz.func32 Z Z (z95 _ _) (Y2 Z Z) rN Z (fun _ _=>z9f) fun r10 n11=>hTk 7 Z Z (zdi Z)<|z3q (by kernel_rfl)<|z0f<|gIf Z Z (fun h12=>?_) (fun h12=>?_)
    ·
     refine z1y<|Zm Z<|Zm Z<|Zm Z<|z0j fun x13 h14=>Zq (ixR Z Z h14 tu22 z1g Z)<|Zq (ldR Z z36)<|Zc [] [] Tryz.func45 Z (zd6 _ _) fun r15 n16=>Za Z<|z1q<|z2q<|z0f<|z1y<|Zm Z<|Zq (I.add Z Z)<|Za Z<|z1i 8 Z fun y17=>z1q<|z19 (fun aa ww h=>Zu h [1])
    ·
     refine z29<|z2q<|z0f<|z1y<|Zm Z<|Zq (I.add Z Z)<|Za Z<|z1i 8 Z fun y18=>z1q<|z19 (fun aa ww h=>Zu h [1])
   ·
    refine z1k<|z0o<|z0r<|z3b (fun aa ww h=>Zu h [])
  ·
   refine gSR<|Zm Z<|Za Z<|Zb Z<|z0i<|Ze [] [] Z
def z7u (a0:V3) (c1_0:List (V3 × Int)):Option (Bool) :=
 some ((zkg c1_0 a0).getD 0) >>= fun y2 =>
 some ((zkg c1_0 a0).isSome) >>= fun y3 =>
 some y3
theorem zdt (a0:V3) (p1_0:Value) (q1_0:Value) (c1_0:List (V3 × Int)):z1w Tryz.prog 165 [.rd aZ a0,.val (z05 p1_0 0)] [(1,some (p1_0,.box 156 [.val q1_0])),(2,some (q1_0,.map aZ z0c c1_0))] (z7u a0 c1_0) (fun r nv=>⟨[.rd z0g r],[(1,some (p1_0,.box 156 [.val q1_0])),(2,some (q1_0,.map aZ z0c c1_0))]⟩):=by
 refine z2e 13 Tryz.func165 Z Z Z fun H w=>?_
 refine gSR<|Eb Z (bx 3 Z) fun v1=>Zb Z<|gSR<|Zq (ldV 1 Z Z .here z151 Z)<|Zq (ld 3 Z Z fH z36 Z)<|Zq (mlk2 Z (.own 2 Z Z) Z ky62 Tryz.underlying156 ti3 (Zr.num Z) Z)<|Zm Z<|Zq (ext Z Z)<|Zq (ext Z Z)<|Za Z<|z1i 4 Z fun y2=>Za Z<|z1i 5 Z fun y3=>Zn<|gSR<|Zm Z<|Zb Z<|z0i<|Ze [] [1,2] Z
def z5m (a0:List V3) (c1_0:List (V3 × Int)) (s2:Int):Option (Sum (Sum Int Unit) Int) :=
 if decide (s2<(a0.length:Int)) then
  idx a0 s2 >>= fun x4 =>
  z7u x4 c1_0 >>= fun r6 =>
  if r6 then
   some (.inl (.inl s2))
  else
   some (.inr (w64 (s2+1)))
 else
  some (.inl (.inr ()))
def z3o (a0:List V3) (c1_0:List (V3 × Int)):Option (Int) :=
 z61 (iter (z5m a0 c1_0) 0) fun s1 =>
 some (-1)
theorem z5n (a0:List V3) (q0:Value) (l0:List V3) (p1_0:Value) (q1_0:Value) (c1_0:List (V3 × Int)):z1w Tryz.prog 114 [.vw aZ q0 l0 a0,.val (.func (.func 165) #[] #[z05 p1_0 0])] [(1,some (q0,.list aZ 62 l0)),(2,some (p1_0,.box 156 [.val q1_0])),(3,some (q1_0,.map aZ z0c c1_0))] (z3o a0 c1_0) (fun r nv=>⟨[.rd z0c r],[(1,some (q0,.list aZ 62 l0)),(2,some (p1_0,.box 156 [.val q1_0])),(3,some (q1_0,.map aZ z0c c1_0))]⟩):=by
 refine z2e 19 Tryz.func114 Z Z Z fun H w=>?_
 refine gSR<|Zb Z<|z83 (fun (s1:Unit) aa ww=>Sta (ctx 19 H [(1,some (q0,.list aZ 62 l0)),(2,some (p1_0,.box 156 [.val q1_0])),(3,some (q1_0,.map aZ z0c c1_0))] w) [] [(1,some (q0,.list aZ 62 l0)),(3,some (q1_0,.map aZ z0c c1_0)),(2,some (p1_0,.box 156 [.val q1_0]))] aa ww) ?_ (fun s1=>?_)
 ·
  refine gSR<|Zm Z<|Zq (z2w Z (.vw 1 Z) Z tu22)<|Zm Z<|Zn<|z1v (fun (s2:Int) aa ww=>Sta (ctx 19 H [(1,some (q0,.list aZ 62 l0)),(2,some (p1_0,.box 156 [.val q1_0])),(3,some (q1_0,.map aZ z0c c1_0))] w) [(0,.vw aZ q0 l0 a0),(1,.val (.func (.func 165) #[] #[z05 p1_0 0])),(7,.rd z0c (a0.length:Int)),(8,.rd z0c s2)] [(1,some (q0,.list aZ 62 l0)),(3,some (q1_0,.map aZ z0c c1_0)),(2,some (p1_0,.box 156 [.val q1_0]))] aa ww) (fun aa ww h=>Zu h [1,3,2]) (fun s2=>?_)
  refine gSR<|Zq (I.lss Z Z)<|Zn<|z0l<|gIf Z Z (fun h3=>?_) (fun h3=>?_)
  ·
   refine Zt<|z0l<|z49<|gSR<|Zm Z<|Zb Z<|gSR<|Zm Z<|Zm Z<|Zm Z<|z0j fun x4 h5=>Zq (ixQ 1 Z Z Z h5 tu22 z1g)<|Zq (ldQ 1 Z Z z36 Z)<|zhf [2,3] [(1,2),(2,3)] (gd0 Z) Z Z Tryz.func165 Z Z (zdt _ _ _ _) (Y1 Z) (cQ 2 Z<|cN) (Zi Z<|Zi Z<|rN) fun r6 n7=>Zj Z (fun h8=>?_) (fun h8=>?_)
   ·
    refine gSR<|Zm Z<|Zb Z<|z0i<|z47<|z0v<|z7z<|z5h<|Ze [] [1,2,3] Z
   ·
    refine z29<|z2q<|z0f<|z1y<|Zq (I.add Z Z)<|Zm Z<|z1q<|z19 (fun aa ww h=>Zu h [1,3,2])
  ·
   refine z1k<|z0o<|z0r<|z4y (fun aa ww h=>Zu h [1,3,2])
 ·
  refine gSR<|Zb Z<|z0i<|Ze [] [1,2,3] Z
def z62 (c1_0:List (V3 × Int)) (s5:(List V3) × Int × Int):Option (Sum ((List V3) × Int) ((List V3) × Int × Int)) :=
 if decide (s5.2.2<(s5.1.length:Int)) then
  idx s5.1 s5.2.2 >>= fun x7 =>
  z7u x7 c1_0 >>= fun r10 =>
  if !r10 then
   idx s5.1 s5.2.1 >>= fun x13 =>
   some (w64 (s5.2.1+1)) >>= fun y15 =>
   some (w64 (s5.2.2+1)) >>= fun y16 =>
   some (.inr (s5.1.set (s5.2.1:Int).toNat x7,y15,y16))
  else
   some (w64 (s5.2.2+1)) >>= fun y17 =>
   some (.inr (s5.1,s5.2.1,y17))
 else
  some (.inl (s5.1,s5.2.1))
def z1s (c0:List V3) (c1_0:List (V3 × Int)):Option ((List V3)) :=
 z3o c0 c1_0 >>= fun r1 =>
 if r1==(-1) then
  some c0
 else
  (iter (z62 c1_0) (c0,r1,w64 (r1+1))) >>= fun s4 =>
  chk (0≤s4.2∧s4.2≤(s4.1.length:Int)∧(s4.1.length:Int)≤(s4.1.length:Int)) >>= fun u18 =>
  chk ((s4.2:Int).toNat+(((s4.1.length:Int):Int).toNat - (s4.2:Int).toNat)≤s4.1.length) >>= fun u20 =>
  cut (clr s4.1 ((s4.2:Int).toNat) (((s4.1.length:Int):Int).toNat - (s4.2:Int).toNat) (Vector.replicate 32 0)) 0 s4.2 >>= fun x22 =>
  some x22
theorem z5y (p0:Value) (c0:List V3) (p1_0:Value) (q1_0:Value) (c1_0:List (V3 × Int)):z1w Tryz.prog 75 [.val p0,.val (.func (.func 165) #[] #[z05 p1_0 0])] [(1,some (p0,.list aZ 62 c0)),(2,some (p1_0,.box 156 [.val q1_0])),(3,some (q1_0,.map aZ z0c c1_0))] (z1s c0 c1_0) (fun r nv=>⟨[.val (nv 0)],[(2,some (p1_0,.box 156 [.val q1_0])),(3,some (q1_0,.map aZ z0c c1_0)),(100,some (nv 0,.list aZ 62 r))]⟩):=by
 refine z2e 42 Tryz.func75 Z Z Z fun H w=>?_
 refine gSR<|Zb Z<|gSR<|Zm Z<|Zm Z<|call [1,2,3] [(1,1),(2,2),(3,3)] Z Tryz.func114 Z Z (z5n _ _ _ _ _ _) (aW Z<|aQ Z<|aN) (Zi Z<|Zi Z<|Zi Z<|rN) fun r1 n2=>Zb Z<|z0l<|gSR<|Zm Z<|Zq (I.eql Z Z)<|Zj Z (fun h3=>?_) (fun h3=>?_)
 ·
  refine gSR<|Zm Z<|Zb Z<|z0i<|z0v<|Ze [p0] [2,3,1] Z
 ·
  refine Zt<|z5q (fun (s4:(List V3) × Int) aa ww=>Sta (ctx 42 H [(1,some (p0,.list aZ 62 c0)),(2,some (p1_0,.box 156 [.val q1_0])),(3,some (q1_0,.map aZ z0c c1_0))] w) [(0,.val p0),(5,.rd z0c s4.2)] [(1,some (p0,.list aZ 62 s4.1)),(3,some (q1_0,.map aZ z0c c1_0)),(2,some (p1_0,.box 156 [.val q1_0]))] aa ww) ?_ (fun s4=>?_)
  ·
   refine gSR<|Zm Z<|Zq (I.add Z Z)<|Zb Z<|z1v (fun (s5:(List V3) × Int × Int) aa ww=>Sta (ctx 42 H [(1,some (p0,.list aZ 62 c0)),(2,some (p1_0,.box 156 [.val q1_0])),(3,some (q1_0,.map aZ z0c c1_0))] w) [(0,.val p0),(1,.val (.func (.func 165) #[] #[z05 p1_0 0])),(5,.rd z0c s5.2.1),(6,.rd z0c s5.2.2)] [(1,some (p0,.list aZ 62 s5.1)),(3,some (q1_0,.map aZ z0c c1_0)),(2,some (p1_0,.box 156 [.val q1_0]))] aa ww) (fun aa ww h=>Zu h [1,3,2]) (fun s5=>?_)
   refine z0l<|gSR<|Zm Z<|Zm Z<|Zq (z2w Z (.own 1 Z) Z tu22)<|Zq (I.lss Z Z)<|Zj Z (fun h6=>?_) (fun h6=>?_)
   ·
    refine Zt<|z0l<|z49<|gSR<|Zm Z<|Zm Z<|z0j fun x7 h8=>Zq (ixO 1 Z Z Z h8 tu22 z1g)<|Zq (ld 1 Z Z (Foc.el h8) z36 Z)<|Eb Z (z52 4 z1g (.zr (R:=aZ) (x:=(Vector.replicate 32 0)) zf5)) fun v9=>Es (sto 4 Z Z fH Z z1g)<|Zn<|gSR<|Zm Z<|Zq (ld 4 Z Z fH z36 Z)<|zhf [2,3] [(1,2),(2,3)] (gd0 Z) Z Z Tryz.func165 Z Z (zdt _ _ _ _) (Y1 Z) (cQ 2 Z<|cN) (Zi Z<|Zi Z<|rN) fun r10 n11=>Zq (zdi Z)<|Zj Z (fun h12=>?_) (fun h12=>?_)
    ·
     refine gSR<|Zm Z<|Zm Z<|Zq (ld 4 Z Z fH z36 Z)<|z0j fun x13 h14=>Zq (ixO 1 Z Z Z h14 tu22 z1g)<|Es (sto 1 Z Z (Foc.el h14) Z z1g)<|Zn<|z1y<|Zm Z<|Zq (I.add Z Z)<|Za Z<|z1i 5 Z fun y15=>z1q<|z2q<|z0f<|z1y<|Zm Z<|Zq (I.add Z Z)<|Za Z<|z1i 6 Z fun y16=>z1q<|z19 (fun aa ww h=>Zu h [1,3,2])
    ·
     refine z29<|z2q<|z0f<|z1y<|Zm Z<|Zq (I.add Z Z)<|Za Z<|z1i 6 Z fun y17=>z1q<|z19 (fun aa ww h=>Zu h [1,3,2])
   ·
    refine z1k<|z0o<|z0r<|z3b (fun aa ww h=>Zu h [1,3,2])
  ·
   refine gSR<|Zm Z<|Zm Z<|z0j fun u18 h19=>Zq (zwe 1 Z Z (.to Z) .no (z4e h19) tu22 z1g)<|z0j fun u20 h21=>EsV (clrS 1 Z Z (z4e h21) Z tu22 z1g zf5 Z)<|Zn<|gSR<|Zm Z<|Zm Z<|z0j fun x22 h23=>Ef Z (cutO 1 Z Z Z h23 tu22 z1g) fun v24=>Zb Z<|z0i<|Ze [v24] [2,3,1] Z
def zbw (a0:z00) (a1:List V3):Option ((List V3) × Int) :=
 z24 a0 >>= fun r2 =>
 if r2 != 0 then
  some ([],r2)
 else
  if decide (60<(a1.length:Int)) then
   some ([],4)
  else
   z4f a0 >>= fun r6 =>
   z0w a1 >>= fun r9 =>
   z1s r9 r6 >>= fun r11 =>
   zp1 r11 >>= fun r13 =>
   z14 r13 >>= fun r15 =>
   some (r15,0)
theorem zka (a0:z00) (a1:List V3):z1w Tryz.prog 119 [.rd z01 a0,.rd (z02 aZ) a1] [zG1] (zbw a0 a1) (fun r nv=>⟨[.val (nv 0),.rd z0c r.2],[(1001,some (.bool true,.glob 1 (z3r 64 z10) z8a)),(100,some (nv 0,.list aZ 62 r.1))]⟩):=by
 refine z2e 27 Tryz.func119 Z Z Z fun H w=>?_
 refine gSR<|Eb Z (bx 1 Z) fun v1=>Za Z<|Zb Z<|z0l<|gSR<|Zq (ld 1 Z Z fH z2v Z)<|Zc [1001] [] Tryz.func74 Z (zc4 _) fun r2 n3=>Zb Z<|gSR<|Zm Z<|Zq (I.neq Z Z)<|Zj Z (fun h4=>?_) (fun h4=>?_)
 ·
  refine gSR<|Zm Z<|Za Z<|Zb Z<|z0i<|z0v<|zr1 aZ 62 2<|Ze [(.slice none 0 0)] [1001,2] Z
 ·
  refine Zt<|z0l<|gSR<|Zm Z<|Zq (z2w Z .rd Z tu22)<|Zq (I.gtr Z Z)<|Zj Z (fun h5=>?_) (fun h5=>?_)
  ·
   refine gSR<|Za Z<|Zb Z<|z0i<|z0v<|zr1 aZ 62 3<|Ze [(.slice none 0 0)] [1001,3] Z
  ·
   refine Zt<|gSR<|Zq (ld 1 Z Z fH z2v Z)<|Zc [] [(100,4)] Tryz.func123 Z (z9x _) fun r6 n7=>Eb Z (z52 5 zwj (.val Z)) fun v8=>Es (znn 5 Z Z (.here z04) Z z0h z04 zwj)<|Zn<|gSR<|Zm Z<|Zc [] [(100,6)] Tryz.func46 Z (z1t _) fun r9 n10=>Zq (mkf mp0 (mp1 Z))<|Zc [6,5,4] [(100,7),(2,5),(3,4)] Tryz.func75 Z (z5y _ _ _ _ _) fun r11 n12=>Zb Z<|gSR<|Zm Z<|Zc [7] [(1,7)] Tryz.func78 Z (z117 _ _) fun r13 n14=>Zn<|gSR<|Zm Z<|Zc [7] [(100,8)] Tryz.func80 Z (z30 _ _) fun r15 n16=>Za Z<|Zb Z<|z0i<|Ze [(n16 0)] [1001,8] Z
def z8k (a0:z00) (r10:(List Bool)) (s12:(List V3) × (List z0b) × Int):Option (Sum ((List V3) × (List z0b)) ((List V3) × (List z0b) × Int)) :=
 if decide (s12.2.2<(r10.length:Int)) then
  idx r10 s12.2.2 >>= fun x15 =>
  if x15 then
   idx a0.Ops s12.2.2 >>= fun x18 =>
   z0w x18.Preds >>= fun r21 =>
   idx a0.IDs s12.2.2 >>= fun x23 =>
   app 32 s12.1 [x23] >>= fun x25 =>
   app 112 s12.2.1 [(⟨x18.Author,r21,x18.Stamp,x18.Act,x18.Sig⟩:z0b)] >>= fun x27 =>
   some (.inr (x25,x27,w64 (s12.2.2+1)))
  else
   some (.inr (s12.1,s12.2.1,w64 (s12.2.2+1)))
 else
  some (.inl (s12.1,s12.2.1))
def zdb (a0:z00) (a1:List V3):Option (z00 × Int) :=
 zbw a0 a1 >>= fun r3 =>
 if r3.2 != 0 then
  some ((⟨[],[]⟩:z00),r3.2)
 else
  some (decide (0<(r3.1.length:Int))) >>= fun y6 =>
  if y6 then
   some ((⟨[],[]⟩:z00),6)
  else
   (zdf a0 a1 >>= fun r10 =>
   iter (z8k a0 r10) ([],[],0)) >>= fun s9 =>
   some ((⟨s9.1,s9.2⟩:z00),0)
set_option maxHeartbeats 4000000 in
theorem zd0 (a0:z00) (a1:List V3):z1w Tryz.prog 83 [.rd z01 a0,.rd (z02 aZ) a1] [zG1] (zdb a0 a1) (fun r nv=>⟨[.rd z01 r.1,.rd z0c r.2],[(1001,some (.bool true,.glob 1 (z3r 64 z10) z8a))]⟩):=by
 refine z2e 65 Tryz.func83 Z Z Z fun H w=>?_
 refine gSR<|Eb Z (bx 1 Z) fun v1=>Eb Z (z52 2 z3m (ZrE.nilS (ZrE.nilS ZrE.nil))) fun v2=>Zb Z<|gSR<|Zq (ld 1 Z Z fH z2v Z)<|Zm Z<|Zc [1001] [(100,3)] Tryz.func119 Z (zka _ _) fun r3 n4=>Zm Z<|Zq (ext Z Z)<|Zq (ext Z Z)<|Za Z<|Zb Z<|z0l<|z49<|gSR<|Zm Z<|Zq (I.neq Z Z)<|Zb Z<|gIf Z Z (fun h5=>?_) (fun h5=>?_)
 ·
  refine gKn 20 Z h5<|gSR<|Zq (zii [(0,1),(1,1)] Tryz.underlying25 z3m (ZrE.nilS (ZrE.nilS ZrE.nil)) Z (zds.done Z))<|Zm Z<|Es (zit 2 Z Z (z06.cast (z06.cons z04 (z06.cons z04 z06.nil)) Z) Z (z1n.cons z0h (z1n.cons z0h z1n.nil)) (z06.cast (z06.cons z04 (z06.cons z04 z06.nil)) Z) z3m)<|Zb Z<|z0i<|z47<|z0v<|zdz aZ [.rd (z02 aZ) [],.val (.slice none 0 0)] 2 [] [.val (.slice none 0 0)] Z Z Z<|zdz z03 [.rd (z02 aZ) [],.rd (z02 z03) []] 2 [.rd (z02 aZ) []] [] Z Z Z<|zly (R:=z01) (⟨[],[]⟩:z00) 2 Z (Sp.via (Sp.prod (Sp.prod Sp.unit)))<|zb6 [] [1001] Z (eC 2 Z Z z2v<|eE Z<|eN) (y1 Z)
 ·
  refine gKn 20 Z h5<|gSR<|Zm Z<|Zq (z2w Z (.own 3 Z) Z tu22)<|Zq (I.gtr Z Z)<|Za Z<|z1i 23 Z fun y6=>Zj Z (fun h7=>?_) (fun h7=>?_)
  ·
   refine gSR<|Zq (zii [(0,1),(1,1)] Tryz.underlying25 z3m (ZrE.nilS (ZrE.nilS ZrE.nil)) Z (zds.done Z))<|Es (zit 2 Z Z (z06.cast (z06.cons z04 (z06.cons z04 z06.nil)) Z) Z (z1n.cons z0h (z1n.cons z0h z1n.nil)) (z06.cast (z06.cons z04 (z06.cons z04 z06.nil)) Z) z3m)<|Zb Z<|z0i<|z47<|z0v<|zdz aZ [.rd (z02 aZ) [],.val (.slice none 0 0)] 2 [] [.val (.slice none 0 0)] Z Z Z<|zdz z03 [.rd (z02 aZ) [],.rd (z02 z03) []] 2 [.rd (z02 aZ) []] [] Z Z Z<|zly (R:=z01) (⟨[],[]⟩:z00) 2 Z (Sp.via (Sp.prod (Sp.prod Sp.unit)))<|zb6 [] [1001] Z (eC 2 Z Z z2v<|eE Z<|eN) (y1 Z)
  ·
   refine z29<|z2q<|z0f<|gSR<|Eb Z (z52 4 z3m (ZrE.nilS (ZrE.nilS ZrE.nil))) fun v8=>Zn<|z5q (fun (s9:(List V3) × (List z0b)) aa ww=>∃ nv:Nat→Value,Sta (ctx 65 H [zG1] w) [(4,.val (z05 v2 0)),(8,.val (z05 v8 0))] [(2,some (v2,.box 25 [.val (.slice none 0 0),.val (.slice none 0 0)])),(8,some ((nv 0),.list aZ 62 s9.1)),(9,some ((nv 1),.list z03 73 s9.2)),(4,some (v8,.box 25 [.val (nv 0),.val (nv 1)])),zG1] aa ww) ?_ (fun s9=>?_)
   ·
    refine gSR<|Zq (ld 1 Z Z fH z2v Z)<|Zm Z<|Zc [] [(100,1100)] Tryz.func120 Z (zm8 _ _) fun r10 n11=>Zq (z2w Z (.own 1100 Z) Z tu152)<|Zm Z<|Zn<|zpu aZ 62 1105<|zpu z03 73 1106<|z1v (fun (s12:(List V3) × (List z0b) × Int) aa ww=>∃ nv:Nat→Value,Sta (ctx 65 H [zG1] w) [(2,.val (z05 v1 0)),(4,.val (z05 v2 0)),(8,.val (z05 v8 0)),(30,.val (n11 0)),(31,.rd z0c (r10.length:Int)),(32,.rd z0c s12.2.2)] [(1,some (v1,.box 25 [.rd z01 a0])),(2,some (v2,.box 25 [.val (.slice none 0 0),.val (.slice none 0 0)])),(1103,some ((nv 0),.list aZ 62 s12.1)),(1104,some ((nv 1),.list z03 73 s12.2.1)),(4,some (v8,.box 25 [.val (nv 0),.val (nv 1)])),(1100,some ((n11 0),.list z0g 4 r10)),zG1] aa ww) (fun aa ww h=>⟨nvl [(.slice none 0 0),(.slice none 0 0)],Zu h [1,2,1105,1106,4,1100,1001]⟩) (fun s12=>?_)
    refine gEx fun n13=>gSR<|Zq (I.lss Z Z)<|Zn<|z0l<|gIf Z Z (fun h14=>?_) (fun h14=>?_)
    ·
     refine Zt<|z0l<|z49<|gSR<|Zm Z<|z0j fun x15 h16=>Zq (ixO 1100 Z Z Z h16 tu152 ti4)<|Zq (ld 1100 Z Z (Foc.el h16) ty4 Z)<|Za Z<|Zb Z<|gSR<|Zm Z<|Zj Z (fun h17=>?_) (fun h17=>?_)
     ·
      refine gKn 36 Z h17<|gKn 10 Z h17<|gSR<|Zq (faB 1 Z Z Tryz.underlying25 Z (by exact z9l))<|Zq (ld 1 Z Z (fP (z08 _)) zcx Z)<|Zm Z<|z0j fun x18 h19=>Zq (ixR Z Z h19 tu23 za5 Z)<|Zq (ldR Z zcs)<|Eb Z (z52 1107 za5 (ZrE.rd (R:=z10) (x:=0) (Zr.num Z) (ZrE.nilS (ZrE.rd (R:=z2k) (x:=0) (Zr.num Z) (ZrE.rd (R:=z0z) (x:=(⟨0,[],(⟨0,0,0,[]⟩:z09)⟩:z18)) zx7 (ZrE.rd (R:=z13) (x:=(⟨0,0⟩:z0q)) zx6 ZrE.nil Z) Z) Z)) Z)) fun v20=>z99 aZ [.rd z10 0,.rd (z02 aZ) [],.rd z2k 0,.rd z0z (⟨0,[],(⟨0,0,0,[]⟩:z09)⟩:z18),.rd z13 (⟨0,0⟩:z0q)] 1107 [.rd z10 0] [.rd z2k 0,.rd z0z (⟨0,[],(⟨0,0,0,[]⟩:z09)⟩:z18),.rd z13 (⟨0,0⟩:z0q)] Z Z Z<|zch (R:=z03) (⟨0,[],0,(⟨0,[],(⟨0,0,0,[]⟩:z09)⟩:z18),(⟨0,0⟩:z0q)⟩:z0b) 1107 Z (Sp.via (Sp.prod (Sp.prod (Sp.prod (Sp.prod (Sp.prod Sp.unit))))))<|Es (sto 1107 Z Z fH Z za5)<|Zn<|gSR<|Zq (faB 1107 Z Z Tryz.underlying73 Z (by exact z4q))<|Zq (ld 1107 Z Z (fP (z0x _)) z5j Z)<|Zc [] [(100,1108)] Tryz.func46 Z (z1t _) fun r21 n22=>Zq (faB 1107 Z Z Tryz.underlying73 Z (by exact z4q))<|lSpl (R:=z03) 1107 Z (Sp.via (Sp.prod (Sp.prod (Sp.prod (Sp.prod (Sp.prod Sp.unit))))))<|Es (znn 1107 Z Z (z81.cast (z81.next z0u (z81.here z0u)) Z) Z z0h z04 z4q)<|Zn<|gPow [.rd z10 x18.Author,.rd (z02 aZ) r21,.rd z2k x18.Stamp,.rd z0z x18.Act,.rd z13 x18.Sig] 1107 1108 [.rd z10 x18.Author] [.rd z2k x18.Stamp,.rd z0z x18.Act,.rd z13 x18.Sig] Z Z Z Z Z<|gJoi (R:=z03) (⟨x18.Author,r21,x18.Stamp,x18.Act,x18.Sig⟩:z0b) 1107 Z (Sp.via (Sp.prod (Sp.prod (Sp.prod (Sp.prod (Sp.prod Sp.unit))))))<|zro [(2,.val (z05 v1 0)),(4,.val (z05 v2 0)),(8,.val (z05 v8 0)),(30,.val (n11 0)),(31,.rd z0c (r10.length:Int)),(32,.rd z0c s12.2.2),(9,.rd z0c s12.2.2),(11,.val (z05 v20 0))] [(1,some (v1,.box 25 [.rd z01 a0])),(2,some (v2,.box 25 [.val (.slice none 0 0),.val (.slice none 0 0)])),(1103,some ((n13 0),.list aZ 62 s12.1)),(1104,some ((n13 1),.list z03 73 s12.2.1)),(4,some (v8,.box 25 [.val (n13 0),.val (n13 1)])),(1100,some ((n11 0),.list z0g 4 r10)),zG1,(1107,some (v20,.box 73 [.rd z03 (⟨x18.Author,r21,x18.Stamp,x18.Act,x18.Sig⟩:z0b)]))] [1,2,1103,1104,4,1100,1001,1107] (Zs Z Z Z Z<|Zs Z Z Z Z<|sN) (Zi Z<|Zi Z<|Zi Z<|Zi Z<|Zi Z<|Zi Z<|Zi Z<|Zi Z<|rN)<|z4s fun x23 h24=>z4s fun x25 h26=>z4s fun x27 h28=>gOr [] [⟨4,some ([], fun nv=>(v8,.box 25 [.val (n13 0),.val (n13 1)])),[(15,some ([2], fun nv=>(v8,.box 25 [.val (nv 2),.val (n13 1)]))),(17,some ([2,4], fun nv=>(v8,.box 25 [.val (nv 2),.val (nv 4)])))]⟩,⟨1,some ([], fun nv=>(v1,.box 25 [.rd z01 a0])),[]⟩,⟨1109,none,[(7,none)]⟩,⟨1103,some ([], fun nv=>((n13 0),.list aZ 62 s12.1)),[(8,some ([2], fun nv=>((nv 2),.list aZ 62 x25)))]⟩,⟨1107,some ([], fun nv=>(v20,.box 73 [.rd z03 (⟨x18.Author,r21,x18.Stamp,x18.Act,x18.Sig⟩:z0b)])),[]⟩,⟨1110,none,[(12,none)]⟩,⟨1104,some ([], fun nv=>((n13 1),.list z03 73 s12.2.1)),[(13,some ([4], fun nv=>((nv 4),.list z03 73 x27)))]⟩] [pk 47 (.val (z05 v8 (0+0))) [(0,0,false)],pk 48 (.val (n13 0)) [(0,0,false)],pk 49 (.val (z05 v1 (0+0))) [(1,0,false)],pk 50 (.rd (z02 aZ) a0.IDs) [(1,0,false)],pd 51 (.rd z0c s12.2.2),pd 52 (.rp aZ x23),pd 53 (.rd aZ x23),⟨some (54,[], fun nv=>.rd (z02 aZ) [x23]),[(2,0,true)],[1],[]⟩,⟨some (55,[2], fun nv=>.val (nv 2)),[(3,0,true)],[2],[]⟩,pk 56 (.val (z05 v8 (0+1))) [(0,0,false)],pk 57 (.val (n13 1)) [(0,0,false)],pk 58 (.rd z03 (⟨x18.Author,r21,x18.Stamp,x18.Act,x18.Sig⟩:z0b)) [(4,0,false)],⟨some (59,[], fun nv=>.rd (z02 z03) [(⟨x18.Author,r21,x18.Stamp,x18.Act,x18.Sig⟩:z0b)]),[(5,0,true)],[3],[]⟩,⟨some (60,[4], fun nv=>.val (nv 4)),[(6,0,true)],[4],[]⟩,pk 61 (.val (z05 v8 (0+0))) [(0,0,false)],⟨none,[(0,0,true),(3,1,false)],[],[]⟩,pk 62 (.val (z05 v8 (0+1))) [(0,1,false)],⟨none,[(6,1,false),(0,1,true)],[],[]⟩] mixed (oC (oRn (fun nv E=>faB 4 Z Z Tryz.underlying25 Z (by exact z4q)))<|oC (oRn (fun nv E=>ldV 4 Z Z (At.cast At.here Z) sc22 Z))<|oC (oRn (fun nv E=>faB 1 Z Z Tryz.underlying25 Z (by exact z4q)))<|oC (oRn (fun nv E=>ld 1 Z Z (fP (z07 _)) z5j Z))<|oC (oRn (fun nv E=>mv Z))<|oC (oRn (fun nv E=>ixR Z Z h24 tu22 z1g Z))<|oC (oRn (fun nv E=>ldR Z z36))<|oC (oFz (A1:=fun nv=>[(1109,some ((nv 1),.list aZ 62 [x23]))]) 1109 1 (oEf 1109 1 (fun nv E=>lit (R:=aZ) ([x23]:List V3) 1109 (pP Z Z<|pN) Z tu22 z1g Z Z)))<|oC (oEf 1103 2 (fun nv E=>apn 1103 Z Z Z .rd h26 tu22 z1g Z Z Z))<|oC (oRn (fun nv E=>faB 4 Z Z Tryz.underlying25 Z (by exact z9l)))<|oC (oRn (fun nv E=>ldV 4 Z Z (At.cast (At.next z04 At.here) Z) sc23 Z))<|oC (oRn (fun nv E=>ld 1107 Z Z fH zcs Z))<|oC (oFz (A1:=fun nv=>[(1110,some ((nv 3),.list z03 73 [(⟨x18.Author,r21,x18.Stamp,x18.Act,x18.Sig⟩:z0b)]))]) 1110 3 (oEf 1110 3 (fun nv E=>lit (R:=z03) ([(⟨x18.Author,r21,x18.Stamp,x18.Act,x18.Sig⟩:z0b)]:List z0b) 1110 (pP Z Z<|pN) Z tu23 za5 Z Z)))<|oC (oEf 1104 4 (fun nv E=>apn 1104 Z Z Z .rd h28 tu23 za5 Z Z Z))<|oC (oRn (fun nv E=>faB 4 Z Z Tryz.underlying25 Z (by exact z4q)))<|oC (oEs 4 (fun nv E=>znn 4 Z Z (z81.cast (z81.here z04) Z) Z z0h z04 z4q))<|oC (oRn (fun nv E=>faB 4 Z Z Tryz.underlying25 Z (by exact z9l)))<|oC (oEs 4 (fun nv E=>znn 4 Z Z (z81.cast (z81.next z04 (z81.here z04)) Z) Z z0h z04 z9l))<|oN) fun n29=>z2q<|z0f<|z1y<|Zq (I.add Z Z)<|Zm Z<|z1q<|z19 (fun aa ww h=>⟨nvl [(n29 2),(n29 4)],Zu h [1,2,1103,1104,4,1100,1001]⟩)
     ·
      refine gKn 36 Z h17<|gKn 10 Z h17<|z29<|z2q<|z0f<|z1y<|Zq (I.add Z Z)<|Zm Z<|z1q<|z19 (fun aa ww h=>⟨nvl [(n13 0),(n13 1)],Zu h [1,2,1103,1104,4,1100,1001]⟩)
    ·
     refine z1k<|z0o<|z0r<|z3b (fun aa ww h=>⟨nvl [(n13 0),(n13 1)],Zu h [2,1103,1104,4,1001]⟩)
   ·
    refine gEx fun n30=>gSR<|ztl [.rd (z02 aZ) s9.1,.val (n30 1)] 4 8 [] [.val (n30 1)] Z Z Z Z Z<|ztl [.rd (z02 aZ) s9.1,.rd (z02 z03) s9.2] 4 9 [.rd (z02 aZ) s9.1] [] Z Z Z Z Z<|zch (R:=z01) (⟨s9.1,s9.2⟩:z00) 4 Z (Sp.via (Sp.prod (Sp.prod Sp.unit)))<|Zq (ld 4 Z Z fH z2v Z)<|z99 aZ [.rd (z02 aZ) [],.val (.slice none 0 0)] 2 [] [.val (.slice none 0 0)] Z Z Z<|z99 z03 [.rd (z02 aZ) [],.rd (z02 z03) []] 2 [.rd (z02 aZ) []] [] Z Z Z<|zch (R:=z01) (⟨[],[]⟩:z00) 2 Z (Sp.via (Sp.prod (Sp.prod Sp.unit)))<|Es (sto 2 Z Z fH Z z3m)<|Zb Z<|z0i<|zb6 [] [1001] Z (eC 2 Z Z z2v<|eE Z<|eN) (y1 Z)
def zam (a0:V3) (c1_0:z00):Option (Bool) :=
 z1u c1_0.IDs a0 >>= fun r2 =>
 some (!r2)
theorem zhc (a0:V3) (p1_0:Value) (c1_0:z00):z1w Tryz.prog 82 [.rd aZ a0,.val (z05 p1_0 0)] [(1,some (p1_0,.box 25 [.rd z01 c1_0]))] (zam a0 c1_0) (fun r nv=>⟨[.rd z0g r],[(1,some (p1_0,.box 25 [.rd z01 c1_0]))]⟩):=by
 refine z2e 9 Tryz.func82 Z Z Z fun H w=>?_
 refine gSR<|Eb Z (bx 2 Z) fun v1=>Zb Z<|gSR<|Zq (faB 1 Z Z Tryz.underlying25 Z (by exact z4q))<|Zq (ld 1 Z Z (fP (z07 _)) z5j Z)<|Zq (ld 2 Z Z fH z36 Z)<|Zc [] [] Tryz.func77 Z (z2x _ _) fun r2 n3=>Zq (zdi Z)<|Zb Z<|z0i<|Ze [] [1] Z
def z6v (a0:List V3) (c1_0:z00) (s2:Int):Option (Sum (Sum Int Unit) Int) :=
 if decide (s2<(a0.length:Int)) then
  idx a0 s2 >>= fun x4 =>
  zam x4 c1_0 >>= fun r6 =>
  if r6 then
   some (.inl (.inl s2))
  else
   some (.inr (w64 (s2+1)))
 else
  some (.inl (.inr ()))
def z40 (a0:List V3) (c1_0:z00):Option (Int) :=
 z61 (iter (z6v a0 c1_0) 0) fun s1 =>
 some (-1)
theorem z6t (a0:List V3) (q0:Value) (l0:List V3) (p1_0:Value) (c1_0:z00):z1w Tryz.prog 114 [.vw aZ q0 l0 a0,.val (.func (.func 82) #[] #[z05 p1_0 0])] [(1,some (q0,.list aZ 62 l0)),(2,some (p1_0,.box 25 [.rd z01 c1_0]))] (z40 a0 c1_0) (fun r nv=>⟨[.rd z0c r],[(1,some (q0,.list aZ 62 l0)),(2,some (p1_0,.box 25 [.rd z01 c1_0]))]⟩):=by
 refine z2e 19 Tryz.func114 Z Z Z fun H w=>?_
 refine gSR<|Zb Z<|z83 (fun (s1:Unit) aa ww=>Sta (ctx 19 H [(1,some (q0,.list aZ 62 l0)),(2,some (p1_0,.box 25 [.rd z01 c1_0]))] w) [] [(1,some (q0,.list aZ 62 l0)),(2,some (p1_0,.box 25 [.rd z01 c1_0]))] aa ww) ?_ (fun s1=>?_)
 ·
  refine gSR<|Zm Z<|Zq (z2w Z (.vw 1 Z) Z tu22)<|Zm Z<|Zn<|z1v (fun (s2:Int) aa ww=>Sta (ctx 19 H [(1,some (q0,.list aZ 62 l0)),(2,some (p1_0,.box 25 [.rd z01 c1_0]))] w) [(0,.vw aZ q0 l0 a0),(1,.val (.func (.func 82) #[] #[z05 p1_0 0])),(7,.rd z0c (a0.length:Int)),(8,.rd z0c s2)] [(1,some (q0,.list aZ 62 l0)),(2,some (p1_0,.box 25 [.rd z01 c1_0]))] aa ww) (fun aa ww h=>Zu h [1,2]) (fun s2=>?_)
  refine gSR<|Zq (I.lss Z Z)<|Zn<|z0l<|gIf Z Z (fun h3=>?_) (fun h3=>?_)
  ·
   refine Zt<|z0l<|z49<|gSR<|Zm Z<|Zb Z<|gSR<|Zm Z<|Zm Z<|Zm Z<|z0j fun x4 h5=>Zq (ixQ 1 Z Z Z h5 tu22 z1g)<|Zq (ldQ 1 Z Z z36 Z)<|zhf [2] [(1,2)] (gd0 Z) Z Z Tryz.func82 Z Z (zhc _ _ _) (Y1 Z) (cQ 2 Z<|cN) (y1 Z) fun r6 n7=>Zj Z (fun h8=>?_) (fun h8=>?_)
   ·
    refine gSR<|Zm Z<|Zb Z<|z0i<|z47<|z0v<|z7z<|z5h<|Ze [] [1,2] Z
   ·
    refine z29<|z2q<|z0f<|z1y<|Zq (I.add Z Z)<|Zm Z<|z1q<|z19 (fun aa ww h=>Zu h [1,2])
  ·
   refine z1k<|z0o<|z0r<|z4y (fun aa ww h=>Zu h [1,2])
 ·
  refine gSR<|Zb Z<|z0i<|Ze [] [1,2] Z
def z7m (c1_0:z00) (s5:(List V3) × Int × Int):Option (Sum ((List V3) × Int) ((List V3) × Int × Int)) :=
 if decide (s5.2.2<(s5.1.length:Int)) then
  idx s5.1 s5.2.2 >>= fun x7 =>
  zam x7 c1_0 >>= fun r10 =>
  if !r10 then
   idx s5.1 s5.2.1 >>= fun x13 =>
   some (w64 (s5.2.1+1)) >>= fun y15 =>
   some (w64 (s5.2.2+1)) >>= fun y16 =>
   some (.inr (s5.1.set (s5.2.1:Int).toNat x7,y15,y16))
  else
   some (w64 (s5.2.2+1)) >>= fun y17 =>
   some (.inr (s5.1,s5.2.1,y17))
 else
  some (.inl (s5.1,s5.2.1))
def z26 (c0:List V3) (c1_0:z00):Option ((List V3)) :=
 z40 c0 c1_0 >>= fun r1 =>
 if r1==(-1) then
  some c0
 else
  (iter (z7m c1_0) (c0,r1,w64 (r1+1))) >>= fun s4 =>
  chk (0≤s4.2∧s4.2≤(s4.1.length:Int)∧(s4.1.length:Int)≤(s4.1.length:Int)) >>= fun u18 =>
  chk ((s4.2:Int).toNat+(((s4.1.length:Int):Int).toNat - (s4.2:Int).toNat)≤s4.1.length) >>= fun u20 =>
  cut (clr s4.1 ((s4.2:Int).toNat) (((s4.1.length:Int):Int).toNat - (s4.2:Int).toNat) (Vector.replicate 32 0)) 0 s4.2 >>= fun x22 =>
  some x22
theorem z7r (p0:Value) (c0:List V3) (p1_0:Value) (c1_0:z00):z1w Tryz.prog 75 [.val p0,.val (.func (.func 82) #[] #[z05 p1_0 0])] [(1,some (p0,.list aZ 62 c0)),(2,some (p1_0,.box 25 [.rd z01 c1_0]))] (z26 c0 c1_0) (fun r nv=>⟨[.val (nv 0)],[(2,some (p1_0,.box 25 [.rd z01 c1_0])),(100,some (nv 0,.list aZ 62 r))]⟩):=by
 refine z2e 42 Tryz.func75 Z Z Z fun H w=>?_
 refine gSR<|Zb Z<|gSR<|Zm Z<|Zm Z<|call [1,2] [(1,1),(2,2)] Z Tryz.func114 Z Z (z6t _ _ _ _ _) (aW Z<|aQ Z<|aN) (Zi Z<|Zi Z<|rN) fun r1 n2=>Zb Z<|z0l<|gSR<|Zm Z<|Zq (I.eql Z Z)<|Zj Z (fun h3=>?_) (fun h3=>?_)
 ·
  refine gSR<|Zm Z<|Zb Z<|z0i<|z0v<|Ze [p0] [2,1] Z
 ·
  refine Zt<|z5q (fun (s4:(List V3) × Int) aa ww=>Sta (ctx 42 H [(1,some (p0,.list aZ 62 c0)),(2,some (p1_0,.box 25 [.rd z01 c1_0]))] w) [(0,.val p0),(5,.rd z0c s4.2)] [(1,some (p0,.list aZ 62 s4.1)),(2,some (p1_0,.box 25 [.rd z01 c1_0]))] aa ww) ?_ (fun s4=>?_)
  ·
   refine gSR<|Zm Z<|Zq (I.add Z Z)<|Zb Z<|z1v (fun (s5:(List V3) × Int × Int) aa ww=>Sta (ctx 42 H [(1,some (p0,.list aZ 62 c0)),(2,some (p1_0,.box 25 [.rd z01 c1_0]))] w) [(0,.val p0),(1,.val (.func (.func 82) #[] #[z05 p1_0 0])),(5,.rd z0c s5.2.1),(6,.rd z0c s5.2.2)] [(1,some (p0,.list aZ 62 s5.1)),(2,some (p1_0,.box 25 [.rd z01 c1_0]))] aa ww) (fun aa ww h=>Zu h [1,2]) (fun s5=>?_)
   refine z0l<|gSR<|Zm Z<|Zm Z<|Zq (z2w Z (.own 1 Z) Z tu22)<|Zq (I.lss Z Z)<|Zj Z (fun h6=>?_) (fun h6=>?_)
   ·
    refine Zt<|z0l<|z49<|gSR<|Zm Z<|Zm Z<|z0j fun x7 h8=>Zq (ixO 1 Z Z Z h8 tu22 z1g)<|Zq (ld 1 Z Z (Foc.el h8) z36 Z)<|Eb Z (z52 3 z1g (.zr (R:=aZ) (x:=(Vector.replicate 32 0)) zf5)) fun v9=>Es (sto 3 Z Z fH Z z1g)<|Zn<|gSR<|Zm Z<|Zq (ld 3 Z Z fH z36 Z)<|zhf [2] [(1,2)] (gd0 Z) Z Z Tryz.func82 Z Z (zhc _ _ _) (Y1 Z) (cQ 2 Z<|cN) (y1 Z) fun r10 n11=>Zq (zdi Z)<|Zj Z (fun h12=>?_) (fun h12=>?_)
    ·
     refine gSR<|Zm Z<|Zm Z<|Zq (ld 3 Z Z fH z36 Z)<|z0j fun x13 h14=>Zq (ixO 1 Z Z Z h14 tu22 z1g)<|Es (sto 1 Z Z (Foc.el h14) Z z1g)<|Zn<|z1y<|Zm Z<|Zq (I.add Z Z)<|Za Z<|z1i 5 Z fun y15=>z1q<|z2q<|z0f<|z1y<|Zm Z<|Zq (I.add Z Z)<|Za Z<|z1i 6 Z fun y16=>z1q<|z19 (fun aa ww h=>Zu h [1,2])
    ·
     refine z29<|z2q<|z0f<|z1y<|Zm Z<|Zq (I.add Z Z)<|Za Z<|z1i 6 Z fun y17=>z1q<|z19 (fun aa ww h=>Zu h [1,2])
   ·
    refine z1k<|z0o<|z0r<|z3b (fun aa ww h=>Zu h [1,2])
  ·
   refine gSR<|Zm Z<|Zm Z<|z0j fun u18 h19=>Zq (zwe 1 Z Z (.to Z) .no (z4e h19) tu22 z1g)<|z0j fun u20 h21=>EsV (clrS 1 Z Z (z4e h21) Z tu22 z1g zf5 Z)<|Zn<|gSR<|Zm Z<|Zm Z<|z0j fun x22 h23=>Ef Z (cutO 1 Z Z Z h23 tu22 z1g) fun v24=>Zb Z<|z0i<|Ze [v24] [2,1] Z
def zcy (a0:z00) (a1:List V3):Option ((List V3)) :=
 z0w a1 >>= fun r2 =>
 z26 r2 a0 >>= fun r4 =>
 zp1 r4 >>= fun r6 =>
 z14 r6 >>= fun r8 =>
 zdb a0 r8 >>= fun r10 =>
 some r10.1.IDs
theorem zje (a0:z00) (a1:List V3):z1w Tryz.prog 47 [.rd z01 a0,.rd (z02 aZ) a1] [zG1] (zcy a0 a1) (fun r nv=>⟨[.rd (z02 aZ) r],[(1001,some (.bool true,.glob 1 (z3r 64 z10) z8a))]⟩):=by
 refine z2e 23 Tryz.func47 Z Z Z fun H w=>?_
 refine gSR<|Eb Z (bx 1 Z) fun v1=>Zb Z<|gSR<|Zm Z<|Zc [] [(100,2)] Tryz.func46 Z (z1t _) fun r2 n3=>Zq (mkf mp0 (mp1 Z))<|Zc [2,1] [(100,3),(2,1)] Tryz.func75 Z (z7r _ _ _ _) fun r4 n5=>Zb Z<|gSR<|Zm Z<|Zc [3] [(1,3)] Tryz.func78 Z (zrk _ _) fun r6 n7=>Zn<|z0l<|z57 [3,10,25,1001] mixed Z Z<|hTk 0 Z Z (ld 1 Z Z fH z2v Z)<|hTk 1 Z Z (mv Z)<|hAlt [2,7] (by kernel_rfl) Z ⟨?_,?_,trivial⟩
 ·
  refine z13l 2 [3] [(100,10)] Z Z (gd0 Z) Z Tryz.func80 Z Z (z30 _ _) (Y1 Z) (y1 Z) Z (fun _ _=>z2t) fun r8 n9=>hAlt [3,7] (by kernel_rfl) Z ⟨?_,?_,trivial⟩
  ·
   refine oFrz 10 [17] Z (fS Z<|fN)<|z16h 3 [1001] [] Z Z (gd0 Z) Z Tryz.func83 Z Z (zd0 _ _) (Y2 Z Z) (y1 Z) Z fun r10 n11=>zdl 4 Z (by kernel_rfl) (by kernel_rfl) (by kernel_rfl) (gd0 Z) Z Z (mv Z)<|zdl 5 Z (by kernel_rfl) (by kernel_rfl) (by kernel_rfl) (gd0 Z) Z Z (ext Z Z)<|Zf 6 Z Z z2j (ext Z Z)<|hDoB 7 Z (by kernel_rfl) (gd0 Z) Z Z Z (z52 25 z3m (ZrE.nilS (ZrE.nilS ZrE.nil))) fun v12=>zr8 aZ [.rd (z02 aZ) [],.val (.slice none 0 0)] 25 [] [.val (.slice none 0 0)] Z Z Z<|zr8 z03 [.rd (z02 aZ) [],.rd (z02 z03) []] 25 [.rd (z02 aZ) []] [] Z Z Z<|hJoi (R:=z01) (⟨[],[]⟩:z00) 25 Z (Sp.via (Sp.prod (Sp.prod Sp.unit)))<|Zp 8 Z Z Z Z Z (sto 25 Z Z fH Z z3m)<|hTk 9 Z Z (asg Z)<|z3q (by kernel_rfl)<|z0f<|gSR<|Zq (faB 25 Z Z Tryz.underlying25 Z (by exact z4q))<|Zq (ld 25 Z Z (fP (z07 _)) z5j Z)<|Zb Z<|z0i<|Ze [] [1001] Z
  ·
   refine oDoB 7 Z (gd0 Z) Z Z Z (z52 25 z3m (ZrE.nilS (ZrE.nilS ZrE.nil))) fun v13=>zr7 10 [17] Z (fS Z<|fN)<|zhn 3 [1001] [] Z (by kernel_rfl) Z (gd0 Z) Z Tryz.func83 Z Z (zd0 _ _) (Y2 Z Z) (y1 Z) Z fun r14 n15=>zdl 4 Z (by kernel_rfl) (by kernel_rfl) (by kernel_rfl) (gd0 Z) Z Z (mv Z)<|zdl 5 Z (by kernel_rfl) (by kernel_rfl) (by kernel_rfl) (gd0 Z) Z Z (ext Z Z)<|Zf 6 Z Z z2j (ext Z Z)<|zr8 aZ [.rd (z02 aZ) [],.val (.slice none 0 0)] 25 [] [.val (.slice none 0 0)] Z Z Z<|zr8 z03 [.rd (z02 aZ) [],.rd (z02 z03) []] 25 [.rd (z02 aZ) []] [] Z Z Z<|hJoi (R:=z01) (⟨[],[]⟩:z00) 25 Z (Sp.via (Sp.prod (Sp.prod Sp.unit)))<|Zp 8 Z Z Z Z Z (sto 25 Z Z fH Z z3m)<|hTk 9 Z Z (asg Z)<|z3q (by kernel_rfl)<|z0f<|gSR<|Zq (faB 25 Z Z Tryz.underlying25 Z (by exact z4q))<|Zq (ld 25 Z Z (fP (z07 _)) z5j Z)<|Zb Z<|z0i<|Ze [] [1001] Z
 ·
  refine oDoB 7 Z (gd0 Z) Z Z Z (z52 25 z3m (ZrE.nilS (ZrE.nilS ZrE.nil))) fun v16=>z3h 2 [3] [(100,10)] Z (by kernel_rfl) Z (gd0 Z) Z Tryz.func80 Z Z (z30 _ _) (Y1 Z) (y1 Z) Z (fun _ _=>z2t) fun r17 n18=>zr7 10 [17] Z (fS Z<|fN)<|zhn 3 [1001] [] Z (by kernel_rfl) Z (gd0 Z) Z Tryz.func83 Z Z (zd0 _ _) (Y2 Z Z) (y1 Z) Z fun r19 n20=>zdl 4 Z (by kernel_rfl) (by kernel_rfl) (by kernel_rfl) (gd0 Z) Z Z (mv Z)<|zdl 5 Z (by kernel_rfl) (by kernel_rfl) (by kernel_rfl) (gd0 Z) Z Z (ext Z Z)<|Zf 6 Z Z z2j (ext Z Z)<|zr8 aZ [.rd (z02 aZ) [],.val (.slice none 0 0)] 25 [] [.val (.slice none 0 0)] Z Z Z<|zr8 z03 [.rd (z02 aZ) [],.rd (z02 z03) []] 25 [.rd (z02 aZ) []] [] Z Z Z<|hJoi (R:=z01) (⟨[],[]⟩:z00) 25 Z (Sp.via (Sp.prod (Sp.prod Sp.unit)))<|Zp 8 Z Z Z Z Z (sto 25 Z Z fH Z z3m)<|hTk 9 Z Z (asg Z)<|z3q (by kernel_rfl)<|z0f<|gSR<|Zq (faB 25 Z Z Tryz.underlying25 Z (by exact z4q))<|Zq (ld 25 Z Z (fP (z07 _)) z5j Z)<|Zb Z<|z0i<|Ze [] [1001] Z
def z6l (r17:(List V3) × Int) (s19:(List V3) × Int):Option (Sum ((List V3)) ((List V3) × Int)) :=
 if decide (s19.2<(r17.1.length:Int)) then
  idx r17.1 s19.2 >>= fun x21 =>
  z9o s19.1 x21 >>= fun r23 =>
  some (w64 (s19.2+1)) >>= fun y25 =>
  some (.inr (r23,y25))
 else
  some (.inl s19.1)
def z6k (a0:z00) (a1:List V3) (s3:(List V3) × Int):Option (Sum ((List V3)) ((List V3) × Int)) :=
 if decide (s3.2<(a1.length:Int)) then
  (idx a1 s3.2 >>= fun x6 =>
  z7s a0.IDs x6 >>= fun r8 =>
  if !r8 then
   some s3.1
  else
   idx a1 s3.2 >>= fun x11 =>
   z9o s3.1 x11 >>= fun r13 =>
   idx a1 s3.2 >>= fun x15 =>
   z8b a0 x15 >>= fun r17 =>
   iter (z6l r17) (r13,0)) >>= fun s5 =>
  some (w64 (s3.2+1)) >>= fun y26 =>
  some (.inr (s5,y26))
 else
  some (.inl s3.1)
def z79 (a0:z00) (a1:List V3):Option ((List V3)) :=
 (iter (z6k a0 a1) ([],0)) >>= fun s2 =>
 some s2
end
section
open Go Go.RowKit
set_option maxRecDepth 100000
theorem zei (a0:z00) (a1:List V3):z1w Tryz.prog 48 [.rd z01 a0,.rd (z02 aZ) a1] [] (z79 a0 a1) (fun r nv=>⟨[.rd (z02 aZ) r],[]⟩):=by
 refine z2e 52 Tryz.func48 Z Z Z fun H w=>?_
 refine gSR<|Eb Z (bx 1 Z) fun v1=>Zb Z<|gSR<|Zb Z<|z5q (fun (s2:(List V3)) aa ww=>Sta (ctx 52 H [] w) [(5,.rd (z02 aZ) s2)] [] aa ww) ?_ (fun s2=>?_)
 ·
  refine gSR<|Zb Z<|z13d aZ 5 Z<|z1v (fun (s3:(List V3) × Int) aa ww=>Sta (ctx 52 H [] w) [(1,.rd (z02 aZ) a1),(2,.val (z05 v1 0)),(5,.rd (z02 aZ) s3.1),(6,.rd z0c s3.2)] [(1,some (v1,.box 25 [.rd z01 a0]))] aa ww) (fun aa ww h=>Zu h [1]) (fun s3=>?_)
  refine z0l<|gSR<|Zm Z<|Zm Z<|Zq (z2w Z .rd Z tu22)<|Zq (I.lss Z Z)<|Zj Z (fun h4=>?_) (fun h4=>?_)
  ·
   refine Zt<|z5q (fun (s5:(List V3)) aa ww=>Sta (ctx 52 H [] w) [(1,.rd (z02 aZ) a1),(2,.val (z05 v1 0)),(5,.rd (z02 aZ) s5),(6,.rd z0c s3.2)] [(1,some (v1,.box 25 [.rd z01 a0]))] aa ww) ?_ (fun s5=>?_)
   ·
    refine z49<|z0l<|z0l<|z57 [] mixed Z Z<|hTk 0 Z Z (faB 1 Z Z Tryz.underlying25 Z (by exact z4q))<|hTk 1 Z Z (ld 1 Z Z (fP (z07 _)) z5j Z)<|hTk 2 Z Z (mv Z)<|hTk 3 Z Z (mv Z)<|z3j fun x6 h7=>hTk 4 Z Z (ixR Z Z h7 tu22 z1g Z)<|hTk 5 Z Z (ldR Z z36)<|z3h 6 [] [] Z (by kernel_rfl) Z (gd0 Z) Z Tryz.func32 Z Z (z95 _ _) (Y2 Z Z) rN Z (fun _ _=>z9f) fun r8 n9=>hTk 7 Z Z (zdi Z)<|z3q (by kernel_rfl)<|z0f<|gIf Z Z (fun h10=>?_) (fun h10=>?_)
    ·
     refine z1k<|z0o<|z103<|z3b (fun aa ww h=>Zu h [1])
    ·
     refine Zt<|gSR<|Zm Z<|Zm Z<|Zm Z<|z0j fun x11 h12=>Zq (ixR Z Z h12 tu22 z1g Z)<|Zq (ldR Z z36)<|Zc [] [] Tryz.func45 Z (zd6 _ _) fun r13 n14=>Zb Z<|z0l<|z57 [44] mixed Z Z<|hTk 0 Z Z (ld 1 Z Z fH z2v Z)<|hTk 1 Z Z (mv Z)<|hTk 2 Z Z (mv Z)<|z3j fun x15 h16=>hTk 3 Z Z (ixR Z Z h16 tu22 z1g Z)<|hTk 4 Z Z (ldR Z z36)<|z3h 5 [] [(100,44)] Z (by kernel_rfl) Z (gd0 Z) Z Tryz.func84 Z Z (zgh _ _) (Y2 Z Z) rN Z (fun _ _=>(z11e (flC z2t (flC z2j fl0)))) fun r17 n18=>hTk 6 Z Z (mv Z)<|hTk 7 Z Z (ext Z Z)<|hTk 8 Z Z (ext Z Z)<|Zf 9 Z Z z2t (asg Z)<|hTk 10 Z Z (asg Z)<|z3q (by kernel_rfl)<|z0f<|gSR<|Zb Z<|z1v (fun (s19:(List V3) × Int) aa ww=>Sta (ctx 52 H [] w) [(1,.rd (z02 aZ) a1),(2,.val (z05 v1 0)),(5,.rd (z02 aZ) s19.1),(6,.rd z0c s3.2),(7,.val (n18 0)),(9,.rd z0c s19.2)] [(1,some (v1,.box 25 [.rd z01 a0])),(44,some ((n18 0),.list aZ 62 r17.1))] aa ww) (fun aa ww h=>Zu h [1,44]) (fun s19=>?_)
     refine z0l<|gSR<|Zm Z<|Zm Z<|Zq (z2w Z (.own 44 Z) Z tu22)<|Zq (I.lss Z Z)<|Zj Z (fun h20=>?_) (fun h20=>?_)
     ·
      refine Zt<|z0l<|z49<|z1y<|Zm Z<|Zm Z<|Zm Z<|z0j fun x21 h22=>Zq (ixO 44 Z Z Z h22 tu22 z1g)<|Zq (ld 44 Z Z (Foc.el h22) z36 Z)<|Zc [] [] Tryz.func45 Z (zd6 _ _) fun r23 n24=>Za Z<|z1q<|z2q<|z0f<|z1y<|Zm Z<|Zq (I.add Z Z)<|Za Z<|z1i 9 Z fun y25=>z1q<|z19 (fun aa ww h=>Zu h [1,44])
     ·
      refine z1k<|z0o<|z0r<|z2q<|z3b (fun aa ww h=>Zu h [1])
   ·
    refine z1y<|Zm Z<|Zq (I.add Z Z)<|Za Z<|z1i 6 Z fun y26=>z1q<|z19 (fun aa ww h=>Zu h [1])
  ·
   refine z1k<|z0o<|z0r<|z3b (fun aa ww h=>Zu h [])
 ·
  refine gSR<|Zm Z<|Zb Z<|z0i<|Ze [] [] Z
def zaa (a0:V3) (c1_0:List V3) (c2_0:List V3):Option (Bool) :=
 z1u c1_0 a0 >>= fun r2 =>
 if !r2 then
  some true
 else
  z1u c2_0 a0 >>= fun r5 =>
  some r5
theorem zi6 (a0:V3) (p1_0:Value) (c1_0:List V3) (p2_0:Value) (c2_0:List V3):z1w Tryz.prog 86 [.rd aZ a0,.val (z05 p1_0 0),.val (z05 p2_0 0)] [(1,some (p1_0,.box 22 [.rd (z02 aZ) c1_0])),(2,some (p2_0,.box 22 [.rd (z02 aZ) c2_0]))] (zaa a0 c1_0 c2_0) (fun r nv=>⟨[.rd z0g r],[(1,some (p1_0,.box 22 [.rd (z02 aZ) c1_0])),(2,some (p2_0,.box 22 [.rd (z02 aZ) c2_0]))]⟩):=by
 refine z2e 14 Tryz.func86 Z Z Z fun H w=>?_
 refine gSR<|Eb Z (bx 3 Z) fun v1=>Zb Z<|gSR<|Zq (ld 1 Z Z fH z5j Z)<|Zq (ld 3 Z Z fH z36 Z)<|Zc [] [] Tryz.func77 Z (z2x _ _) fun r2 n3=>Zq (zdi Z)<|Zm Z<|z1d 9 Z (fun h4=>?_) (fun h4=>?_)
 ·
  refine lKn 8 Z h4<|Zk Z<|Zk Z<|Zk Z<|Zq (pkT Z Z)<|Zb Z<|z0i<|Ze [] [1,2] Z
 ·
  refine lKn 8 Z h4<|z0y Zx Z Z (ld 2 Z Z fH z5j Z)<|z0y Zx Z Z (ld 3 Z Z fH z36 Z)<|ze0 [] [] Zx Z Tryz.func77 Z Z (z2x _ _) (Y2 Z Z) rN fun r5 n6=>Zq (pkF Z Z)<|Zb Z<|z0i<|Ze [] [1,2] Z
def z71 (a0:List V3) (c1_0:List V3) (c1_1:List V3) (s2:Int):Option (Sum (Sum Int Unit) Int) :=
 if decide (s2<(a0.length:Int)) then
  idx a0 s2 >>= fun x4 =>
  zaa x4 c1_0 c1_1 >>= fun r6 =>
  if r6 then
   some (.inl (.inl s2))
  else
   some (.inr (w64 (s2+1)))
 else
  some (.inl (.inr ()))
def z42 (a0:List V3) (c1_0:List V3) (c1_1:List V3):Option (Int) :=
 z61 (iter (z71 a0 c1_0 c1_1) 0) fun s1 =>
 some (-1)
theorem z73 (a0:List V3) (q0:Value) (l0:List V3) (p1_0:Value) (c1_0:List V3) (p1_1:Value) (c1_1:List V3):z1w Tryz.prog 114 [.vw aZ q0 l0 a0,.val (.func (.func 86) #[] #[z05 p1_0 0,z05 p1_1 0])] [(1,some (q0,.list aZ 62 l0)),(2,some (p1_0,.box 22 [.rd (z02 aZ) c1_0])),(3,some (p1_1,.box 22 [.rd (z02 aZ) c1_1]))] (z42 a0 c1_0 c1_1) (fun r nv=>⟨[.rd z0c r],[(1,some (q0,.list aZ 62 l0)),(2,some (p1_0,.box 22 [.rd (z02 aZ) c1_0])),(3,some (p1_1,.box 22 [.rd (z02 aZ) c1_1]))]⟩):=by
 refine z2e 19 Tryz.func114 Z Z Z fun H w=>?_
 refine gSR<|Zb Z<|z83 (fun (s1:Unit) aa ww=>Sta (ctx 19 H [(1,some (q0,.list aZ 62 l0)),(2,some (p1_0,.box 22 [.rd (z02 aZ) c1_0])),(3,some (p1_1,.box 22 [.rd (z02 aZ) c1_1]))] w) [] [(1,some (q0,.list aZ 62 l0)),(2,some (p1_0,.box 22 [.rd (z02 aZ) c1_0])),(3,some (p1_1,.box 22 [.rd (z02 aZ) c1_1]))] aa ww) ?_ (fun s1=>?_)
 ·
  refine gSR<|Zm Z<|Zq (z2w Z (.vw 1 Z) Z tu22)<|Zm Z<|Zn<|z1v (fun (s2:Int) aa ww=>Sta (ctx 19 H [(1,some (q0,.list aZ 62 l0)),(2,some (p1_0,.box 22 [.rd (z02 aZ) c1_0])),(3,some (p1_1,.box 22 [.rd (z02 aZ) c1_1]))] w) [(0,.vw aZ q0 l0 a0),(1,.val (.func (.func 86) #[] #[z05 p1_0 0,z05 p1_1 0])),(7,.rd z0c (a0.length:Int)),(8,.rd z0c s2)] [(1,some (q0,.list aZ 62 l0)),(2,some (p1_0,.box 22 [.rd (z02 aZ) c1_0])),(3,some (p1_1,.box 22 [.rd (z02 aZ) c1_1]))] aa ww) (fun aa ww h=>Zu h [1,2,3]) (fun s2=>?_)
  refine gSR<|Zq (I.lss Z Z)<|Zn<|z0l<|gIf Z Z (fun h3=>?_) (fun h3=>?_)
  ·
   refine Zt<|z0l<|z49<|gSR<|Zm Z<|Zb Z<|gSR<|Zm Z<|Zm Z<|Zm Z<|z0j fun x4 h5=>Zq (ixQ 1 Z Z Z h5 tu22 z1g)<|Zq (ldQ 1 Z Z z36 Z)<|zhf [2,3] [(1,2),(2,3)] (gd0 Z) Z Z Tryz.func86 Z Z (zi6 _ _ _ _ _) (Y1 Z) (cQ 2 Z<|cQ 3 Z<|cN) (Zi Z<|Zi Z<|rN) fun r6 n7=>Zj Z (fun h8=>?_) (fun h8=>?_)
   ·
    refine gSR<|Zm Z<|Zb Z<|z0i<|z47<|z0v<|z7z<|z5h<|Ze [] [1,2,3] Z
   ·
    refine z29<|z2q<|z0f<|z1y<|Zq (I.add Z Z)<|Zm Z<|z1q<|z19 (fun aa ww h=>Zu h [1,2,3])
  ·
   refine z1k<|z0o<|z0r<|z4y (fun aa ww h=>Zu h [1,2,3])
 ·
  refine gSR<|Zb Z<|z0i<|Ze [] [1,2,3] Z
def z82 (c1_0:List V3) (c1_1:List V3) (s5:(List V3) × Int × Int):Option (Sum ((List V3) × Int) ((List V3) × Int × Int)) :=
 if decide (s5.2.2<(s5.1.length:Int)) then
  idx s5.1 s5.2.2 >>= fun x7 =>
  zaa x7 c1_0 c1_1 >>= fun r10 =>
  if !r10 then
   idx s5.1 s5.2.1 >>= fun x13 =>
   some (w64 (s5.2.1+1)) >>= fun y15 =>
   some (w64 (s5.2.2+1)) >>= fun y16 =>
   some (.inr (s5.1.set (s5.2.1:Int).toNat x7,y15,y16))
  else
   some (w64 (s5.2.2+1)) >>= fun y17 =>
   some (.inr (s5.1,s5.2.1,y17))
 else
  some (.inl (s5.1,s5.2.1))
def z35 (c0:List V3) (c1_0:List V3) (c1_1:List V3):Option ((List V3)) :=
 z42 c0 c1_0 c1_1 >>= fun r1 =>
 if r1==(-1) then
  some c0
 else
  (iter (z82 c1_0 c1_1) (c0,r1,w64 (r1+1))) >>= fun s4 =>
  chk (0≤s4.2∧s4.2≤(s4.1.length:Int)∧(s4.1.length:Int)≤(s4.1.length:Int)) >>= fun u18 =>
  chk ((s4.2:Int).toNat+(((s4.1.length:Int):Int).toNat - (s4.2:Int).toNat)≤s4.1.length) >>= fun u20 =>
  cut (clr s4.1 ((s4.2:Int).toNat) (((s4.1.length:Int):Int).toNat - (s4.2:Int).toNat) (Vector.replicate 32 0)) 0 s4.2 >>= fun x22 =>
  some x22
theorem z86 (p0:Value) (c0:List V3) (p1_0:Value) (c1_0:List V3) (p1_1:Value) (c1_1:List V3):z1w Tryz.prog 75 [.val p0,.val (.func (.func 86) #[] #[z05 p1_0 0,z05 p1_1 0])] [(1,some (p0,.list aZ 62 c0)),(2,some (p1_0,.box 22 [.rd (z02 aZ) c1_0])),(3,some (p1_1,.box 22 [.rd (z02 aZ) c1_1]))] (z35 c0 c1_0 c1_1) (fun r nv=>⟨[.val (nv 0)],[(2,some (p1_0,.box 22 [.rd (z02 aZ) c1_0])),(3,some (p1_1,.box 22 [.rd (z02 aZ) c1_1])),(100,some (nv 0,.list aZ 62 r))]⟩):=by
 refine z2e 42 Tryz.func75 Z Z Z fun H w=>?_
 refine gSR<|Zb Z<|gSR<|Zm Z<|Zm Z<|call [1,2,3] [(1,1),(2,2),(3,3)] Z Tryz.func114 Z Z (z73 _ _ _ _ _ _ _) (aW Z<|aQ Z<|aN) (Zi Z<|Zi Z<|Zi Z<|rN) fun r1 n2=>Zb Z<|z0l<|gSR<|Zm Z<|Zq (I.eql Z Z)<|Zj Z (fun h3=>?_) (fun h3=>?_)
 ·
  refine gSR<|Zm Z<|Zb Z<|z0i<|z0v<|Ze [p0] [2,3,1] Z
 ·
  refine Zt<|z5q (fun (s4:(List V3) × Int) aa ww=>Sta (ctx 42 H [(1,some (p0,.list aZ 62 c0)),(2,some (p1_0,.box 22 [.rd (z02 aZ) c1_0])),(3,some (p1_1,.box 22 [.rd (z02 aZ) c1_1]))] w) [(0,.val p0),(5,.rd z0c s4.2)] [(1,some (p0,.list aZ 62 s4.1)),(2,some (p1_0,.box 22 [.rd (z02 aZ) c1_0])),(3,some (p1_1,.box 22 [.rd (z02 aZ) c1_1]))] aa ww) ?_ (fun s4=>?_)
  ·
   refine gSR<|Zm Z<|Zq (I.add Z Z)<|Zb Z<|z1v (fun (s5:(List V3) × Int × Int) aa ww=>Sta (ctx 42 H [(1,some (p0,.list aZ 62 c0)),(2,some (p1_0,.box 22 [.rd (z02 aZ) c1_0])),(3,some (p1_1,.box 22 [.rd (z02 aZ) c1_1]))] w) [(0,.val p0),(1,.val (.func (.func 86) #[] #[z05 p1_0 0,z05 p1_1 0])),(5,.rd z0c s5.2.1),(6,.rd z0c s5.2.2)] [(1,some (p0,.list aZ 62 s5.1)),(2,some (p1_0,.box 22 [.rd (z02 aZ) c1_0])),(3,some (p1_1,.box 22 [.rd (z02 aZ) c1_1]))] aa ww) (fun aa ww h=>Zu h [1,2,3]) (fun s5=>?_)
   refine z0l<|gSR<|Zm Z<|Zm Z<|Zq (z2w Z (.own 1 Z) Z tu22)<|Zq (I.lss Z Z)<|Zj Z (fun h6=>?_) (fun h6=>?_)
   ·
    refine Zt<|z0l<|z49<|gSR<|Zm Z<|Zm Z<|z0j fun x7 h8=>Zq (ixO 1 Z Z Z h8 tu22 z1g)<|Zq (ld 1 Z Z (Foc.el h8) z36 Z)<|Eb Z (z52 4 z1g (.zr (R:=aZ) (x:=(Vector.replicate 32 0)) zf5)) fun v9=>Es (sto 4 Z Z fH Z z1g)<|Zn<|gSR<|Zm Z<|Zq (ld 4 Z Z fH z36 Z)<|zhf [2,3] [(1,2),(2,3)] (gd0 Z) Z Z Tryz.func86 Z Z (zi6 _ _ _ _ _) (Y1 Z) (cQ 2 Z<|cQ 3 Z<|cN) (Zi Z<|Zi Z<|rN) fun r10 n11=>Zq (zdi Z)<|Zj Z (fun h12=>?_) (fun h12=>?_)
    ·
     refine gSR<|Zm Z<|Zm Z<|Zq (ld 4 Z Z fH z36 Z)<|z0j fun x13 h14=>Zq (ixO 1 Z Z Z h14 tu22 z1g)<|Es (sto 1 Z Z (Foc.el h14) Z z1g)<|Zn<|z1y<|Zm Z<|Zq (I.add Z Z)<|Za Z<|z1i 5 Z fun y15=>z1q<|z2q<|z0f<|z1y<|Zm Z<|Zq (I.add Z Z)<|Za Z<|z1i 6 Z fun y16=>z1q<|z19 (fun aa ww h=>Zu h [1,2,3])
    ·
     refine z29<|z2q<|z0f<|z1y<|Zm Z<|Zq (I.add Z Z)<|Za Z<|z1i 6 Z fun y17=>z1q<|z19 (fun aa ww h=>Zu h [1,2,3])
   ·
    refine z1k<|z0o<|z0r<|z3b (fun aa ww h=>Zu h [1,2,3])
  ·
   refine gSR<|Zm Z<|Zm Z<|z0j fun u18 h19=>Zq (zwe 1 Z Z (.to Z) .no (z4e h19) tu22 z1g)<|z0j fun u20 h21=>EsV (clrS 1 Z Z (z4e h21) Z tu22 z1g zf5 Z)<|Zn<|gSR<|Zm Z<|Zm Z<|z0j fun x22 h23=>Ef Z (cutO 1 Z Z Z h23 tu22 z1g) fun v24=>Zb Z<|z0i<|Ze [v24] [2,3,1] Z
def zec (a0:z00) (a1:List V3) (a2:List V3):Option ((List V3)) :=
 zcy a0 a1 >>= fun r2 =>
 zcy a0 a2 >>= fun r5 =>
 z9n a0 >>= fun r9 =>
 z35 r9.1 r2 r5 >>= fun r11 =>
 some r11
set_option maxHeartbeats 4000000 in
theorem zr2 (a0:z00) (a1:List V3) (a2:List V3):z1w Tryz.prog 49 [.rd z01 a0,.rd (z02 aZ) a1,.rd (z02 aZ) a2] [zG1] (zec a0 a1 a2) (fun r nv=>⟨[.val (nv 0)],[(1001,some (.bool true,.glob 1 (z3r 64 z10) z8a)),(100,some (nv 0,.list aZ 62 r))]⟩):=by
 refine z2e 25 Tryz.func49 Z Z Z fun H w=>?_
 refine gSR<|Eb Z (bx 1 Z) fun v1=>Zb Z<|z0l<|zro [(1,.rd (z02 aZ) a1),(2,.rd (z02 aZ) a2),(3,.val (z05 v1 0))] [zG1,(1,some (v1,.box 25 [.rd z01 a0]))] [1001,1] (sS Z<|sS Z<|sS Z<|sN) (Zi Z<|Zi Z<|rN)<|z4s fun r2 h4=>z4s fun r5 h7=>gOr [] [⟨1,some ([], fun nv=>(v1,.box 25 [.rd z01 a0])),[]⟩,⟨1001,some ([], fun nv=>((.bool true),.glob 1 (z3r 64 z10) z8a)),[]⟩,⟨2,none,[(6,some ([1], fun nv=>((nv 1),.box 22 [.val (.slice none 0 0)]))),(8,some ([1], fun nv=>((nv 1),.box 22 [.rd (z02 aZ) r2])))]⟩,⟨3,none,[(7,some ([2], fun nv=>((nv 2),.box 22 [.val (.slice none 0 0)]))),(9,some ([2], fun nv=>((nv 2),.box 22 [.rd (z02 aZ) r5])))]⟩] [pk 11 (.rd z01 a0) [(0,0,false)],pd 12 (.rd (z02 aZ) a1),pk 13 (.rd (z02 aZ) r2) [(1,0,false)],pk 14 (.rd z01 a0) [(0,0,false)],pd 15 (.rd (z02 aZ) a2),pk 16 (.rd (z02 aZ) r5) [(1,0,false)],⟨some (7,[1], fun nv=>.val (z05 (nv 1) 0)),[(2,0,true)],[1],[]⟩,⟨some (8,[2], fun nv=>.val (z05 (nv 2) 0)),[(3,0,true)],[2],[]⟩,⟨none,[(2,1,true)],[],[]⟩,⟨none,[(3,1,true)],[],[]⟩] mixed (oC (oRn (fun nv E=>ld 1 Z Z fH z2v Z))<|oC (oRn (fun nv E=>mv Z))<|oC (oCl [] [1001] [] h4 Tryz.func47 Z (fun nv=>(zje _ _)) (fun nv=>(Y2 Z Z)) (fun nv E=>(y1 Z)))<|oC (oRn (fun nv E=>ld 1 Z Z fH z2v Z))<|oC (oRn (fun nv E=>mv Z))<|oC (oCl [] [1001] [] h7 Tryz.func47 Z (fun nv=>(zje _ _)) (fun nv=>(Y2 Z Z)) (fun nv E=>(y1 Z)))<|oC (oEb 2 1 (fun nv E=>z52 2 z4q (.val Z)))<|oC (oEb 3 2 (fun nv E=>z52 3 z4q (.val Z)))<|oC (oEs 2 (fun nv E=>znn 2 Z Z (.here z04) Z z9t z0u z4q))<|oC (oEs 3 (fun nv E=>znn 3 Z Z (.here z04) Z z9t z0u z4q))<|oN) fun n8=>z0f<|gSR<|Zq (ld 1 Z Z fH z2v Z)<|Zc [1001] [(100,4)] Tryz.func85 Z (zm4 _) fun r9 n10=>Zm Z<|Zq (ext Z Z)<|Zq (ext Z Z)<|Za Z<|Zb Z<|gSR<|Zm Z<|Zq (mkf mp0 (mp2 Z Z))<|Zc [4,2,3] [(100,5),(2,2),(3,3)] Tryz.func75 Z (z86 _ _ _ _ _ _) fun r11 n12=>Zb Z<|z0i<|Ze [(n12 0)] [1001,5] Z
def za1 (r2:(List V3)) (r4:(List V3)) (r6:(List V3) × Int) (s9:(List V3) × Int):Option (Sum ((List V3)) ((List V3) × Int)) :=
 if decide (s9.2<(r6.1.length:Int)) then
  (idx r6.1 s9.2 >>= fun x13 =>
  z7s r2 x13 >>= fun r15 =>
  if r15 then
   idx r6.1 s9.2 >>= fun x18 =>
   z7s r4 x18 >>= fun r20 =>
   some (!r20)
  else
   some false) >>= fun s12 =>
  if s12 then
   idx r6.1 s9.2 >>= fun x23 =>
   app 32 s9.1 [x23] >>= fun x26 =>
   some (w64 (s9.2+1)) >>= fun y29 =>
   some (.inr (x26,y29))
  else
   some (w64 (s9.2+1)) >>= fun y30 =>
   some (.inr (s9.1,y30))
 else
  some (.inl s9.1)
def zah (a0:z00) (a1:List V3) (a2:List V3):Option ((List V3)) :=
 z79 a0 a1 >>= fun r2 =>
 z79 a0 a2 >>= fun r4 =>
 z9e a0 >>= fun r6 =>
 (iter (za1 r2 r4 r6) ([],0)) >>= fun s8 =>
 some s8
theorem zl5 (a0:z00) (a1:List V3) (a2:List V3):z1w Tryz.prog 50 [.rd z01 a0,.rd (z02 aZ) a1,.rd (z02 aZ) a2] [] (zah a0 a1 a2) (fun r nv=>⟨[.val (nv 0)],[(100,some (nv 0,.list aZ 62 r))]⟩):=by
 refine z2e 53 Tryz.func50 Z Z Z fun H w=>?_
 refine gSR<|Eb Z (bx 1 Z) fun v1=>Zb Z<|z0l<|z57 [] mixed Z Z<|hTk 0 Z Z (ld 1 Z Z fH z2v Z)<|hTk 1 Z Z (mv Z)<|hTk 3 Z Z (ld 1 Z Z fH z2v Z)<|hTk 4 Z Z (mv Z)<|zhn 2 [] [] Z (by kernel_rfl) Z (gd0 Z) Z Tryz.func48 Z Z (zei _ _) (Y2 Z Z) rN Z fun r2 n3=>zhn 5 [] [] Z (by kernel_rfl) Z (gd0 Z) Z Tryz.func48 Z Z (zei _ _) (Y2 Z Z) rN Z fun r4 n5=>zdl 6 Z (by kernel_rfl) (by kernel_rfl) (by kernel_rfl) (gd0 Z) Z Z (asg Z)<|zdl 7 Z (by kernel_rfl) (by kernel_rfl) (by kernel_rfl) (gd0 Z) Z Z (asg Z)<|z3q (by kernel_rfl)<|z0f<|gSR<|Zq (ld 1 Z Z fH z2v Z)<|Zc [] [(100,29)] Tryz.func87 Z (zk5 _) fun r6 n7=>Zm Z<|Zq (ext Z Z)<|Zq (ext Z Z)<|Za Z<|Zb Z<|gSR<|Zb Z<|z5q (fun (s8:(List V3)) aa ww=>∃ nv:Nat→Value,Sta (ctx 53 H [] w) [(11,.val (nv 0))] [(31,some ((nv 0),.list aZ 62 s8))] aa ww) ?_ (fun s8=>?_)
 ·
  refine gSR<|Zb Z<|zpu aZ 62 34<|z1v (fun (s9:(List V3) × Int) aa ww=>∃ nv:Nat→Value,Sta (ctx 53 H [] w) [(7,.rd (z02 aZ) r2),(8,.rd (z02 aZ) r4),(9,.val (n7 0)),(11,.val (nv 0)),(12,.rd z0c s9.2)] [(29,some ((n7 0),.list aZ 62 r6.1)),(33,some ((nv 0),.list aZ 62 s9.1))] aa ww) (fun aa ww h=>⟨nvl [(.slice none 0 0)],Zu h [29,34]⟩) (fun s9=>?_)
  refine gEx fun n10=>z0l<|gSR<|Zm Z<|Zm Z<|Zq (z2w Z (.own 29 Z) Z tu22)<|Zq (I.lss Z Z)<|Zj Z (fun h11=>?_) (fun h11=>?_)
  ·
   refine Zt<|z0l<|z49<|z5q (fun (s12:Bool) aa ww=>Sta (ctx 53 H [] w) [(7,.rd (z02 aZ) r2),(8,.rd (z02 aZ) r4),(9,.val (n7 0)),(11,.val (n10 0)),(12,.rd z0c s9.2),(44,.rd z0g s12)] [(29,some ((n7 0),.list aZ 62 r6.1)),(33,some ((n10 0),.list aZ 62 s9.1))] aa ww) ?_ (fun s12=>?_)
   ·
    refine z1y<|Zm Z<|Zm Z<|Zm Z<|z0j fun x13 h14=>Zq (ixO 29 Z Z Z h14 tu22 z1g)<|Zq (ld 29 Z Z (Foc.el h14) z36 Z)<|Zc [] [] Tryz.func32 Z (z95 _ _) fun r15 n16=>Zm Z<|z1d 36 Z (fun h17=>?_) (fun h17=>?_)
    ·
     refine lKn 35 Z h17<|z0y Zx Z Z (mv Z)<|z0y Zx Z Z (mv Z)<|z0y Zx Z Z (mv Z)<|z0j fun x18 h19=>z0y Zx Z Z (ixO 29 Z Z Z h19 tu22 z1g)<|z0y Zx Z Z (ld 29 Z Z (Foc.el h19) z36 Z)<|ze0 [] [] Zx Z Tryz.func32 Z Z (z95 _ _) (Y2 Z Z) rN fun r20 n21=>z0y Zx Z Z (zdi Z)<|Zq (pkT Z Z)<|z1q<|z3b (fun aa ww h=>Zu h [29,33])
    ·
     refine lKn 35 Z h17<|Zk Z<|Zk Z<|Zk Z<|Zk Z<|Zk Z<|Zk Z<|Zk Z<|Zq (pkF Z Z)<|z1q<|z3b (fun aa ww h=>Zu h [29,33])
   ·
    refine gIf Z Z (fun h22=>?_) (fun h22=>?_)
    ·
     refine z1y<|Zm Z<|Zm Z<|Zm Z<|z0j fun x23 h24=>Zq (ixO 29 Z Z Z h24 tu22 z1g)<|Zq (ld 29 Z Z (Foc.el h24) z36 Z)<|Ef Z (lit (R:=aZ) ([x23]:List V3) 35 (pP Z Z<|pN) Z tu22 z1g Z Z) fun v25=>zjd 35 [50] Z (fS Z<|fN)<|z0j fun x26 h27=>Ef Z (apn 33 Z Z Z .rd h27 tu22 z1g Z Z Z) fun v28=>Za Z<|z1q<|z2q<|z0f<|z1y<|Zm Z<|Zq (I.add Z Z)<|Za Z<|z1i 12 Z fun y29=>z1q<|z19 (fun aa ww h=>⟨nvl [v28],Zu h [29,33]⟩)
    ·
     refine z29<|z2q<|z0f<|z1y<|Zm Z<|Zq (I.add Z Z)<|Za Z<|z1i 12 Z fun y30=>z1q<|z19 (fun aa ww h=>⟨nvl [(n10 0)],Zu h [29,33]⟩)
  ·
   refine z1k<|z0o<|z0r<|z3b (fun aa ww h=>⟨nvl [(n10 0)],Zu h [33]⟩)
 ·
  refine gEx fun n31=>gSR<|Zm Z<|Zb Z<|z0i<|Ze [(n31 0)] [31] Z
def z5z (a0:List (List UInt8)):Option ((List (List UInt8))) :=
 app 24 ([]:List (List UInt8)) a0 >>= fun x3 =>
 some x3
theorem zf7 (a0:List (List UInt8)):z1w Tryz.prog 90 [.rd (z02 (z02 u8R)) a0] [] (z5z a0) (fun r nv=>⟨[.val (nv 0)],[(100,some (nv 0,.list (z02 u8R) 75 r))]⟩):=by
 refine z2e 8 Tryz.func90 Z Z Z fun H w=>?_
 refine gSR<|Zb Z<|z0l<|gSR<|Zm Z<|z14i Z Z .rd Z tu42 (fun h1=>?_) ?_
 ·
  subst h1
  refine Zn<|zf9 Z<|gSR<|Zb Z<|z0i<|z0v<|zr1 (z02 u8R) 75 1<|Ze [(.slice none 0 0)] [1] Z
 ·
  refine Zn<|zc3 Z<|Zt<|gSR<|Ef Z (lit (R:=(z02 u8R)) (([]:List (List UInt8)):List (List UInt8)) 2 (pN) Z tu42 zlr Z Z) fun v2=>Zm Z<|z0j fun x3 h4=>Ef Z (apn 2 Z Z Z .rd h4 tu42 zlr Z Z Z) fun v5=>Zb Z<|z0i<|Ze [v5] [2] Z
def zi7 (a0:UInt8):Option (Bool) :=
 if decide (2≤a0) then
  some (decide (a0≤4)) >>= fun y2 =>
  some y2
 else
  some false
theorem zon (a0:UInt8):z1w Tryz.prog 98 [.rd u8R a0] [] (zi7 a0) (fun r nv=>⟨[.rd z0g r],[]⟩):=by
 refine z2e 9 Tryz.func98 Z Z Z fun H w=>?_
 refine gSR<|Zb Z<|gSR<|Zm Z<|Zq (B.geq Z Z)<|Zm Z<|z1d 5 Z (fun h1=>?_) (fun h1=>?_)
 ·
  refine lKn 4 Z h1<|z0y Zx Z Z (mv Z)<|z0y Zx Z Z (B.leq Z Z)<|Zq (pkT Z Z)<|Za Z<|z1i 2 Z fun y2=>Zn<|z0i<|Ze [] [] Z
 ·
  refine lKn 4 Z h1<|Zk Z<|Zk Z<|Zq (pkF Z Z)<|Zb Z<|z0i<|Ze [] [] Z
def zno (a0:List V3) (s2:Int):Option (Sum (Sum Bool Unit) Int) :=
 if decide (s2<(a0.length:Int)) then
  idx a0 (w64 (s2 - 1)) >>= fun x4 =>
  idx a0 s2 >>= fun x6 =>
  z9k x4 x6 >>= fun r8 =>
  if decide (0≤r8) then
   some (.inl (.inl false))
  else
   some (.inr (w64 (s2+1)))
 else
  some (.inl (.inr ()))
def zmm (a0:List V3):Option (Bool) :=
 z61 (iter (zno a0) 1) fun s1 =>
 some true
theorem zoc (a0:List V3):z1w Tryz.prog 99 [.rd (z02 aZ) a0] [] (zmm a0) (fun r nv=>⟨[.rd z0g r],[]⟩):=by
 refine z2e 21 Tryz.func99 Z Z Z fun H w=>?_
 refine gSR<|Zb Z<|z83 (fun (s1:Unit) aa ww=>Sta (ctx 21 H [] w) [] [] aa ww) ?_ (fun s1=>?_)
 ·
  refine gSR<|Zb Z<|z1v (fun (s2:Int) aa ww=>Sta (ctx 21 H [] w) [(0,.rd (z02 aZ) a0),(3,.rd z0c s2)] [] aa ww) (fun aa ww h=>Zu h []) (fun s2=>?_)
  refine z0l<|gSR<|Zm Z<|Zm Z<|Zq (z2w Z .rd Z tu22)<|Zq (I.lss Z Z)<|Zj Z (fun h3=>?_) (fun h3=>?_)
  ·
   refine Zt<|z0l<|z49<|z0l<|z57 [] mixed Z Z<|hTk 0 Z Z (mv Z)<|hTk 1 Z Z (mv Z)<|hTk 2 Z Z (I.sub Z Z)<|z3j fun x4 h5=>hTk 3 Z Z (ixR Z Z h5 tu22 z1g Z)<|hTk 4 Z Z (ldR Z z36)<|hTk 5 Z Z (mv Z)<|hTk 6 Z Z (mv Z)<|z3j fun x6 h7=>hTk 7 Z Z (ixR Z Z h7 tu22 z1g Z)<|hTk 8 Z Z (ldR Z z36)<|z3h 9 [] [] Z (by kernel_rfl) Z (gd0 Z) Z Tryz.func105 Z Z (zb4 _ _) (Y2 Z Z) rN Z (fun _ _=>z2j) fun r8 n9=>hTk 10 Z Z (I.geq Z Z)<|z3q (by kernel_rfl)<|z0f<|gIf Z Z (fun h10=>?_) (fun h10=>?_)
   ·
    refine gSR<|Zb Z<|z0i<|z47<|z0v<|z7z<|z5h<|Ze [] [] Z
   ·
    refine z29<|z2q<|z0f<|z1y<|Zm Z<|Zq (I.add Z Z)<|Za Z<|z1q<|z19 (fun aa ww h=>Zu h [])
  ·
   refine z1k<|z0o<|z0r<|z4y (fun aa ww h=>Zu h [])
 ·
  refine gSR<|Zb Z<|z0i<|Ze [] [] Z
def z84 (a0:z0k) (s29:(List UInt8) × Bool × Int):Option (Sum ((List UInt8) × Bool) ((List UInt8) × Bool × Int)) :=
 if s29.2.1 then
  if decide (s29.2.2<(a0.Ops.length:Int)) then
   idx a0.Ops s29.2.2 >>= fun x33 =>
   zd2 x33 >>= fun r35 =>
   app 1 s29.1 r35.1 >>= fun x37 =>
   idx a0.Ops s29.2.2 >>= fun x40 =>
   some (decide ((x40.length:Int)≤400)) >>= fun y42 =>
   some (w64 (s29.2.2+1)) >>= fun y43 =>
   some (.inr (x37,y42,y43))
  else
   some (.inl (s29.1,true))
 else
  some (.inl (s29.1,false))
def zgg (a0:z0k):Option ((List UInt8) × Bool) :=
 (zi7 a0.Kind >>= fun r4 =>
 if r4 then
  (if a0.N==0 then
   if (a0.Ops.length:Int)==0 then
    if decide ((a0.IDs.length:Int)≤40) then
     zmm a0.IDs >>= fun r11 =>
     some r11
    else
     some false
   else
    some false
  else
   some false) >>= fun s7 =>
  if s7 then
   zkm a0.IDs >>= fun r14 =>
   app 1 [a0.Kind] r14.1 >>= fun x16 =>
   some (x16,true)
  else
   some ([a0.Kind],false)
 else
  if a0.Kind==5 then
   (if a0.N==0 then
    if (a0.IDs.length:Int)==0 then
     some (decide ((a0.Ops.length:Int)≤8)) >>= fun y23 =>
     some y23
    else
     some false
   else
    some false) >>= fun s20 =>
   z4t (UInt64.ofInt (a0.Ops.length:Int)) >>= fun r24 =>
   app 1 [a0.Kind] r24 >>= fun x26 =>
   iter (z84 a0) (x26,s20,0)
  else
   (if a0.Kind==1 then
    some true
   else
    some (a0.Kind==6)) >>= fun s44 =>
   if s44 then
    (if (a0.IDs.length:Int)==0 then
     some ((a0.Ops.length:Int)==0) >>= fun y49 =>
     some y49
    else
     some false) >>= fun s47 =>
    z4t a0.N >>= fun r50 =>
    app 1 [a0.Kind] r50 >>= fun x52 =>
    some (x52,s47)
   else
    some ([a0.Kind],false)) >>= fun s3 =>
 if s3.2 then
  some (decide ((s3.1.length:Int)≤2000)) >>= fun y57 =>
  some (s3.1,y57)
 else
  some (s3.1,false)
theorem zpe (a0:z0k):z1w Tryz.prog 62 [.rd z0s a0] [] (zgg a0) (fun r nv=>⟨[.val (nv 0),.rd z0g r.2],[(100,some (nv 0,.list u8R 5 r.1))]⟩):=by
 refine z2e 132 Tryz.func62 Z Z Z fun H w=>?_
 refine gSR<|Eb Z (bx 1 Z) fun v1=>Za Z<|Zb Z<|gSR<|Zq (faB 1 Z Z Tryz.underlying44 Z (by exact ti5))<|Zq (ld 1 Z Z (fP (z1b _)) ty5 Z)<|Ef Z (lit (R:=u8R) ([a0.Kind]:List UInt8) 2 (pP Z Z<|pN) Z tu75 ti5 Z Z) fun v2=>Zb Z<|gSR<|Zb Z<|z5q (fun (s3:(List UInt8) × Bool) aa ww=>∃ nv:Nat→Value,Sta (ctx 132 H [] w) [(4,.val (nv 0)),(5,.rd z0g s3.2)] [(2,some ((nv 0),.list u8R 5 s3.1))] aa ww) ?_ (fun s3=>?_)
 ·
  refine z49<|gSR<|Zq (faB 1 Z Z Tryz.underlying44 Z (by exact ti5))<|Zq (ld 1 Z Z (fP (z1b _)) ty5 Z)<|Zc [] [] Tryz.func98 Z (zon _) fun r4 n5=>Zb Z<|gIf Z Z (fun h6=>?_) (fun h6=>?_)
  ·
   refine gKn 17 Z h6<|z5q (fun (s7:Bool) aa ww=>Sta (ctx 132 H [] w) [(1,.val (z05 v1 0)),(4,.val v2),(5,.rd z0g s7)] [(1,some (v1,.box 44 [.rd z0s a0])),(2,some (v2,.list u8R 5 [a0.Kind]))] aa ww) ?_ (fun s7=>?_)
   ·
    refine z1y<|Zq (faB 1 Z Z Tryz.underlying44 Z (by exact zpy))<|Zq (ld 1 Z Z (fP (zbk _)) zp8 Z)<|Zq (U.eql Z Z)<|Zm Z<|z1d 21 Z (fun h8=>?_) (fun h8=>?_)
    ·
     refine lKn 20 Z h8<|z0y Zx Z Z (faB 1 Z Z Tryz.underlying44 Z (by exact zox))<|z0y Zx Z Z (ld 1 Z Z (fP (z1e _)) zq1 Z)<|z0y Zx Z Z (z2w Z .rd Z tu42)<|z0y Zx Z Z (I.eql Z Z)<|Zq (pkT Z Z)<|Zm Z<|z1d 27 Z (fun h9=>?_) (fun h9=>?_)
     ·
      refine lKn 25 Z h9<|lKn 26 Z h9<|z0y Zx Z Z (faB 1 Z Z Tryz.underlying44 Z (by exact z4q))<|z0y Zx Z Z (ld 1 Z Z (fP (z3v _)) z5j Z)<|z0y Zx Z Z (z2w Z .rd Z tu22)<|z0y Zx Z Z (I.leq Z Z)<|Zq (pkT Z Z)<|Zm Z<|z1d 33 Z (fun h10=>?_) (fun h10=>?_)
      ·
       refine lKn 31 Z h10<|lKn 32 Z h10<|z0y Zx Z Z (faB 1 Z Z Tryz.underlying44 Z (by exact z4q))<|z0y Zx Z Z (ld 1 Z Z (fP (z3v _)) z5j Z)<|ze0 [] [] Zx Z Tryz.func99 Z Z (zoc _) (Y1 Z) rN fun r11 n12=>Zq (pkT Z Z)<|Za Z<|z1q<|z3b (fun aa ww h=>Zu h [1,2])
      ·
       refine lKn 31 Z h10<|lKn 32 Z h10<|Zk Z<|Zk Z<|Zk Z<|Zq (pkF Z Z)<|Za Z<|z1q<|z3b (fun aa ww h=>Zu h [1,2])
     ·
      refine lKn 25 Z h9<|lKn 26 Z h9<|Zk Z<|Zk Z<|Zk Z<|Zk Z<|Zq (pkF Z Z)<|Zm Z<|Zk Z<|Zk Z<|Zk Z<|Zq (pkF Z Z)<|Za Z<|z1q<|z3b (fun aa ww h=>Zu h [1,2])
    ·
     refine lKn 20 Z h8<|Zk Z<|Zk Z<|Zk Z<|Zk Z<|Zq (pkF Z Z)<|Zm Z<|Zk Z<|Zk Z<|Zk Z<|Zk Z<|Zq (pkF Z Z)<|Zm Z<|Zk Z<|Zk Z<|Zk Z<|Zq (pkF Z Z)<|Za Z<|z1q<|z3b (fun aa ww h=>Zu h [1,2])
   ·
    refine gSR<|Zm Z<|Zj Z (fun h13=>?_) (fun h13=>?_)
    ·
     refine gKn 5 Z h13<|gSR<|Zq (faB 1 Z Z Tryz.underlying44 Z (by exact z4q))<|Zq (ld 1 Z Z (fP (z3v _)) z5j Z)<|Zc [] [(100,3)] Tryz.func100 Z (zoq _) fun r14 n15=>Zm Z<|Zq (ext Z Z)<|Zq (ext Z Z)<|Za Z<|Zb Z<|z1y<|Zm Z<|Zm Z<|z0j fun x16 h17=>Ef Z (apn 2 Z Z Z (.own 3 Z) h17 tu75 ti5 Z Z Z) fun v18=>Za Z<|z1q<|z2q<|z3b (fun aa ww h=>⟨nvl [v18],Zu h [2]⟩)
    ·
     refine gKn 5 Z h13<|z29<|z2q<|z3b (fun aa ww h=>⟨nvl [v2],Zu h [2]⟩)
  ·
   refine gKn 17 Z h6<|gSR<|Zq (faB 1 Z Z Tryz.underlying44 Z (by exact ti5))<|Zq (ld 1 Z Z (fP (z1b _)) ty5 Z)<|Zq (B.eql Z Z)<|Zb Z<|gIf Z Z (fun h19=>?_) (fun h19=>?_)
   ·
    refine gKn 51 Z h19<|z5q (fun (s20:Bool) aa ww=>Sta (ctx 132 H [] w) [(1,.val (z05 v1 0)),(4,.val v2),(5,.rd z0g s20)] [(1,some (v1,.box 44 [.rd z0s a0])),(2,some (v2,.list u8R 5 [a0.Kind]))] aa ww) ?_ (fun s20=>?_)
    ·
     refine z1y<|Zq (faB 1 Z Z Tryz.underlying44 Z (by exact zpy))<|Zq (ld 1 Z Z (fP (zbk _)) zp8 Z)<|Zq (U.eql Z Z)<|Zm Z<|z1d 55 Z (fun h21=>?_) (fun h21=>?_)
     ·
      refine lKn 54 Z h21<|z0y Zx Z Z (faB 1 Z Z Tryz.underlying44 Z (by exact z4q))<|z0y Zx Z Z (ld 1 Z Z (fP (z3v _)) z5j Z)<|z0y Zx Z Z (z2w Z .rd Z tu22)<|z0y Zx Z Z (I.eql Z Z)<|Zq (pkT Z Z)<|Zm Z<|z1d 61 Z (fun h22=>?_) (fun h22=>?_)
      ·
       refine lKn 59 Z h22<|lKn 60 Z h22<|z0y Zx Z Z (faB 1 Z Z Tryz.underlying44 Z (by exact zox))<|z0y Zx Z Z (ld 1 Z Z (fP (z1e _)) zq1 Z)<|z0y Zx Z Z (z2w Z .rd Z tu42)<|z0y Zx Z Z (I.leq Z Z)<|Zq (pkT Z Z)<|Za Z<|z1i 5 Z fun y23=>z1q<|z3b (fun aa ww h=>Zu h [1,2])
      ·
       refine lKn 59 Z h22<|lKn 60 Z h22<|Zk Z<|Zk Z<|Zk Z<|Zk Z<|Zq (pkF Z Z)<|Za Z<|z1q<|z3b (fun aa ww h=>Zu h [1,2])
     ·
      refine lKn 54 Z h21<|Zk Z<|Zk Z<|Zk Z<|Zk Z<|Zq (pkF Z Z)<|Zm Z<|Zk Z<|Zk Z<|Zk Z<|Zk Z<|Zq (pkF Z Z)<|Za Z<|z1q<|z3b (fun aa ww h=>Zu h [1,2])
    ·
     refine gSR<|Zm Z<|Zq (faB 1 Z Z Tryz.underlying44 Z (by exact zox))<|Zq (ld 1 Z Z (fP (z1e _)) zq1 Z)<|Zq (z2w Z .rd Z tu42)<|Zq (I.toU Z tu3 tu41)<|Zc [] [(100,4)] Tryz.func101 Z (z51 _) fun r24 n25=>z0j fun x26 h27=>Ef Z (apn 2 Z Z Z (.own 4 Z) h27 tu75 ti5 Z Z Z) fun v28=>Zb Z<|gSR<|Zb Z<|z1v (fun (s29:(List UInt8) × Bool × Int) aa ww=>∃ nv:Nat→Value,Sta (ctx 132 H [] w) [(1,.val (z05 v1 0)),(4,.val (nv 0)),(5,.rd z0g s29.2.1),(8,.rd z0c s29.2.2)] [(1,some (v1,.box 44 [.rd z0s a0])),(2,some ((nv 0),.list u8R 5 s29.1))] aa ww) (fun aa ww h=>⟨nvl [v28],Zu h [1,2]⟩) (fun s29=>?_)
     refine gEx fun n30=>z0l<|gSR<|Zm Z<|Zm Z<|z1d 75 Z (fun h31=>?_) (fun h31=>?_)
     ·
      refine lKn 5 Z h31<|lKn 74 Z h31<|z0y Zx Z Z (mv Z)<|z0y Zx Z Z (faB 1 Z Z Tryz.underlying44 Z (by exact zox))<|z0y Zx Z Z (ld 1 Z Z (fP (z1e _)) zq1 Z)<|z0y Zx Z Z (z2w Z .rd Z tu42)<|z0y Zx Z Z (I.lss Z Z)<|Zq (pkT Z Z)<|Zj Z (fun h32=>?_) (fun h32=>?_)
      ·
       refine gKn 80 Z h32<|Zt<|z0l<|z49<|gSR<|Zq (faB 1 Z Z Tryz.underlying44 Z (by exact zox))<|Zq (ld 1 Z Z (fP (z1e _)) zq1 Z)<|Zm Z<|z0j fun x33 h34=>Zq (ixR Z Z h34 tu42 zlr Z)<|Zq (ldR Z ty75)<|Zc [] [(100,5)] Tryz.func102 Z (zgk _) fun r35 n36=>Zm Z<|Zq (ext Z Z)<|Zq (ext Z Z)<|Za Z<|Zb Z<|gSR<|Zm Z<|Zm Z<|z0j fun x37 h38=>Ef Z (apn 2 Z Z Z (.own 5 Z) h38 tu75 ti5 Z Z Z) fun v39=>Zb Z<|z1y<|Zq (faB 1 Z Z Tryz.underlying44 Z (by exact zox))<|Zq (ld 1 Z Z (fP (z1e _)) zq1 Z)<|Zm Z<|z0j fun x40 h41=>Zq (ixR Z Z h41 tu42 zlr Z)<|Zq (ldR Z ty75)<|Zq (z2w Z .rd Z tu75)<|Zq (I.leq Z Z)<|Za Z<|z1i 5 Z fun y42=>z1q<|z2q<|z0f<|z1y<|Zm Z<|Zq (I.add Z Z)<|Za Z<|z1i 8 Z fun y43=>z1q<|z19 (fun aa ww h=>⟨nvl [v39],Zu h [1,2]⟩)
      ·
       refine gKn 80 Z h32<|z1k<|z0o<|z0r<|z2q<|z3b (fun aa ww h=>⟨nvl [(n30 0)],Zu h [2]⟩)
     ·
      refine lKn 5 Z h31<|lKn 74 Z h31<|Zk Z<|Zk Z<|Zk Z<|Zk Z<|Zk Z<|Zq (pkF Z Z)<|Zn<|zc3 Z<|z1k<|z0o<|z0r<|z2q<|z3b (fun aa ww h=>⟨nvl [(n30 0)],Zu h [2]⟩)
   ·
    refine gKn 51 Z h19<|z5q (fun (s44:Bool) aa ww=>Sta (ctx 132 H [] w) [(1,.val (z05 v1 0)),(4,.val v2),(5,.rd z0g false),(103,.rd z0g s44)] [(1,some (v1,.box 44 [.rd z0s a0])),(2,some (v2,.list u8R 5 [a0.Kind]))] aa ww) ?_ (fun s44=>?_)
    ·
     refine gSR<|Zq (faB 1 Z Z Tryz.underlying44 Z (by exact ti5))<|Zq (ld 1 Z Z (fP (z1b _)) ty5 Z)<|Zq (B.eql Z Z)<|Zb Z<|gIf Z Z (fun h45=>?_) (fun h45=>?_)
     ·
      refine gKn 106 Z h45<|z29<|z3b (fun aa ww h=>Zu h [1,2])
     ·
      refine gKn 106 Z h45<|z1y<|Zq (faB 1 Z Z Tryz.underlying44 Z (by exact ti5))<|Zq (ld 1 Z Z (fP (z1b _)) ty5 Z)<|Zq (B.eql Z Z)<|Za Z<|z1q<|z3b (fun aa ww h=>Zu h [1,2])
    ·
     refine gIf Z Z (fun h46=>?_) (fun h46=>?_)
     ·
      refine z5q (fun (s47:Bool) aa ww=>Sta (ctx 132 H [] w) [(1,.val (z05 v1 0)),(4,.val v2),(5,.rd z0g s47)] [(1,some (v1,.box 44 [.rd z0s a0])),(2,some (v2,.list u8R 5 [a0.Kind]))] aa ww) ?_ (fun s47=>?_)
      ·
       refine z1y<|Zq (faB 1 Z Z Tryz.underlying44 Z (by exact z4q))<|Zq (ld 1 Z Z (fP (z3v _)) z5j Z)<|Zq (z2w Z .rd Z tu22)<|Zq (I.eql Z Z)<|Zm Z<|z1d 114 Z (fun h48=>?_) (fun h48=>?_)
       ·
        refine lKn 113 Z h48<|z0y Zx Z Z (faB 1 Z Z Tryz.underlying44 Z (by exact zox))<|z0y Zx Z Z (ld 1 Z Z (fP (z1e _)) zq1 Z)<|z0y Zx Z Z (z2w Z .rd Z tu42)<|z0y Zx Z Z (I.eql Z Z)<|Zq (pkT Z Z)<|Za Z<|z1i 5 Z fun y49=>z1q<|z3b (fun aa ww h=>Zu h [1,2])
       ·
        refine lKn 113 Z h48<|Zk Z<|Zk Z<|Zk Z<|Zk Z<|Zq (pkF Z Z)<|Za Z<|z1q<|z3b (fun aa ww h=>Zu h [1,2])
      ·
       refine z1y<|Zm Z<|Zq (faB 1 Z Z Tryz.underlying44 Z (by exact zpy))<|Zq (ld 1 Z Z (fP (zbk _)) zp8 Z)<|Zc [] [(100,6)] Tryz.func101 Z (z51 _) fun r50 n51=>z0j fun x52 h53=>Ef Z (apn 2 Z Z Z (.own 6 Z) h53 tu75 ti5 Z Z Z) fun v54=>Za Z<|z1q<|z2q<|z3b (fun aa ww h=>⟨nvl [v54],Zu h [2]⟩)
     ·
      refine z29<|z2q<|z3b (fun aa ww h=>⟨nvl [v2],Zu h [2]⟩)
 ·
  refine gEx fun n55=>gSR<|Zm Z<|Zm Z<|Zm Z<|z1d 127 Z (fun h56=>?_) (fun h56=>?_)
  ·
   refine lKn 5 Z h56<|lKn 126 Z h56<|z0y Zx Z Z (mv Z)<|z0y Zx Z Z (z2w Z (.own 2 Z) Z tu75)<|z0y Zx Z Z (I.leq Z Z)<|Zq (pkT Z Z)<|Za Z<|Za Z<|z1i 3 Z fun y57=>Zn<|z0i<|Ze [(n55 0)] [2] Z
  ·
   refine lKn 5 Z h56<|lKn 126 Z h56<|Zk Z<|Zk Z<|Zk Z<|Zq (pkF Z Z)<|Za Z<|Zb Z<|z0i<|Ze [(n55 0)] [2] Z
def zgm (a0:z0k):Option (Int) :=
 zgg a0 >>= fun r2 =>
 if !r2.2 then
  some 8
 else
  some 0
theorem zpg (a0:z0k):z1w Tryz.prog 35 [.rd z0s a0] [] (zgm a0) (fun r nv=>⟨[.rd z0c r],[]⟩):=by
 refine z2e 12 Tryz.func35 Z Z Z fun H w=>?_
 refine gSR<|Eb Z (bx 1 Z) fun v1=>Zb Z<|z0l<|gSR<|Zq (ld 1 Z Z fH ty44 Z)<|Zc [] [(100,2)] Tryz.func62 Z (zpe _) fun r2 n3=>Zm Z<|Zq (ext Z Z)<|Zq (ext Z Z)<|Za Z<|Zb Z<|gSR<|Zm Z<|Zq (zdi Z)<|Zj Z (fun h4=>?_) (fun h4=>?_)
 ·
  refine gSR<|Zb Z<|z0i<|z0v<|Ze [] [] Z
 ·
  refine Zt<|gSR<|Zb Z<|z0i<|Ze [] [] Z
def z58 (a0:z00) (a1:List V3) (s3:(List z0k) × Int):Option (Sum ((List z0k)) ((List z0k) × Int)) :=
 if decide (s3.2<(a1.length:Int)) then
  idx a1 s3.2 >>= fun x6 =>
  zjy a0 x6 >>= fun r9 =>
  zdk r9.1 >>= fun r12 =>
  z61 (some (s3.1.length:Int) >>= fun y15 =>
  if decide (0<y15) then
   idx s3.1 (w64 (y15 - 1)) >>= fun x17 =>
   z5z x17.Ops >>= fun r20 =>
   app 24 r20 [r12.1] >>= fun x23 =>
   zgm (⟨x17.Kind,x17.N,x17.IDs,x23⟩:z0k) >>= fun r26 =>
   if r26==0 then
    idx s3.1 (w64 (y15 - 1)) >>= fun x29 =>
    some (.inl (.inr (s3.1.set (w64 (y15 - 1):Int).toNat (⟨x17.Kind,x17.N,x17.IDs,x23⟩:z0k),w64 (s3.2+1))))
   else
    some (.inr r12.1)
  else
   some (.inr r12.1)) fun s14 =>
  app 64 s3.1 [(⟨5,0,[],[s14]⟩:z0k)] >>= fun x33 =>
  some (.inr (x33,w64 (s3.2+1)))
 else
  some (.inl s3.1)
def zfs (a0:z00) (a1:List V3):Option ((List z0k)) :=
 (iter (z58 a0 a1) ([],0)) >>= fun s2 =>
 some s2
theorem zoh (a0:z00) (a1:List V3):z1w Tryz.prog 51 [.rd z01 a0,.rd (z02 aZ) a1] [zG1] (zfs a0 a1) (fun r nv=>⟨[.val (nv 0)],[(1001,some (.bool true,.glob 1 (z3r 64 z10) z8a)),(100,some (nv 0,.list z0s 44 r))]⟩):=by
 refine z2e 63 Tryz.func51 Z Z Z fun H w=>?_
 refine gSR<|Eb Z (bx 1 Z) fun v1=>Zb Z<|gSR<|Zb Z<|z5q (fun (s2:(List z0k)) aa ww=>∃ nv:Nat→Value,Sta (ctx 63 H [zG1] w) [(5,.val (nv 0))] [(1107,some ((nv 0),.list z0s 44 s2)),zG1] aa ww) ?_ (fun s2=>?_)
 ·
  refine gSR<|Zm Z<|Zq (z2w Z .rd Z tu22)<|Zm Z<|Zn<|zpu z0s 44 1119<|z1v (fun (s3:(List z0k) × Int) aa ww=>∃ nv:Nat→Value,Sta (ctx 63 H [zG1] w) [(2,.val (z05 v1 0)),(5,.val (nv 0)),(14,.rd (z02 aZ) a1),(15,.rd z0c (a1.length:Int)),(16,.rd z0c s3.2)] [(1,some (v1,.box 25 [.rd z01 a0])),(1118,some ((nv 0),.list z0s 44 s3.1)),zG1] aa ww) (fun aa ww h=>⟨nvl [(.slice none 0 0)],Zu h [1,1119,1001]⟩) (fun s3=>?_)
  refine gEx fun n4=>gSR<|Zq (I.lss Z Z)<|Zn<|z0l<|gIf Z Z (fun h5=>?_) (fun h5=>?_)
  ·
   refine Zt<|z0l<|z49<|gSR<|z0j fun x6 h7=>Zq (ixR Z Z h7 tu22 z1g Z)<|Zq (ldR Z z36)<|Eb Z (z52 1120 z1g (.zr (R:=aZ) (x:=(Vector.replicate 32 0)) zf5)) fun v8=>Es (sto 1120 Z Z fH Z z1g)<|Zn<|gSR<|Zq (ld 1 Z Z fH z2v Z)<|Zq (ld 1120 Z Z fH z36 Z)<|Zc [1001] [] Tryz.func88 Z (zpj _ _) fun r9 n10=>Zm Z<|Zq (ext Z Z)<|Zq (ext Z Z)<|Eb Z (z52 1121 za5 (ZrE.rd (R:=z10) (x:=0) (Zr.num Z) (ZrE.nilS (ZrE.rd (R:=z2k) (x:=0) (Zr.num Z) (ZrE.rd (R:=z0z) (x:=(⟨0,[],(⟨0,0,0,[]⟩:z09)⟩:z18)) zx7 (ZrE.rd (R:=z13) (x:=(⟨0,0⟩:z0q)) zx6 ZrE.nil Z) Z) Z)) Z)) fun v11=>z99 aZ [.rd z10 0,.rd (z02 aZ) [],.rd z2k 0,.rd z0z (⟨0,[],(⟨0,0,0,[]⟩:z09)⟩:z18),.rd z13 (⟨0,0⟩:z0q)] 1121 [.rd z10 0] [.rd z2k 0,.rd z0z (⟨0,[],(⟨0,0,0,[]⟩:z09)⟩:z18),.rd z13 (⟨0,0⟩:z0q)] Z Z Z<|zch (R:=z03) (⟨0,[],0,(⟨0,[],(⟨0,0,0,[]⟩:z09)⟩:z18),(⟨0,0⟩:z0q)⟩:z0b) 1121 Z (Sp.via (Sp.prod (Sp.prod (Sp.prod (Sp.prod (Sp.prod Sp.unit))))))<|Es (sto 1121 Z Z fH Z za5)<|Zb Z<|gSR<|Zq (ld 1121 Z Z fH zcs Z)<|Zc [] [(100,1122)] Tryz.func89 Z (zmp _) fun r12 n13=>Zm Z<|Zq (ext Z Z)<|Zq (ext Z Z)<|Za Z<|Zb Z<|z83 (fun (s14:(List UInt8)) aa ww=>Sta (ctx 63 H [zG1] w) [(2,.val (z05 v1 0)),(5,.val (n4 0)),(10,.rd (z02 u8R) s14),(14,.rd (z02 aZ) a1),(15,.rd z0c (a1.length:Int)),(16,.rd z0c s3.2)] [(1,some (v1,.box 25 [.rd z01 a0])),(1118,some ((n4 0),.list z0s 44 s3.1)),zG1] aa ww) ?_ (fun s14=>?_)
   ·
    refine gSR<|Zm Z<|Zq (z2w Z (.own 1118 Z) Z tu35)<|Za Z<|z1i 12 Z fun y15=>Zn<|gSR<|Zm Z<|Zq (I.gtr Z Z)<|Zj Z (fun h16=>?_) (fun h16=>?_)
    ·
     refine gSR<|Zm Z<|Zm Z<|Zq (I.sub Z Z)<|z0j fun x17 h18=>Zq (ixO 1118 Z Z Z h18 tu35 znt)<|Zq (ld 1118 Z Z (Foc.el h18) ty44 Z)<|Eb Z (z52 1123 znt (ZrE.rd (R:=u8R) (x:=0) (Zr.num Z) (ZrE.rd (R:=z2k) (x:=0) (Zr.num Z) (ZrE.nilS (ZrE.nilS ZrE.nil)) Z) Z)) fun v19=>z99 aZ [.rd u8R 0,.rd z2k 0,.rd (z02 aZ) [],.val (.slice none 0 0)] 1123 [.rd u8R 0,.rd z2k 0] [.val (.slice none 0 0)] Z Z Z<|z99 (z02 u8R) [.rd u8R 0,.rd z2k 0,.rd (z02 aZ) [],.rd (z02 (z02 u8R)) []] 1123 [.rd u8R 0,.rd z2k 0,.rd (z02 aZ) []] [] Z Z Z<|zch (R:=z0s) (⟨0,0,[],[]⟩:z0k) 1123 Z (Sp.via (Sp.prod (Sp.prod (Sp.prod (Sp.prod Sp.unit)))))<|Es (sto 1123 Z Z fH Z znt)<|Zn<|gSR<|Zq (faB 1123 Z Z Tryz.underlying44 Z (by exact zox))<|Zq (ld 1123 Z Z (fP (z1e _)) zq1 Z)<|Zc [] [(100,1124)] Tryz.func90 Z (zf7 _) fun r20 n21=>Zm Z<|zjd 1122 [29,10,43] Z (fS Z<|fS Z<|fS Z<|fN)<|Ef Z (lit (R:=(z02 u8R)) ([r12.1]:List (List UInt8)) 1125 (pP Z Z<|pN) Z tu42 zlr Z Z) fun v22=>zjd 1125 [44] Z (fS Z<|fN)<|z0j fun x23 h24=>Ef Z (apn 1124 Z Z Z .rd h24 tu42 zlr Z Z Z) fun v25=>Zq (faB 1123 Z Z Tryz.underlying44 Z (by exact zox))<|lSpl (R:=z0s) 1123 Z (Sp.via (Sp.prod (Sp.prod (Sp.prod (Sp.prod Sp.unit)))))<|Es (znn 1123 Z Z (z81.cast (z81.next z0u (z81.next z0u (z81.next z0u (z81.here z0u)))) Z) Z z0h z04 zox)<|Zn<|gSR<|ztl [.rd u8R x17.Kind,.rd z2k x17.N,.rd (z02 aZ) x17.IDs,.rd (z02 (z02 u8R)) x23] 1123 1124 [.rd u8R x17.Kind,.rd z2k x17.N,.rd (z02 aZ) x17.IDs] [] Z Z Z Z Z<|zch (R:=z0s) (⟨x17.Kind,x17.N,x17.IDs,x23⟩:z0k) 1123 Z (Sp.via (Sp.prod (Sp.prod (Sp.prod (Sp.prod Sp.unit)))))<|Zq (ld 1123 Z Z fH ty44 Z)<|Zc [] [] Tryz.func35 Z (zpg _) fun r26 n27=>Zq (I.eql Z Z)<|Zj Z (fun h28=>?_) (fun h28=>?_)
     ·
      refine gSR<|Zm Z<|Zm Z<|Zq (I.sub Z Z)<|Zq (ld 1123 Z Z fH ty44 Z)<|z0j fun x29 h30=>Zq (ixO 1118 Z Z Z h30 tu35 znt)<|Es (sto 1118 Z Z (Foc.el h30) Z znt)<|Zn<|z1k<|z15v<|z103<|z0f<|z1y<|Zq (I.add Z Z)<|Zm Z<|z1q<|z19 (fun aa ww h=>⟨nvl [(n4 0)],Zu h [1,1118,1001]⟩)
     ·
      refine z29<|z4y (fun aa ww h=>Zu h [1,1118,1001])
    ·
     refine z29<|eFrz 1122 [29,10] Z (fS Z<|fS Z<|fN)<|z4y (fun aa ww h=>Zu h [1,1118,1001])
   ·
    refine z1y<|Zm Z<|Zm Z<|Ef Z (lit (R:=(z02 u8R)) ([s14]:List (List UInt8)) 1126 (pP Z Z<|pN) Z tu42 zlr Z Z) fun v31=>zjd 1126 [57] Z (fS Z<|fN)<|Zq (bld (x':=(⟨5,0,[],[s14]⟩:z0k)) [(0,1),(1,1),(2,1),(3,1)] Tryz.underlying44 znt Z zr44 Z (Bld.cons (z1b _) Z Z<|Bld.cons (z1e _) Z Z<|Bld.done Z))<|Ef Z (lit (R:=z0s) ([(⟨5,0,[],[s14]⟩:z0k)]:List z0k) 1127 (pP Z Z<|pN) Z tu35 znt Z Z) fun v32=>zjd 1127 [59] Z (fS Z<|fN)<|z0j fun x33 h34=>Ef Z (apn 1118 Z Z Z .rd h34 tu35 znt Z Z Z) fun v35=>Za Z<|z1q<|z2q<|z0f<|z1y<|Zq (I.add Z Z)<|Zm Z<|z1q<|z19 (fun aa ww h=>⟨nvl [v35],Zu h [1,1118,1001]⟩)
  ·
   refine z1k<|z0o<|z0r<|z3b (fun aa ww h=>⟨nvl [(n4 0)],Zu h [1118,1001]⟩)
 ·
  refine gEx fun n36=>gSR<|Zm Z<|Zb Z<|z0i<|Ze [(n36 0)] [1001,1107] Z
def zcz (a0:z0b):Option ((List UInt8) × Int) :=
 z5k a0 >>= fun r2 =>
 if r2 != 0 then
  z5k a0 >>= fun r5 =>
  some ([],r5)
 else
  z9j a0 >>= fun r7 =>
  some (r7,0)
theorem zj8 (a0:z0b):z1w Tryz.prog 63 [.rd z03 a0] [] (zcz a0) (fun r nv=>⟨[.val (nv 0),.rd z0c r.2],[(100,some (nv 0,.list u8R 5 r.1))]⟩):=by
 refine z2e 11 Tryz.func63 Z Z Z fun H w=>?_
 refine gSR<|Eb Z (bx 1 Z) fun v1=>Za Z<|Zb Z<|z0l<|gSR<|Zq (ld 1 Z Z fH zcs Z)<|Zc [] [] Tryz.func103 Z (z94 _) fun r2 n3=>Zq (I.neq Z Z)<|Zj Z (fun h4=>?_) (fun h4=>?_)
 ·
  refine gSR<|Zq (ld 1 Z Z fH zcs Z)<|Zc [] [] Tryz.func103 Z (z94 _) fun r5 n6=>Za Z<|Zb Z<|z0i<|z0v<|zr1 u8R 5 2<|Ze [(.slice none 0 0)] [2] Z
 ·
  refine Zt<|gSR<|Zq (ld 1 Z Z fH zcs Z)<|Zc [] [(100,3)] Tryz.func96 Z (zeq _) fun r7 n8=>Za Z<|Zb Z<|z0i<|Ze [(n8 0)] [3] Z
def z8x (a0:z00) (a1:V3) (s4:Int):Option (Sum (Sum ((List UInt8)) Unit) Int) :=
 if decide (s4<(a0.IDs.length:Int)) then
  idx a0.IDs s4 >>= fun x6 =>
  if decide (x6=a1) then
   idx a0.Ops s4 >>= fun x9 =>
   zcz x9 >>= fun r11 =>
   some (.inl (.inl r11.1))
  else
   some (.inr (w64 (s4+1)))
 else
  some (.inl (.inr ()))
def z9a (a0:z00) (a1:V3):Option ((List UInt8)) :=
 z61 (iter (z8x a0 a1) 0) fun s3 =>
 some []
theorem zef (a0:z00) (a1:V3):z1w Tryz.prog 36 [.rd z01 a0,.rd aZ a1] [] (z9a a0 a1) (fun r nv=>⟨[.val (nv 0)],[(100,some (nv 0,.list u8R 5 r))]⟩):=by
 refine z2e 32 Tryz.func36 Z Z Z fun H w=>?_
 refine gSR<|Eb Z (bx 1 Z) fun v1=>Eb Z (bx 2 Z) fun v2=>Zb Z<|z83 (fun (s3:Unit) aa ww=>Sta (ctx 32 H [] w) [] [] aa ww) ?_ (fun s3=>?_)
 ·
  refine gSR<|Zb Z<|z1v (fun (s4:Int) aa ww=>Sta (ctx 32 H [] w) [(2,.val (z05 v1 0)),(3,.val (z05 v2 0)),(5,.rd z0c s4)] [(1,some (v1,.box 25 [.rd z01 a0])),(2,some (v2,.box 62 [.rd aZ a1]))] aa ww) (fun aa ww h=>Zu h [1,2]) (fun s4=>?_)
  refine z0l<|gSR<|Zm Z<|Zq (faB 1 Z Z Tryz.underlying25 Z (by exact z4q))<|Zq (ld 1 Z Z (fP (z07 _)) z5j Z)<|Zq (z2w Z .rd Z tu22)<|Zq (I.lss Z Z)<|Zj Z (fun h5=>?_) (fun h5=>?_)
  ·
   refine Zt<|z0l<|z49<|z0l<|zgc mixed (by kernel_rfl)<|Rq Z (faB 1 Z Z Tryz.underlying25 Z (by exact z4q))<|Rq Z (ld 1 Z Z (fP (z07 _)) z5j Z)<|Rq Z (mv Z)<|z80 fun x6 h7=>Rq Z (ixR Z Z h7 tu22 z1g Z)<|Rq Z (ldR Z z36)<|Rq Z (ld 2 Z Z fH z36 Z)<|Rq Z (eqA Z Z zut Z Z zuh)<|zov<|z0f<|gIf Z Z (fun h8=>?_) (fun h8=>?_)
   ·
    refine gSR<|Zq (faB 1 Z Z Tryz.underlying25 Z (by exact z9l))<|Zq (ld 1 Z Z (fP (z08 _)) zcx Z)<|Zm Z<|z0j fun x9 h10=>Zq (ixR Z Z h10 tu23 za5 Z)<|Zq (ldR Z zcs)<|Zc [] [(100,3)] Tryz.func63 Z (zj8 _) fun r11 n12=>Zm Z<|Zq (ext Z Z)<|Zq (ext Z Z)<|Za Z<|Zb Z<|gSR<|Zm Z<|Zb Z<|z0i<|z47<|z0v<|z7z<|z5h<|Ze [(n12 0)] [3] Z
   ·
    refine z29<|z2q<|z0f<|z1y<|Zm Z<|Zq (I.add Z Z)<|Za Z<|z1q<|z19 (fun aa ww h=>Zu h [1,2])
  ·
   refine z1k<|z0o<|z0r<|z4y (fun aa ww h=>Zu h [])
 ·
  refine gSR<|Zb Z<|z0i<|zr1 u8R 5 4<|Ze [(.slice none 0 0)] [4] Z
def z67 (a0:UInt8):Option (Bool) :=
 if a0==2 then
  some true
 else
  if a0==3 then
   some true
  else
   some (a0==4)
theorem zbd (a0:UInt8):z1w Tryz.prog 131 [.rd u8R a0] [] (z67 a0) (fun r nv=>⟨[.rd z0g r],[]⟩):=by
 refine z2e 13 Tryz.func131 Z Z Z fun H w=>?_
 refine gSR<|Zb Z<|gSR<|Zm Z<|Zq (B.eql Z Z)<|Zm Z<|z1d 5 Z (fun h1=>?_) (fun h1=>?_)
 ·
  refine lKn 4 Z h1<|Zk Z<|Zk Z<|Zq (pkT Z Z)<|Zm Z<|Zk Z<|Zk Z<|Zq (pkT Z Z)<|Zb Z<|z0i<|Ze [] [] Z
 ·
  refine lKn 4 Z h1<|z0y Zx Z Z (mv Z)<|z0y Zx Z Z (B.eql Z Z)<|Zq (pkF Z Z)<|Zm Z<|z1d 9 Z (fun h2=>?_) (fun h2=>?_)
  ·
   refine lKn 7 Z h2<|lKn 8 Z h2<|Zk Z<|Zk Z<|Zq (pkT Z Z)<|Zb Z<|z0i<|Ze [] [] Z
  ·
   refine lKn 7 Z h2<|lKn 8 Z h2<|z0y Zx Z Z (mv Z)<|z0y Zx Z Z (B.eql Z Z)<|Zq (pkF Z Z)<|Zb Z<|z0i<|Ze [] [] Z
def z6j (a0:z0k) (s23:(List UInt8) × Int):Option (Sum ((List UInt8)) ((List UInt8) × Int)) :=
 if decide (s23.2<(a0.Ops.length:Int)) then
  idx a0.Ops s23.2 >>= fun x26 =>
  z6g x26 >>= fun r28 =>
  app 1 s23.1 r28 >>= fun x30 =>
  some (w64 (s23.2+1)) >>= fun y33 =>
  some (.inr (x30,y33))
 else
  some (.inl s23.1)
def zbv (a0:z0k):Option ((List UInt8)) :=
 z67 a0.Kind >>= fun r3 =>
 if r3 then
  zab a0.IDs >>= fun r6 =>
  app 1 [a0.Kind] r6 >>= fun x8 =>
  some x8
 else
  if a0.Kind != 5 then
   z20 a0.N >>= fun r12 =>
   app 1 [a0.Kind] r12 >>= fun x14 =>
   some x14
  else
   z20 (UInt64.ofInt (a0.Ops.length:Int)) >>= fun r17 =>
   app 1 [a0.Kind] r17 >>= fun x19 =>
   (iter (z6j a0) (x19,0)) >>= fun s22 =>
   some s22
theorem zk7 (a0:z0k):z1w Tryz.prog 132 [.rd z0s a0] [] (zbv a0) (fun r nv=>⟨[.val (nv 0)],[(100,some (nv 0,.list u8R 5 r))]⟩):=by
 refine z2e 47 Tryz.func132 Z Z Z fun H w=>?_
 refine gSR<|Eb Z (bx 1 Z) fun v1=>Zb Z<|gSR<|Zq (faB 1 Z Z Tryz.underlying44 Z (by exact ti5))<|Zq (ld 1 Z Z (fP (z1b _)) ty5 Z)<|Ef Z (lit (R:=u8R) ([a0.Kind]:List UInt8) 2 (pP Z Z<|pN) Z tu75 ti5 Z Z) fun v2=>Zb Z<|z0l<|gSR<|Zq (faB 1 Z Z Tryz.underlying44 Z (by exact ti5))<|Zq (ld 1 Z Z (fP (z1b _)) ty5 Z)<|Zc [] [] Tryz.func131 Z (zbd _) fun r3 n4=>Zj Z (fun h5=>?_) (fun h5=>?_)
 ·
  refine gSR<|Zm Z<|Zq (faB 1 Z Z Tryz.underlying44 Z (by exact z4q))<|Zq (ld 1 Z Z (fP (z3v _)) z5j Z)<|Zc [] [(100,3)] Tryz.func174 Z (zfp _) fun r6 n7=>z0j fun x8 h9=>Ef Z (apn 2 Z Z Z (.own 3 Z) h9 tu75 ti5 Z Z Z) fun v10=>Zb Z<|z0i<|z0v<|Ze [v10] [2] Z
 ·
  refine Zt<|z0l<|gSR<|Zq (faB 1 Z Z Tryz.underlying44 Z (by exact ti5))<|Zq (ld 1 Z Z (fP (z1b _)) ty5 Z)<|Zq (B.neq Z Z)<|Zj Z (fun h11=>?_) (fun h11=>?_)
  ·
   refine gSR<|Zm Z<|Zq (faB 1 Z Z Tryz.underlying44 Z (by exact zpy))<|Zq (ld 1 Z Z (fP (zbk _)) zp8 Z)<|Zc [] [(100,4)] Tryz.func140 Z (z2i _) fun r12 n13=>z0j fun x14 h15=>Ef Z (apn 2 Z Z Z (.own 4 Z) h15 tu75 ti5 Z Z Z) fun v16=>Zb Z<|z0i<|z0v<|Ze [v16] [2] Z
  ·
   refine Zt<|gSR<|Zm Z<|Zq (faB 1 Z Z Tryz.underlying44 Z (by exact zox))<|Zq (ld 1 Z Z (fP (z1e _)) zq1 Z)<|Zq (z2w Z .rd Z tu42)<|Zq (I.toU Z tu3 tu41)<|Zc [] [(100,5)] Tryz.func140 Z (z2i _) fun r17 n18=>z0j fun x19 h20=>Ef Z (apn 2 Z Z Z (.own 5 Z) h20 tu75 ti5 Z Z Z) fun v21=>Zb Z<|z5q (fun (s22:(List UInt8)) aa ww=>∃ nv:Nat→Value,Sta (ctx 47 H [] w) [(3,.val (nv 0))] [(2,some ((nv 0),.list u8R 5 s22))] aa ww) ?_ (fun s22=>?_)
   ·
    refine gSR<|Zb Z<|z1v (fun (s23:(List UInt8) × Int) aa ww=>∃ nv:Nat→Value,Sta (ctx 47 H [] w) [(1,.val (z05 v1 0)),(3,.val (nv 0)),(4,.rd z0c s23.2)] [(1,some (v1,.box 44 [.rd z0s a0])),(2,some ((nv 0),.list u8R 5 s23.1))] aa ww) (fun aa ww h=>⟨nvl [v21],Zu h [1,2]⟩) (fun s23=>?_)
    refine gEx fun n24=>z0l<|gSR<|Zm Z<|Zq (faB 1 Z Z Tryz.underlying44 Z (by exact zox))<|Zq (ld 1 Z Z (fP (z1e _)) zq1 Z)<|Zq (z2w Z .rd Z tu42)<|Zq (I.lss Z Z)<|Zj Z (fun h25=>?_) (fun h25=>?_)
    ·
     refine Zt<|z0l<|z49<|z1y<|Zm Z<|Zq (faB 1 Z Z Tryz.underlying44 Z (by exact zox))<|Zq (ld 1 Z Z (fP (z1e _)) zq1 Z)<|Zm Z<|z0j fun x26 h27=>Zq (ixR Z Z h27 tu42 zlr Z)<|Zq (ldR Z ty75)<|Zc [] [(100,6)] Tryz.func175 Z (zcp _) fun r28 n29=>z0j fun x30 h31=>Ef Z (apn 2 Z Z Z (.own 6 Z) h31 tu75 ti5 Z Z Z) fun v32=>Za Z<|z1q<|z2q<|z0f<|z1y<|Zm Z<|Zq (I.add Z Z)<|Za Z<|z1i 4 Z fun y33=>z1q<|z19 (fun aa ww h=>⟨nvl [v32],Zu h [1,2]⟩)
    ·
     refine z1k<|z0o<|z0r<|z3b (fun aa ww h=>⟨nvl [(n24 0)],Zu h [2]⟩)
   ·
    refine gEx fun n34=>gSR<|Zm Z<|Zb Z<|z0i<|Ze [(n34 0)] [2] Z
def z6i (a0:z0k) (s32:Int):Option (Sum (Sum Int Unit) Int) :=
 if decide (s32<(a0.Ops.length:Int)) then
  idx a0.Ops s32 >>= fun x34 =>
  if decide (400<(x34.length:Int)) then
   some (.inl (.inl 8))
  else
   some (w64 (s32+1)) >>= fun y37 =>
   some (.inr y37)
 else
  some (.inl (.inr ()))
def zbn (a0:z0k):Option (Int) :=
 if decide (a0.Kind<1) then
  some 8
 else
  if decide (6<a0.Kind) then
   some 8
  else
   (if a0.Kind==1 then
    some true
   else
    some (a0.Kind==6)) >>= fun s4 =>
   z61 (if !s4 then
    if a0.N != 0 then
     some (.inl 8)
    else
     z67 a0.Kind >>= fun r9 =>
     if !r9 then
      if decide (0<(a0.IDs.length:Int)) then
       some (.inl 8)
      else
       if a0.Kind != 5 then
        if decide (0<(a0.Ops.length:Int)) then
         some (.inl 8)
        else
         some (.inr ())
       else
        some (.inr ())
     else
      if a0.Kind != 5 then
       if decide (0<(a0.Ops.length:Int)) then
        some (.inl 8)
       else
        some (.inr ())
      else
       some (.inr ())
   else
    z67 a0.Kind >>= fun r17 =>
    if !r17 then
     if decide (0<(a0.IDs.length:Int)) then
      some (.inl 8)
     else
      if a0.Kind != 5 then
       if decide (0<(a0.Ops.length:Int)) then
        some (.inl 8)
       else
        some (.inr ())
      else
       some (.inr ())
    else
     if a0.Kind != 5 then
      if decide (0<(a0.Ops.length:Int)) then
       some (.inl 8)
      else
       some (.inr ())
     else
      some (.inr ())) fun s6 =>
   (if decide (40<(a0.IDs.length:Int)) then
    some true
   else
    z4w a0.IDs >>= fun r27 =>
    if !r27 then
     some true
    else
     some (decide (8<(a0.Ops.length:Int)))) >>= fun s25 =>
   if s25 then
    some 8
   else
    z61 (iter (z6i a0) 0) fun s31 =>
    zbv a0 >>= fun r38 =>
    if decide (2000<(r38.length:Int)) then
     some 8
    else
     some 0
end
section
open Go Go.RowKit
set_option maxRecDepth 100000
theorem zjm (a0:z0k):z1w Tryz.prog 91 [.rd z0s a0] [] (zbn a0) (fun r nv=>⟨[.rd z0c r],[]⟩):=by
 refine z2e 85 Tryz.func91 Z Z Z fun H w=>?_
 refine gSR<|Eb Z (bx 1 Z) fun v1=>Zb Z<|z0l<|gSR<|Zq (faB 1 Z Z Tryz.underlying44 Z (by exact ti5))<|Zq (ld 1 Z Z (fP (z1b _)) ty5 Z)<|Zq (B.lss Z Z)<|Zm Z<|z1d 8 Z (fun h2=>?_) (fun h2=>?_)
 ·
  refine lKn 7 Z h2<|Zk Z<|Zk Z<|Zk Z<|Zq (pkT Z Z)<|Zn<|zf9 Z<|gSR<|Zb Z<|z0i<|z0v<|Ze [] [] Z
 ·
  refine lKn 7 Z h2<|z0y Zx Z Z (faB 1 Z Z Tryz.underlying44 Z (by exact ti5))<|z0y Zx Z Z (ld 1 Z Z (fP (z1b _)) ty5 Z)<|z0y Zx Z Z (B.gtr Z Z)<|Zq (pkF Z Z)<|Zj Z (fun h3=>?_) (fun h3=>?_)
  ·
   refine gKn 11 Z h3<|gSR<|Zb Z<|z0i<|z0v<|Ze [] [] Z
  ·
   refine gKn 11 Z h3<|Zt<|z5q (fun (s4:Bool) aa ww=>Sta (ctx 85 H [] w) [(1,.val (z05 v1 0)),(3,.rd z0g s4)] [(1,some (v1,.box 44 [.rd z0s a0]))] aa ww) ?_ (fun s4=>?_)
   ·
    refine z1y<|Zq (faB 1 Z Z Tryz.underlying44 Z (by exact ti5))<|Zq (ld 1 Z Z (fP (z1b _)) ty5 Z)<|Zq (B.eql Z Z)<|Zm Z<|z1d 16 Z (fun h5=>?_) (fun h5=>?_)
    ·
     refine lKn 15 Z h5<|Zk Z<|Zk Z<|Zk Z<|Zq (pkT Z Z)<|Za Z<|z1q<|z3b (fun aa ww h=>Zu h [1])
    ·
     refine lKn 15 Z h5<|z0y Zx Z Z (faB 1 Z Z Tryz.underlying44 Z (by exact ti5))<|z0y Zx Z Z (ld 1 Z Z (fP (z1b _)) ty5 Z)<|z0y Zx Z Z (B.eql Z Z)<|Zq (pkF Z Z)<|Za Z<|z1q<|z3b (fun aa ww h=>Zu h [1])
   ·
    refine z83 (fun (s6:Unit) aa ww=>Sta (ctx 85 H [] w) [(1,.val (z05 v1 0))] [(1,some (v1,.box 44 [.rd z0s a0]))] aa ww) ?_ (fun s6=>?_)
    ·
     refine gSR<|Zm Z<|Zq (zdi Z)<|Zm Z<|z1d 23 Z (fun h7=>?_) (fun h7=>?_)
     ·
      refine lKn 22 Z h7<|z0y Zx Z Z (faB 1 Z Z Tryz.underlying44 Z (by exact zpy))<|z0y Zx Z Z (ld 1 Z Z (fP (zbk _)) zp8 Z)<|z0y Zx Z Z (U.neq Z Z)<|Zq (pkT Z Z)<|Zm Z<|z1d 28 Z (fun h8=>?_) (fun h8=>?_)
      ·
       refine lKn 26 Z h8<|lKn 27 Z h8<|Zk Z<|Zk Z<|Zk Z<|Zk Z<|Zk Z<|zhm (gdU Z Z Z) Z Z<|zhm (gdU Z Z Z) Z Z<|zhm (gdU Z Z Z) Z Z<|zhm (gdU Z Z Z) Z Z<|Zk Z<|Zq (pkT Z Z)<|Zm Z<|Zk Z<|Zk Z<|Zk Z<|Zk Z<|zhm (gdU Z Z Z) Z Z<|zhm (gdU Z Z Z) Z Z<|zhm (gdU Z Z Z) Z Z<|zhm (gdU Z Z Z) Z Z<|Zk Z<|Zq (pkT Z Z)<|Zn<|zf9 Z<|gSR<|Zb Z<|z0i<|z5h<|Ze [] [] Z
      ·
       refine lKn 26 Z h8<|lKn 27 Z h8<|z0y Zx Z Z (faB 1 Z Z Tryz.underlying44 Z (by exact ti5))<|z0y Zx Z Z (ld 1 Z Z (fP (z1b _)) ty5 Z)<|ze0 [] [] Zx Z Tryz.func131 Z Z (zbd _) (Y1 Z) rN fun r9 n10=>z0y Zx Z Z (zdi Z)<|z0y Zx Z Z (mv Z)<|z1d 33 Z (fun h11=>?_) (fun h11=>?_)
       ·
        refine lKn 32 Z h11<|z0y Zx Z Z (faB 1 Z Z Tryz.underlying44 Z (by exact z4q))<|z0y Zx Z Z (ld 1 Z Z (fP (z3v _)) z5j Z)<|z0y Zx Z Z (z2w Z .rd Z tu22)<|z0y Zx Z Z (I.gtr Z Z)<|z0y Zx Z Z (pkT Z Z)<|Zq (pkF Z Z)<|Zm Z<|z1d 40 Z (fun h12=>?_) (fun h12=>?_)
        ·
         refine lKn 37 Z h12<|lKn 38 Z h12<|lKn 39 Z h12<|Zk Z<|Zk Z<|Zk Z<|Zk Z<|zhm (gdU Z Z Z) Z Z<|zhm (gdU Z Z Z) Z Z<|zhm (gdU Z Z Z) Z Z<|zhm (gdU Z Z Z) Z Z<|Zk Z<|Zq (pkT Z Z)<|Zn<|zf9 Z<|gSR<|Zb Z<|z0i<|z5h<|Ze [] [] Z
        ·
         refine lKn 37 Z h12<|lKn 38 Z h12<|lKn 39 Z h12<|z0y Zx Z Z (faB 1 Z Z Tryz.underlying44 Z (by exact ti5))<|z0y Zx Z Z (ld 1 Z Z (fP (z1b _)) ty5 Z)<|z0y Zx Z Z (B.neq Z Z)<|z0y Zx Z Z (mv Z)<|z1d 44 Z (fun h13=>?_) (fun h13=>?_)
         ·
          refine lKn 43 Z h13<|z0y Zx Z Z (faB 1 Z Z Tryz.underlying44 Z (by exact zox))<|z0y Zx Z Z (ld 1 Z Z (fP (z1e _)) zq1 Z)<|z0y Zx Z Z (z2w Z .rd Z tu42)<|z0y Zx Z Z (I.gtr Z Z)<|z0y Zx Z Z (pkT Z Z)<|Zq (pkF Z Z)<|Zj Z (fun h14=>?_) (fun h14=>?_)
          ·
           refine gKn 48 Z h14<|gKn 49 Z h14<|gSR<|Zb Z<|z0i<|z5h<|Ze [] [] Z
          ·
           refine gKn 48 Z h14<|gKn 49 Z h14<|z29<|z4y (fun aa ww h=>Zu h [1])
         ·
          refine lKn 43 Z h13<|Zk Z<|Zk Z<|Zk Z<|Zk Z<|z0y Zx Z Z (pkF Z Z)<|Zq (pkF Z Z)<|Zn<|zc3 Z<|z29<|z4y (fun aa ww h=>Zu h [1])
       ·
        refine lKn 32 Z h11<|Zk Z<|Zk Z<|Zk Z<|Zk Z<|z0y Zx Z Z (pkF Z Z)<|Zq (pkF Z Z)<|Zm Z<|z0y Zx Z Z (faB 1 Z Z Tryz.underlying44 Z (by exact ti5))<|z0y Zx Z Z (ld 1 Z Z (fP (z1b _)) ty5 Z)<|z0y Zx Z Z (B.neq Z Z)<|z0y Zx Z Z (mv Z)<|z1d 44 Z (fun h15=>?_) (fun h15=>?_)
        ·
         refine lKn 43 Z h15<|z0y Zx Z Z (faB 1 Z Z Tryz.underlying44 Z (by exact zox))<|z0y Zx Z Z (ld 1 Z Z (fP (z1e _)) zq1 Z)<|z0y Zx Z Z (z2w Z .rd Z tu42)<|z0y Zx Z Z (I.gtr Z Z)<|z0y Zx Z Z (pkT Z Z)<|Zq (pkF Z Z)<|Zj Z (fun h16=>?_) (fun h16=>?_)
         ·
          refine gKn 48 Z h16<|gKn 49 Z h16<|gSR<|Zb Z<|z0i<|z5h<|Ze [] [] Z
         ·
          refine gKn 48 Z h16<|gKn 49 Z h16<|z29<|z4y (fun aa ww h=>Zu h [1])
        ·
         refine lKn 43 Z h15<|Zk Z<|Zk Z<|Zk Z<|Zk Z<|z0y Zx Z Z (pkF Z Z)<|Zq (pkF Z Z)<|Zn<|zc3 Z<|z29<|z4y (fun aa ww h=>Zu h [1])
     ·
      refine lKn 22 Z h7<|Zk Z<|Zk Z<|Zk Z<|Zq (pkF Z Z)<|Zm Z<|z0y Zx Z Z (faB 1 Z Z Tryz.underlying44 Z (by exact ti5))<|z0y Zx Z Z (ld 1 Z Z (fP (z1b _)) ty5 Z)<|ze0 [] [] Zx Z Tryz.func131 Z Z (zbd _) (Y1 Z) rN fun r17 n18=>z0y Zx Z Z (zdi Z)<|z0y Zx Z Z (mv Z)<|z1d 33 Z (fun h19=>?_) (fun h19=>?_)
      ·
       refine lKn 32 Z h19<|z0y Zx Z Z (faB 1 Z Z Tryz.underlying44 Z (by exact z4q))<|z0y Zx Z Z (ld 1 Z Z (fP (z3v _)) z5j Z)<|z0y Zx Z Z (z2w Z .rd Z tu22)<|z0y Zx Z Z (I.gtr Z Z)<|z0y Zx Z Z (pkT Z Z)<|Zq (pkF Z Z)<|Zm Z<|z1d 40 Z (fun h20=>?_) (fun h20=>?_)
       ·
        refine lKn 37 Z h20<|lKn 38 Z h20<|lKn 39 Z h20<|Zk Z<|Zk Z<|Zk Z<|Zk Z<|zhm (gdU Z Z Z) Z Z<|zhm (gdU Z Z Z) Z Z<|zhm (gdU Z Z Z) Z Z<|zhm (gdU Z Z Z) Z Z<|Zk Z<|Zq (pkT Z Z)<|Zn<|zf9 Z<|gSR<|Zb Z<|z0i<|z5h<|Ze [] [] Z
       ·
        refine lKn 37 Z h20<|lKn 38 Z h20<|lKn 39 Z h20<|z0y Zx Z Z (faB 1 Z Z Tryz.underlying44 Z (by exact ti5))<|z0y Zx Z Z (ld 1 Z Z (fP (z1b _)) ty5 Z)<|z0y Zx Z Z (B.neq Z Z)<|z0y Zx Z Z (mv Z)<|z1d 44 Z (fun h21=>?_) (fun h21=>?_)
        ·
         refine lKn 43 Z h21<|z0y Zx Z Z (faB 1 Z Z Tryz.underlying44 Z (by exact zox))<|z0y Zx Z Z (ld 1 Z Z (fP (z1e _)) zq1 Z)<|z0y Zx Z Z (z2w Z .rd Z tu42)<|z0y Zx Z Z (I.gtr Z Z)<|z0y Zx Z Z (pkT Z Z)<|Zq (pkF Z Z)<|Zj Z (fun h22=>?_) (fun h22=>?_)
         ·
          refine gKn 48 Z h22<|gKn 49 Z h22<|gSR<|Zb Z<|z0i<|z5h<|Ze [] [] Z
         ·
          refine gKn 48 Z h22<|gKn 49 Z h22<|z29<|z4y (fun aa ww h=>Zu h [1])
        ·
         refine lKn 43 Z h21<|Zk Z<|Zk Z<|Zk Z<|Zk Z<|z0y Zx Z Z (pkF Z Z)<|Zq (pkF Z Z)<|Zn<|zc3 Z<|z29<|z4y (fun aa ww h=>Zu h [1])
      ·
       refine lKn 32 Z h19<|Zk Z<|Zk Z<|Zk Z<|Zk Z<|z0y Zx Z Z (pkF Z Z)<|Zq (pkF Z Z)<|Zm Z<|z0y Zx Z Z (faB 1 Z Z Tryz.underlying44 Z (by exact ti5))<|z0y Zx Z Z (ld 1 Z Z (fP (z1b _)) ty5 Z)<|z0y Zx Z Z (B.neq Z Z)<|z0y Zx Z Z (mv Z)<|z1d 44 Z (fun h23=>?_) (fun h23=>?_)
       ·
        refine lKn 43 Z h23<|z0y Zx Z Z (faB 1 Z Z Tryz.underlying44 Z (by exact zox))<|z0y Zx Z Z (ld 1 Z Z (fP (z1e _)) zq1 Z)<|z0y Zx Z Z (z2w Z .rd Z tu42)<|z0y Zx Z Z (I.gtr Z Z)<|z0y Zx Z Z (pkT Z Z)<|Zq (pkF Z Z)<|Zj Z (fun h24=>?_) (fun h24=>?_)
        ·
         refine gKn 48 Z h24<|gKn 49 Z h24<|gSR<|Zb Z<|z0i<|z5h<|Ze [] [] Z
        ·
         refine gKn 48 Z h24<|gKn 49 Z h24<|z29<|z4y (fun aa ww h=>Zu h [1])
       ·
        refine lKn 43 Z h23<|Zk Z<|Zk Z<|Zk Z<|Zk Z<|z0y Zx Z Z (pkF Z Z)<|Zq (pkF Z Z)<|Zn<|zc3 Z<|z29<|z4y (fun aa ww h=>Zu h [1])
    ·
     refine z0l<|z5q (fun (s25:Bool) aa ww=>Sta (ctx 85 H [] w) [(1,.val (z05 v1 0)),(66,.rd z0g s25)] [(1,some (v1,.box 44 [.rd z0s a0]))] aa ww) ?_ (fun s25=>?_)
     ·
      refine z1y<|Zq (faB 1 Z Z Tryz.underlying44 Z (by exact z4q))<|Zq (ld 1 Z Z (fP (z3v _)) z5j Z)<|Zq (z2w Z .rd Z tu22)<|Zq (I.gtr Z Z)<|Zm Z<|z1d 55 Z (fun h26=>?_) (fun h26=>?_)
      ·
       refine lKn 54 Z h26<|Zk Z<|Zk Z<|Zk Z<|Zk Z<|Zq (pkT Z Z)<|Zm Z<|Zk Z<|Zk Z<|Zk Z<|Zk Z<|Zq (pkT Z Z)<|z1q<|z3b (fun aa ww h=>Zu h [1])
      ·
       refine lKn 54 Z h26<|z0y Zx Z Z (faB 1 Z Z Tryz.underlying44 Z (by exact z4q))<|z0y Zx Z Z (ld 1 Z Z (fP (z3v _)) z5j Z)<|ze0 [] [] Zx Z Tryz.func108 Z Z (zbf _) (Y1 Z) rN fun r27 n28=>z0y Zx Z Z (zdi Z)<|Zq (pkF Z Z)<|Zm Z<|z1d 61 Z (fun h29=>?_) (fun h29=>?_)
       ·
        refine lKn 59 Z h29<|lKn 60 Z h29<|Zk Z<|Zk Z<|Zk Z<|Zk Z<|Zq (pkT Z Z)<|z1q<|z3b (fun aa ww h=>Zu h [1])
       ·
        refine lKn 59 Z h29<|lKn 60 Z h29<|z0y Zx Z Z (faB 1 Z Z Tryz.underlying44 Z (by exact zox))<|z0y Zx Z Z (ld 1 Z Z (fP (z1e _)) zq1 Z)<|z0y Zx Z Z (z2w Z .rd Z tu42)<|z0y Zx Z Z (I.gtr Z Z)<|Zq (pkF Z Z)<|z1q<|z3b (fun aa ww h=>Zu h [1])
     ·
      refine gIf Z Z (fun h30=>?_) (fun h30=>?_)
      ·
       refine gSR<|Zb Z<|z0i<|z0v<|Ze [] [] Z
      ·
       refine Zt<|z83 (fun (s31:Unit) aa ww=>Sta (ctx 85 H [] w) [(1,.val (z05 v1 0))] [(1,some (v1,.box 44 [.rd z0s a0]))] aa ww) ?_ (fun s31=>?_)
       ·
        refine gSR<|Zb Z<|z1v (fun (s32:Int) aa ww=>Sta (ctx 85 H [] w) [(1,.val (z05 v1 0)),(4,.rd z0c s32)] [(1,some (v1,.box 44 [.rd z0s a0]))] aa ww) (fun aa ww h=>Zu h [1]) (fun s32=>?_)
        refine z0l<|gSR<|Zm Z<|Zq (faB 1 Z Z Tryz.underlying44 Z (by exact zox))<|Zq (ld 1 Z Z (fP (z1e _)) zq1 Z)<|Zq (z2w Z .rd Z tu42)<|Zq (I.lss Z Z)<|Zj Z (fun h33=>?_) (fun h33=>?_)
        ·
         refine Zt<|z0l<|z49<|gSR<|Zq (faB 1 Z Z Tryz.underlying44 Z (by exact zox))<|Zq (ld 1 Z Z (fP (z1e _)) zq1 Z)<|Zm Z<|z0j fun x34 h35=>Zq (ixR Z Z h35 tu42 zlr Z)<|Zq (ldR Z ty75)<|Zq (z2w Z .rd Z tu75)<|Zq (I.gtr Z Z)<|Zj Z (fun h36=>?_) (fun h36=>?_)
         ·
          refine gSR<|Zb Z<|z0i<|z47<|z0v<|z7z<|z5h<|Ze [] [] Z
         ·
          refine z29<|z2q<|z0f<|z1y<|Zm Z<|Zq (I.add Z Z)<|Za Z<|z1i 4 Z fun y37=>z1q<|z19 (fun aa ww h=>Zu h [1])
        ·
         refine z1k<|z0o<|z0r<|z4y (fun aa ww h=>Zu h [1])
       ·
        refine z0l<|gSR<|Zq (ld 1 Z Z fH ty44 Z)<|Zc [] [(100,2)] Tryz.func132 Z (zk7 _) fun r38 n39=>Zq (z2w Z (.own 2 Z) Z tu75)<|Zq (I.gtr Z Z)<|Zj Z (fun h40=>?_) (fun h40=>?_)
        ·
         refine gSR<|Zb Z<|z0i<|z0v<|Ze [] [] Z
        ·
         refine Zt<|gSR<|Zb Z<|z0i<|Ze [] [] Z
def z4o (a0:z00) (a1:List V3) (s4:(List z0k) × UInt8 × UInt64 × (List V3) × (List (List UInt8)) × Int):Option (Sum ((List z0k) × UInt8 × UInt64 × (List V3) × (List (List UInt8))) ((List z0k) × UInt8 × UInt64 × (List V3) × (List (List UInt8)) × Int)) :=
 if decide (s4.2.2.2.2.2<(a1.length:Int)) then
  app 24 ([]:List (List UInt8)) s4.2.2.2.2.1 >>= fun x7 =>
  idx a1 s4.2.2.2.2.2 >>= fun x9 =>
  z9a a0 x9 >>= fun r11 =>
  app 24 x7 [r11] >>= fun x14 =>
  zbn (⟨5,0,[],x14⟩:z0k) >>= fun r17 =>
  if r17 != 0 then
   app 64 s4.1 [(⟨s4.2.1,s4.2.2.1,s4.2.2.2.1,s4.2.2.2.2.1⟩:z0k)] >>= fun x21 =>
   idx a1 s4.2.2.2.2.2 >>= fun x24 =>
   z9a a0 x24 >>= fun r26 =>
   some (w64 (s4.2.2.2.2.2+1)) >>= fun y29 =>
   some (.inr (x21,(⟨5,0,[],[r26]⟩:z0k).Kind,(⟨5,0,[],[r26]⟩:z0k).N,(⟨5,0,[],[r26]⟩:z0k).IDs,(⟨5,0,[],[r26]⟩:z0k).Ops,y29))
  else
   some (w64 (s4.2.2.2.2.2+1)) >>= fun y30 =>
   some (.inr (s4.1,(⟨5,0,[],x14⟩:z0k).Kind,(⟨5,0,[],x14⟩:z0k).N,(⟨5,0,[],x14⟩:z0k).IDs,(⟨5,0,[],x14⟩:z0k).Ops,y30))
 else
  some (.inl (s4.1,s4.2.1,s4.2.2.1,s4.2.2.2.1,s4.2.2.2.2.1))
def zaz (a0:z00) (a1:List V3):Option ((List z0k)) :=
 (iter (z4o a0 a1) ([],5,0,[],[],0)) >>= fun s3 =>
 if decide (0<(s3.2.2.2.2.length:Int)) then
  app 64 s3.1 [(⟨s3.2.1,s3.2.2.1,s3.2.2.2.1,s3.2.2.2.2⟩:z0k)] >>= fun x34 =>
  some x34
 else
  some s3.1
set_option maxHeartbeats 4000000 in
theorem zj1 (a0:z00) (a1:List V3):z1w Tryz.prog 52 [.rd z01 a0,.rd (z02 aZ) a1] [] (zaz a0 a1) (fun r nv=>⟨[.val (nv 0)],[(100,some (nv 0,.list z0s 44 r))]⟩):=by
 refine z2e 54 Tryz.func52 Z Z Z fun H w=>?_
 refine gSR<|Eb Z (bx 1 Z) fun v1=>Zb Z<|gSR<|Zb Z<|gSR<|Zq (zii [(0,1),(1,1),(2,1),(3,1)] Tryz.underlying44 znt (ZrE.rd (R:=u8R) (x:=0) (Zr.num Z) (ZrE.rd (R:=z2k) (x:=0) (Zr.num Z) (ZrE.nilS (ZrE.nilS ZrE.nil)) Z) Z) Z (zds.cons Z Z z0u (z81.cast (z81.here z0u) Z)<|zds.done Z))<|Eb Z (z52 2 znt (ZrE.rd (R:=u8R) (x:=0) (Zr.num Z) (ZrE.rd (R:=z2k) (x:=0) (Zr.num Z) (ZrE.nilS (ZrE.nilS ZrE.nil)) Z) Z)) fun v2=>Es (zit 2 Z Z (z06.cast (z06.cons z0u (z06.cons z0u (z06.cons z04 (z06.cons z04 z06.nil)))) Z) Z (z1n.cons z9t (z1n.cons z9t (z1n.cons z0h (z1n.cons z0h z1n.nil)))) (z06.cast (z06.cons z0u (z06.cons z0u (z06.cons z04 (z06.cons z04 z06.nil)))) Z) znt)<|Zn<|z5q (fun (s3:(List z0k) × UInt8 × UInt64 × (List V3) × (List (List UInt8))) aa ww=>∃ nv:Nat→Value,Sta (ctx 54 H [] w) [(5,.val (nv 0)),(6,.val (z05 v2 0))] [(8,some ((nv 0),.list z0s 44 s3.1)),(2,some (v2,.box 44 [.rd u8R s3.2.1,.rd z2k s3.2.2.1,.rd (z02 aZ) s3.2.2.2.1,.rd (z02 (z02 u8R)) s3.2.2.2.2]))] aa ww) ?_ (fun s3=>?_)
 ·
  refine gSR<|Zb Z<|zpu z0s 44 15<|gPnl aZ [.rd u8R 5,.rd z2k 0,.rd (z02 aZ) [],.val (.slice none 0 0)] 2 [.rd u8R 5,.rd z2k 0] [.val (.slice none 0 0)] Z Z Z<|gPnl (z02 u8R) [.rd u8R 5,.rd z2k 0,.rd (z02 aZ) [],.rd (z02 (z02 u8R)) []] 2 [.rd u8R 5,.rd z2k 0,.rd (z02 aZ) []] [] Z Z Z<|z1v (fun (s4:(List z0k) × UInt8 × UInt64 × (List V3) × (List (List UInt8)) × Int) aa ww=>∃ nv:Nat→Value,Sta (ctx 54 H [] w) [(1,.rd (z02 aZ) a1),(2,.val (z05 v1 0)),(5,.val (nv 0)),(6,.val (z05 v2 0)),(7,.rd z0c s4.2.2.2.2.2)] [(1,some (v1,.box 25 [.rd z01 a0])),(14,some ((nv 0),.list z0s 44 s4.1)),(2,some (v2,.box 44 [.rd u8R s4.2.1,.rd z2k s4.2.2.1,.rd (z02 aZ) s4.2.2.2.1,.rd (z02 (z02 u8R)) s4.2.2.2.2.1]))] aa ww) (fun aa ww h=>⟨nvl [(.slice none 0 0)],Zu h [1,15,2]⟩) (fun s4=>?_)
  refine gEx fun n5=>z0l<|gSR<|Zm Z<|Zm Z<|Zq (z2w Z .rd Z tu22)<|Zq (I.lss Z Z)<|Zj Z (fun h6=>?_) (fun h6=>?_)
  ·
   refine Zt<|z0l<|z49<|z0l<|zro [(1,.rd (z02 aZ) a1),(2,.val (z05 v1 0)),(5,.val (n5 0)),(6,.val (z05 v2 0)),(7,.rd z0c s4.2.2.2.2.2)] [(1,some (v1,.box 25 [.rd z01 a0])),(14,some ((n5 0),.list z0s 44 s4.1)),(2,some (v2,.box 44 [.rd u8R s4.2.1,.rd z2k s4.2.2.1,.rd (z02 aZ) s4.2.2.2.1,.rd (z02 (z02 u8R)) s4.2.2.2.2.1]))] [1,14,2] (Zs Z Z Z Z<|sS Z<|sN) (Zi Z<|Zi Z<|Zi Z<|rN)<|z4s fun x7 h8=>z4s fun x9 h10=>z4s fun r11 h13=>z4s fun x14 h15=>gOr [] [⟨16,none,[(0,some ([1], fun nv=>((nv 1),.list (z02 u8R) 75 ([]:List (List UInt8))))),(3,some ([2], fun nv=>((nv 2),.list (z02 u8R) 75 x7))),(11,some ([5], fun nv=>((nv 5),.list (z02 u8R) 75 x14)))]⟩,⟨2,some ([], fun nv=>(v2,.box 44 [.rd u8R s4.2.1,.rd z2k s4.2.2.1,.rd (z02 aZ) s4.2.2.2.1,.rd (z02 (z02 u8R)) s4.2.2.2.2.1])),[]⟩,⟨1,some ([], fun nv=>(v1,.box 25 [.rd z01 a0])),[]⟩,⟨17,none,[(9,none)]⟩,⟨18,none,[(10,none)]⟩,⟨19,none,[(13,some ([6], fun nv=>((nv 6),.box 44 [.rd u8R 0,.rd z2k 0,.val (.slice none 0 0),.val (.slice none 0 0)]))),(14,some ([5,6], fun nv=>((nv 6),.box 44 [.rd u8R 5,.rd z2k 0,.val (.slice none 0 0),.val (nv 5)])))]⟩] [⟨some (16,[1], fun nv=>.val (nv 1)),[(0,0,true)],[1],[]⟩,pk 17 (.val (z05 v2 (0+3))) [(1,0,false)],pk 18 (.rd (z02 (z02 u8R)) s4.2.2.2.2.1) [(1,0,false)],⟨some (19,[2], fun nv=>.val (nv 2)),[(0,1,true)],[2],[]⟩,pk 20 (.rd z01 a0) [(2,0,false)],pd 21 (.rd (z02 aZ) a1),pd 22 (.rd z0c s4.2.2.2.2.2),pd 23 (.rp aZ x9),pd 24 (.rd aZ x9),⟨some (25,[], fun nv=>.rd (z02 u8R) r11),[(3,0,true)],[3],[]⟩,⟨some (26,[], fun nv=>.rd (z02 (z02 u8R)) [r11]),[(4,0,true)],[4],[]⟩,⟨some (27,[5], fun nv=>.val (nv 5)),[(0,2,true)],[5],[]⟩,⟨some (28,[5], fun nv=>.agg [.rd u8R 5,.rd z2k 0,.val (.slice none 0 0),.val (nv 5)]),[],[],[]⟩,⟨some (8,[6], fun nv=>.val (z05 (nv 6) 0)),[(5,0,true)],[6],[]⟩,⟨none,[(5,1,true)],[],[]⟩] mixed (oC (oEf 16 1 (fun nv E=>lit (R:=(z02 u8R)) (([]:List (List UInt8)):List (List UInt8)) 16 (pN) Z tu42 zlr Z Z))<|oC (oRn (fun nv E=>faB 2 Z Z Tryz.underlying44 Z (by exact zox)))<|oC (oRn (fun nv E=>ld 2 Z Z (Foc.cast (Foc.next z0u (Foc.next z0u (Foc.next z0u fH))) Z) zq1 Z))<|oC (oEf 16 2 (fun nv E=>apn 16 Z Z Z .rd h8 tu42 zlr Z Z Z))<|oC (oRn (fun nv E=>ld 1 Z Z fH z2v Z))<|oC (oRn (fun nv E=>mv Z))<|oC (oRn (fun nv E=>mv Z))<|oC (oRn (fun nv E=>ixR Z Z h10 tu22 z1g Z))<|oC (oRn (fun nv E=>ldR Z z36))<|oC (oFz (A1:=fun nv=>[(17,some ((nv 3),.list u8R 5 r11))]) 17 3 (oCl [3] [] [(100,17)] h13 Tryz.func36 Z (fun nv=>(zef _ _)) (fun nv=>(Y2 Z Z)) (fun nv E=>rN)))<|oC (oFz (A1:=fun nv=>[(18,some ((nv 4),.list (z02 u8R) 75 [r11]))]) 18 4 (oEf 18 4 (fun nv E=>lit (R:=(z02 u8R)) ([r11]:List (List UInt8)) 18 (pP Z Z<|pN) Z tu42 zlr Z Z)))<|oC (oEf 16 5 (fun nv E=>apn 16 Z Z Z .rd h15 tu42 zlr Z Z Z))<|oC (oRn (fun nv E=>zii [(0,1),(1,1),(2,1),(3,1)] Tryz.underlying44 znt (ZrE.rd (R:=u8R) (x:=0) (Zr.num Z) (ZrE.rd (R:=z2k) (x:=0) (Zr.num Z) (ZrE.nilS (ZrE.nilS ZrE.nil)) Z) Z) Z (zds.cons Z Z z0u (z81.cast (z81.here z0u) Z)<|zds.cons Z Z z04 (z81.cast (z81.next z0u (z81.next z0u (z81.next z04 (z81.here z04)))) Z)<|zds.done Z)))<|oC (oEb 19 6 (fun nv E=>z52 19 znt (ZrE.rd (R:=u8R) (x:=0) (Zr.num Z) (ZrE.rd (R:=z2k) (x:=0) (Zr.num Z) (ZrE.nilS (ZrE.nilS ZrE.nil)) Z) Z)))<|oC (oEs 19 (fun nv E=>zit 19 Z Z (z06.cast (z06.cons z0u (z06.cons z0u (z06.cons z04 (z06.cons z04 z06.nil)))) Z) Z (z1n.cons z9t (z1n.cons z9t (z1n.cons z0h (z1n.cons z0h z1n.nil)))) (z06.cast (z06.cons z0u (z06.cons z0u (z06.cons z04 (z06.cons z04 z06.nil)))) Z) znt))<|oN) fun n16=>z0f<|z0l<|gSR<|z99 aZ [.rd u8R 5,.rd z2k 0,.rd (z02 aZ) [],.val (n16 5)] 19 [.rd u8R 5,.rd z2k 0] [.val (n16 5)] Z Z Z<|ztl [.rd u8R 5,.rd z2k 0,.rd (z02 aZ) [],.rd (z02 (z02 u8R)) x14] 19 16 [.rd u8R 5,.rd z2k 0,.rd (z02 aZ) []] [] Z Z Z Z Z<|zch (R:=z0s) (⟨5,0,[],x14⟩:z0k) 19 Z (Sp.via (Sp.prod (Sp.prod (Sp.prod (Sp.prod Sp.unit)))))<|Zq (ld 19 Z Z fH ty44 Z)<|Zc [] [] Tryz.func91 Z (zjm _) fun r17 n18=>Zq (I.neq Z Z)<|Zj Z (fun h19=>?_) (fun h19=>?_)
   ·
    refine gSR<|Zm Z<|zch (R:=z0s) (⟨s4.2.1,s4.2.2.1,s4.2.2.2.1,s4.2.2.2.2.1⟩:z0k) 2 Z (Sp.via (Sp.prod (Sp.prod (Sp.prod (Sp.prod Sp.unit)))))<|Zq (ld 2 Z Z fH ty44 Z)<|Ef Z (lit (R:=z0s) ([(⟨s4.2.1,s4.2.2.1,s4.2.2.2.1,s4.2.2.2.2.1⟩:z0k)]:List z0k) 20 (pP Z Z<|pN) Z tu35 znt Z Z) fun v20=>zjd 20 [34] Z (fS Z<|fN)<|z0j fun x21 h22=>Ef Z (apn 14 Z Z Z .rd h22 tu35 znt Z Z Z) fun v23=>Zb Z<|z57 [19,36,39] mixed Z Z<|hTk 0 Z Z (ld 1 Z Z fH z2v Z)<|hTk 1 Z Z (mv Z)<|hTk 2 Z Z (mv Z)<|z3j fun x24 h25=>hTk 3 Z Z (ixR Z Z h25 tu22 z1g Z)<|hTk 4 Z Z (ldR Z z36)<|z3h 5 [] [(100,36)] Z (by kernel_rfl) Z (gd0 Z) Z Tryz.func36 Z Z (zef _ _) (Y2 Z Z) rN Z (fun _ _=>z2t) fun r26 n27=>zr7 36 [41] Z (fS Z<|fN)<|Zo 6 Z Z Z (lit (R:=(z02 u8R)) ([r26]:List (List UInt8)) 39 (pP Z Z<|pN) Z tu42 zlr Z Z) fun v28=>zdl 7 Z (by kernel_rfl) (by kernel_rfl) (by kernel_rfl) (gd0 Z) Z Z (zii [(0,1),(1,1),(2,1),(3,1)] Tryz.underlying44 znt (ZrE.rd (R:=u8R) (x:=0) (Zr.num Z) (ZrE.rd (R:=z2k) (x:=0) (Zr.num Z) (ZrE.nilS (ZrE.nilS ZrE.nil)) Z) Z) Z (zds.cons Z Z z0u (z81.cast (z81.here z0u) Z)<|zds.cons Z Z z04 (z81.cast (z81.next z0u (z81.next z0u (z81.next z04 (z81.here z04)))) Z)<|zds.done Z))<|hSpl (R:=z0s) 19 Z (Sp.via (Sp.prod (Sp.prod (Sp.prod (Sp.prod Sp.unit)))))<|Zp 8 Z Z Z Z Z (zit 19 Z Z (z06.cast (z06.cons z0u (z06.cons z0u (z06.cons z0u (z06.cons z0u z06.nil)))) Z) Z (z1n.cons z9t (z1n.cons z9t (z1n.cons z0h (z1n.cons z0h z1n.nil)))) (z06.cast (z06.cons z0u (z06.cons z0u (z06.cons z04 (z06.cons z04 z06.nil)))) Z) znt)<|z3q (by kernel_rfl)<|z0f<|z1y<|z99 aZ [.rd u8R 5,.rd z2k 0,.rd (z02 aZ) [],.val v28] 19 [.rd u8R 5,.rd z2k 0] [.val v28] Z Z Z<|ztl [.rd u8R 5,.rd z2k 0,.rd (z02 aZ) [],.rd (z02 (z02 u8R)) [r26]] 19 39 [.rd u8R 5,.rd z2k 0,.rd (z02 aZ) []] [] Z Z Z Z Z<|zch (R:=z0s) (⟨5,0,[],[r26]⟩:z0k) 19 Z (Sp.via (Sp.prod (Sp.prod (Sp.prod (Sp.prod Sp.unit)))))<|Zq (ld 19 Z Z fH ty44 Z)<|Es (sto 2 Z Z fH Z znt)<|z1q<|z2q<|z0f<|z1y<|Zm Z<|Zq (I.add Z Z)<|Za Z<|z1i 7 Z fun y29=>z1q<|eSpl (R:=z0s) 2 Z (Sp.via (Sp.prod (Sp.prod (Sp.prod (Sp.prod Sp.unit)))))<|z19 (fun aa ww h=>⟨nvl [v23],Zu h [1,14,2]⟩)
   ·
    refine Zt<|z1y<|Zq (ld 19 Z Z fH ty44 Z)<|zch (R:=z0s) (⟨s4.2.1,s4.2.2.1,s4.2.2.2.1,s4.2.2.2.2.1⟩:z0k) 2 Z (Sp.via (Sp.prod (Sp.prod (Sp.prod (Sp.prod Sp.unit)))))<|Es (sto 2 Z Z fH Z znt)<|z1q<|z2q<|z0f<|z1y<|Zm Z<|Zq (I.add Z Z)<|Za Z<|z1i 7 Z fun y30=>z1q<|eSpl (R:=z0s) 2 Z (Sp.via (Sp.prod (Sp.prod (Sp.prod (Sp.prod Sp.unit)))))<|z19 (fun aa ww h=>⟨nvl [(n5 0)],Zu h [1,14,2]⟩)
  ·
   refine z1k<|z0o<|z0r<|z3b (fun aa ww h=>⟨nvl [(n5 0)],Zu h [14,2]⟩)
 ·
  refine gEx fun n31=>z0l<|gSR<|Zq (faB 2 Z Z Tryz.underlying44 Z (by exact zox))<|Zq (ld 2 Z Z (Foc.cast (Foc.next z0u (Foc.next z0u (Foc.next z0u fH))) Z) zq1 Z)<|Zq (z2w Z .rd Z tu42)<|Zq (I.gtr Z Z)<|Zj Z (fun h32=>?_) (fun h32=>?_)
  ·
   refine z1y<|Zm Z<|zch (R:=z0s) (⟨s3.2.1,s3.2.2.1,s3.2.2.2.1,s3.2.2.2.2⟩:z0k) 2 Z (Sp.via (Sp.prod (Sp.prod (Sp.prod (Sp.prod Sp.unit)))))<|Zq (ld 2 Z Z fH ty44 Z)<|Ef Z (lit (R:=z0s) ([(⟨s3.2.1,s3.2.2.1,s3.2.2.2.1,s3.2.2.2.2⟩:z0k)]:List z0k) 51 (pP Z Z<|pN) Z tu35 znt Z Z) fun v33=>zjd 51 [51] Z (fS Z<|fN)<|z0j fun x34 h35=>Ef Z (apn 8 Z Z Z .rd h35 tu35 znt Z Z Z) fun v36=>Zb Z<|gSR<|Zm Z<|Zb Z<|z0i<|Ze [v36] [8] Z
  ·
   refine Zt<|gSR<|Zm Z<|Zb Z<|z0i<|Ze [(n31 0)] [8] Z
end
section
open Go Go.Shelf Go.RowKit Go.Lib
theorem z11a {P:Program} {k:Nat} (w:World) (dT sT ty elem:TypeId) (g o dLen dCap:Nat) (a:Addr) (sLen sCap:Nat) (cur:Array Value) (t:TypeId) (cs:List Value)
  (hu:P.underlying dT=some (.slice elem)) (hs:(P.info? elem).map (·.size)=some k)
  (hg:w.heap[g]? = some (.cells cur t (0,0))) (hn:cs.length=Nat.min sLen dLen * k)
  (hsrc:∀ j v,cs[j]? = some v→w.cell? (a.add j)=some v) (hfit:o+cs.length≤cur.size) (h1:∀ v∈cs,v.oneCell'=true) :
  (Builtin.copy_ #[dT,sT] ty #[.slice (some ⟨g,o,none⟩) dLen dCap,.slice (some a) sLen sCap]).run P w =
   .ok (goInt (Nat.min sLen dLen)) (w.setRow g (cur.toList.take o++cs++cur.toList.drop (o+cs.length)).toArray):=by
 have hl:=run_firstCells_some (P:=P) w k (Nat.min sLen dLen) a sLen sCap cs hn hsrc
 have hst:=run_storeCells_at P g o t cs 0 cur w hg (by simpa using hfit) h1
 cases hq:P.info? elem with
 | none=>simp [hq] at hs
 | some i =>
  have hi:i.size=k:=by simpa [hq] using hs
  simp [Builtin.copy_,run_underlying hu,Builtin.lenOf,sizeOf,typeInfo,hq,hi,hl,hst]
theorem z11f {P:Program} (w:World) {o:Oper} {a:Act} {K:Act→World→Prop} {Q:Exit→Act→World→Prop} (d s:Operand) (t t':TypeId)
  (ho:o.op=.call { callee:=.builtin .copy,args:=#[d,s],argTypes:=#[t,t'] }) (v u:Value) (hd:a.eval d=v) (hs:a.eval s=u) {v':Value} {w':World}
  (hr:(Builtin.copy_ #[t,t'] o.type #[v,u]).run P w=.ok v' w') (h:K (a.put o.dst v') w'):o.wp P a w K Q:=by
 unfold Oper.wp execOp
 simp only [ho,resolve,invoke,builtin,Sem.run_bind,Sem.run_pure,Result.andThen_ok,List.map_toArray,List.map_cons,List.map_nil,hd,hs,hr]
 exact h
theorem zmo {P:Program} (w:World) {ops:Array Oper} {rest:List Oper} {o:Oper} {a:Act} {Q:Exit→Act→World→Prop} (hgd:o.guard=none) (d s:Operand) (t t':TypeId)
  (ho:o.op=.call { callee:=.builtin .copy,args:=#[d,s],argTypes:=#[t,t'] }) (v u:Value) (hd:a.eval d=v) (hs:a.eval s=u) {v':Value} {w':World}
  (hr:(Builtin.copy_ #[t,t'] o.type #[v,u]).run P w=.ok v' w') (h:wpList P ops Q rest (a.put o.dst v') w'):wpList P ops Q (o::rest) a w :=
 wpList_plain hgd fun _ hK=>z11f w d s t t' ho v u hd hs hr (hK _ _ h)
theorem zps {P:Program} {ops:Array Oper} {o:Oper} {a:Act} {w:World} {K:Act→World→Prop} {Q:Exit→Act→World→Prop} {E:Prop}
  (hg:o.guard=none) (d x:Operand) (dT sT:TypeId) (hop:o.op=Op.call { callee:=Callee.builtin Builtin.copy,args:=#[d,x],argTypes:=#[dT,sT] })
  (v u:Value) (hd:a.eval d=v) (hx:a.eval x=u) {v':Value} {w':World} (hr:(Builtin.copy_ #[dT,sT] o.type #[v,u]).run P w=.ok v' w') (hK:K (a.put o.dst v') w') :
  if Region.wanted o (yielded ops a.tmps)=true then Oper.wp P o a w K Q else E:=by
 have hw:Region.wanted o (yielded ops a.tmps)=true:=by simp [Region.wanted,hg]
 rw [if_pos hw]
 unfold Oper.wp
 simp [execOp,hop,resolve,invoke,builtin,hd,hx,hr,Result.andThen]
 exact hK
section
variable (b n c i vb vc:Nat) (xs ys:List Value) (C V:Array Value) (w:World)
theorem zyp:TI Tryz.prog 62 (.agg (Array.replicate 32 (.int .u8 0))) 32 32:=z1g
theorem z114:(Tryz.prog.info? 62).map (·.size)=some 32:=by kernel_rfl
set_option maxHeartbeats 4000000 in
set_option maxRecDepth 100000 in
theorem zyt (hi:i<n) (hroom:n+1≤c) (hc63:c≤9223372036854775807) (hvb:vb≠b) (hC:w.heap[b]? = some (.cells C 62 (0,0))) (hV:w.heap[vb]? = some (.cells V 62 (0,0)))
  (hCs:C.size=c * 32) (hxs:C.toList.take (n * 32)=xs) (hys:V.toList.take 32=ys) (hyl:ys.length=32) (h1x:∀ v∈xs,v.oneCell'=true) (h1y:∀ v∈ys,v.oneCell'=true) :
  Calls Tryz.prog 106 #[.slice (some ⟨b,0,none⟩) n c,.int .i64 i,.slice (some ⟨vb,0,none⟩) 1 vc] w fun e w' =>
   e=.returned (.slice (some ⟨b,0,none⟩) (n+1) c)∧∃ D,w'=w.drew.setRow b D∧D.size=C.size∧D.toList.take ((n+1) * 32)=xs.take (i * 32)++ys++xs.drop (i * 32):=by
 have hsz:=z114
 have u22:Tryz.prog.underlying 22=some (.slice 62):=Tryz.underlying22
 have hcc:∀ j v,C.toList[j]? = some v→w.cell? ⟨b,j,none⟩=some v:=fun j v hj=>by
  rw [Array.getElem?_toList] at hj; unfold World.cell?; rw [hC]; exact hj
 have hcv:∀ j v,V.toList[j]? = some v→w.cell? ⟨vb,j,none⟩=some v:=fun j v hj=>by
  rw [Array.getElem?_toList] at hj; unfold World.cell?; rw [hV]; exact hj
 have hxl:xs.length=n * 32:=by rw [← hxs,List.length_take,Array.length_toList]; omega
 have hxg:∀ j v,xs[j]? = some v→C.toList[j]? = some v:=fun j v hj=>by
  rw [← hxs,List.getElem?_take] at hj; split at hj
  ·
   exact hj
  ·
   cases hj
 have hyg:∀ j v,ys[j]? = some v→V.toList[j]? = some v:=fun j v hj=>by
  rw [← hys,List.getElem?_take] at hj; split at hj
  ·
   exact hj
  ·
   cases hj
 have hVs:V.size≠0:=by
  have:ys.length≤V.size:=by rw [← hys,List.length_take,Array.length_toList]; omega
  omega
 have hov:∀ lb cb,(callFunc 150 #[.slice (some ⟨vb,0,none⟩) 1 vc,.slice (some ⟨b,(i+1) * 32,none⟩) lb cb]).run Tryz.prog w=.ok (.value (.bool false)) w:=fun lb cb=>by
  rw [run_callFunc_extern Tryz.func150 (by kernel_rfl) (by kernel_rfl) (by kernel_rfl) (e:=Extern.SlicesOverlaps.overlaps #[22,22] #[4]) (by kernel_rfl),
   Lib.run_overlaps_apart w 22 4 62 u22 32 Tryz.sizeOf62 ⟨vb,0,none⟩ ⟨b,(i+1) * 32,none⟩ 1 vc lb cb hvb 62 62 V.size C.size (by simp [World.shape?,hV]) (by simp [World.shape?,hC]) (by omega) (by simp [World.frozen?,hV]) (by simp [World.frozen?,hV])]
  rfl
 have hdl:(xs.drop (i * 32)).length=(n - i) * 32:=by rw [List.length_drop,hxl,Nat.sub_mul]
 have hmin1:Nat.min (n+1 - i) (n - i)=n - i:=by simp only [Nat.min_def]; split <;> omega
 have hcp1:∀ ty dc sc,(Builtin.copy_ #[22,22] ty #[.slice (some ⟨b,(i+1) * 32,none⟩) (n - i) dc,.slice (some ⟨b,i * 32,none⟩) (n+1 - i) sc]).run Tryz.prog w.drew =
   .ok (goInt ((n - i:Nat):Int)) (w.drew.setRow b (C.toList.take ((i+1) * 32)++xs.drop (i * 32)++C.toList.drop ((i+1) * 32+(xs.drop (i * 32)).length)).toArray):=fun ty dc sc=>by
  have e:=z11a (P:=Tryz.prog) w.drew 22 22 ty 62 b ((i+1) * 32) (n - i) dc ⟨b,i * 32,none⟩ (n+1 - i) sc C 62 (xs.drop (i * 32)) u22 hsz hC (by rw [hmin1,hdl])
   (fun j v hj=>by rw [Addr.add_lit]; exact hcc _ v (hxg _ v (by rwa [List.getElem?_drop] at hj))) (by rw [hdl,hCs]; omega) (fun v hv=>h1x v (List.mem_of_mem_drop hv))
  rw [hmin1] at e; exact e
 obtain ⟨D1,hD1⟩:∃ D1,D1=(C.toList.take ((i+1) * 32)++xs.drop (i * 32)++C.toList.drop ((i+1) * 32+(xs.drop (i * 32)).length)).toArray:=⟨_,rfl⟩
 rw [← hD1] at hcp1
 have hD1s:D1.size=C.size:=by
  rw [hD1]; simp only [List.size_toArray,List.length_append,List.length_take,List.length_drop,Array.length_toList,hxl]; omega
 obtain ⟨W1,hW1⟩:∃ W1,W1=w.drew.setRow b D1:=⟨_,rfl⟩
 have hB1:W1.heap[b]? = some (.cells D1 62 (0,0)):=by rw [hW1]; exact setRow_heap w.drew b C D1 62 (0,0) hC
 have hV1:W1.heap[vb]? = some (.cells V 62 (0,0)):=by rw [hW1,setRow_other w.drew b vb D1 hvb]; exact hV
 obtain ⟨D2,hD2⟩:∃ D2,D2=(D1.toList.take (i * 32)++ys++D1.toList.drop (i * 32+ys.length)).toArray:=⟨_,rfl⟩
 have hcp2:∀ ty dc,(Builtin.copy_ #[22,22] ty #[.slice (some ⟨b,i * 32,none⟩) (n+1 - i) dc,.slice (some ⟨vb,0,none⟩) 1 vc]).run Tryz.prog W1=.ok (goInt 1) (W1.setRow b D2):=fun ty dc=>by
  have hm:Nat.min 1 (n+1 - i)=1:=by simp only [Nat.min_def]; split <;> omega
  have e:=z11a (P:=Tryz.prog) W1 22 22 ty 62 b (i * 32) (n+1 - i) dc ⟨vb,0,none⟩ 1 vc D1 62 ys u22 hsz hB1 (by rw [hm,hyl])
   (fun j v hj=>by
    rw [Addr.add_lit,Nat.zero_add]
    have:=hyg j v hj
    rw [Array.getElem?_toList] at this
    unfold World.cell?; rw [hV1]; exact this) (by rw [hyl,hD1s,hCs]; omega) h1y
  rw [hm,← hD2] at e; exact e
 have hfin:D2.size=C.size∧D2.toList.take ((n+1) * 32)=xs.take (i * 32)++ys++xs.drop (i * 32):=by
  have t1:D1.toList.take (i * 32)=xs.take (i * 32):=by
   rw [hD1,← hxs,List.take_take]
   simp only [List.append_assoc]
   rw [List.take_append_of_le_length (by rw [List.length_take,Array.length_toList]; omega),List.take_take]
   congr 1; omega
  have t2:(D1.toList.drop ((i+1) * 32)).take ((n - i) * 32)=xs.drop (i * 32):=by
   have el:(C.toList.take ((i+1) * 32)).length=(i+1) * 32:=by rw [List.length_take,Array.length_toList]; omega
   rw [hD1]
   simp only [List.append_assoc]
   rw [List.drop_append,el,Nat.sub_self,List.drop_zero,List.drop_eq_nil_of_le (by rw [el]; omega),List.nil_append,List.take_append_of_le_length (by rw [hdl]; omega),List.take_of_length_le (by rw [hdl]; omega)]
  constructor
  ·
   rw [hD2]; simp only [List.size_toArray,List.length_append,List.length_take,List.length_drop,Array.length_toList,hyl]; omega
  ·
   rw [hD2]
   simp only [List.append_assoc]
   have el:(D1.toList.take (i * 32)).length=i * 32:=by rw [List.length_take,Array.length_toList]; omega
   rw [List.take_append,el,List.take_of_length_le (by rw [el]; omega),List.take_append,hyl,List.take_of_length_le (l:=ys) (by rw [hyl]; omega),t1,
    show i * 32+32=(i+1) * 32 by omega, show (n+1) * 32 - i * 32 - 32=(n - i) * 32 by omega,t2]
 have hz1:¬ ((1:Int)=0):=by decide
 have hz2:¬ ((i:Int)=(n:Int)):=by omega
 have hw1:IntKind.i64.wrap ((i:Int)+1)=(i:Int)+1:=by rw [IntKind.wrap_i64]; omega
 have hb1:(0:Int)≤(i:Int)+1:=by omega
 have hin:i≤n:=by omega
 have htn:((i:Int)+1).toNat=i+1:=by omega
 have hb2:¬ (c=i+1):=by omega
 have hb3:(i:Int)≤(n:Int)+1:=by omega
 have hb4:¬ (c=i):=by omega
 subst hW1
 clear hcc hcv hxg hyg hD1 hD2 hxs hys hC hV hB1 hV1 h1x h1y hdl hmin1 hxl hyl
 go_enter Tryz.func106,Tryz.ntmps106
 go_wp2_with (simp only [hov])
 go_region_law (refine zps rfl _ _ 22 22 rfl (.slice (some ⟨b,(i+1) * 32,none⟩) (n - i) (c - (i+1))) (.slice (some ⟨b,i * 32,none⟩) (n+1 - i) (c - i)) (by simp [Act.eval,Act.put]) (by simp [Act.eval,Act.put]) (hcp1 3 (c - (i+1)) (c - i)) ?_)
 go_wp2_with (at_builtin; refine zmo _ rfl _ _ 22 22 rfl _ _ rfl rfl (hcp2 _ _) ?_)
 go_ret
 exact ⟨rfl,D2, by rw [setRow_setRow],hfin⟩
set_option maxHeartbeats 4000000 in
set_option maxRecDepth 100000 in
theorem z11m (hi:i<n) (hnc:n≤c) (hroom:c<n+1) (hn:n≤1000000) (hvb:vb≠b) (hC:w.heap[b]? = some (.cells C 62 (0,0))) (hV:w.heap[vb]? = some (.cells V 62 (0,0)))
  (hCs:C.size=c * 32) (hxs:C.toList.take (n * 32)=xs) (hys:V.toList.take 32=ys) (hyl:ys.length=32) (h1x:∀ v∈xs,v.oneCell'=true) (h1y:∀ v∈ys,v.oneCell'=true) :
  Calls Tryz.prog 106 #[.slice (some ⟨b,0,none⟩) n c,.int .i64 i,.slice (some ⟨vb,0,none⟩) 1 vc] w fun e w' =>
   ∃ G,e=.returned (.slice (some ⟨w.heap.size,0,none⟩) (n+1) G)∧n+1≤G∧G≤maxLen∧∃ D,w'.heap[w.heap.size]? = some (.cells D 62 (0,0))∧w.grownBy w' none∧D.size=G * 32∧D.toList.take ((n+1) * 32)=xs.take (i * 32)++ys++xs.drop (i * 32):=by
 have hsz:=z114
 have u22:Tryz.prog.underlying 22=some (.slice 62):=Tryz.underlying22
 have u3:Tryz.prog.underlying 3=some (.int .i64):=Tryz.underlying3
 have hcn:c=n:=by omega
 subst hcn
 have hcc:∀ j v,C.toList[j]? = some v→w.cell? ⟨b,j,none⟩=some v:=fun j v hj=>by
  rw [Array.getElem?_toList] at hj; unfold World.cell?; rw [hC]; exact hj
 have hxl:xs.length=c * 32:=by rw [← hxs,List.length_take,Array.length_toList]; omega
 have hxg:∀ j v,xs[j]? = some v→C.toList[j]? = some v:=fun j v hj=>by
  rw [← hxs,List.getElem?_take] at hj; split at hj
  ·
   exact hj
  ·
   cases hj
 have hyg:∀ j v,ys[j]? = some v→V.toList[j]? = some v:=fun j v hj=>by
  rw [← hys,List.getElem?_take] at hj; split at hj
  ·
   exact hj
  ·
   cases hj
 have hbw:b<w.heap.size:=(Array.getElem?_eq_some_iff.1 hC).1
 have hvw:vb<w.heap.size:=(Array.getElem?_eq_some_iff.1 hV).1
 have hkk:(c:Int)+1 - (i:Int)=((c+1 - i:Nat):Int):=by omega
 obtain ⟨i0,hi0,hz0,hzs,hzb⟩:=zyp
 have hold:(Builtin.firstCells i0.size i (.slice (some ⟨b,0,none⟩) i c)).run Tryz.prog w.drew=.ok (xs.take (i * 32)).toArray w.drew:=by
  rw [hzs]
  exact run_firstCells_some w.drew 32 i ⟨b,0,none⟩ i c (xs.take (i * 32)) (by rw [List.length_take]; omega) (fun j v hj=>by
   rw [Addr.add_lit,Nat.zero_add]
   rw [List.getElem?_take] at hj
   split at hj
   ·
    exact hcc j v (hxg j v hj)
   ·
    cases hj)
 obtain ⟨G,hG⟩:∃ G,G=grownCap w (c+1) c 62:=⟨_,rfl⟩
 obtain ⟨ROW,hROW⟩:∃ ROW:Array Value,ROW=(xs.take (i * 32)).toArray++Builtin.zeroCells (Array.replicate 32 (.int .u8 0)) (c+1 - i)++Builtin.zeroCells (Array.replicate 32 (.int .u8 0)) (G - (c+1)):=⟨_,rfl⟩
 have hrz:∀ ty,(Builtin.append_ #[22,3] ty #[.slice (some ⟨b,0,none⟩) i c,.int .i64 ((c:Int)+1 - (i:Int))]).run Tryz.prog w =
   .ok (.slice (some ⟨w.heap.size,0,none⟩) (c+1) G) (w.drew.alloc (.cells ROW 62)):=fun ty=>by
  have h:=Lib.run_append_grow_zeros w 22 3 ty 62 i0 _ .i64 .i64 u22 u3 hi0 hz0 (some ⟨b,0,none⟩) i c (xs.take (i * 32)) hold (c+1 - i) (by omega) (by omega) (by omega) (by omega) (by rw [hzb]; omega) (by rw [hzb, show i+(c+1 - i)=c+1 by omega]; exact growslice_fits (by omega) (by omega))
  rw [show i+(c+1 - i)=c+1 by omega] at h
  rw [hkk,hROW,hG]
  exact h
 have hGn:c+1≤G:=by rw [hG]; exact grownCap_ge w _ _ _
 have hGm:G≤maxLen:=by rw [hG]; exact grownCap_le_maxLen w (c+1) c 62 (by unfold maxLen; omega)
 have hG63:G≤9223372036854775807:=by unfold maxLen at hGm; omega
 have hRs:ROW.size=G * 32:=by
  rw [hROW]; simp only [Array.size_append,List.size_toArray,List.length_take,size_zeroCells,Array.size_replicate,hxl]; omega
 have hRt:ROW.toList.take (i * 32)=xs.take (i * 32):=by
  rw [hROW]; simp only [Array.toList_append,List.append_assoc]
  rw [List.take_append_of_le_length (by rw [List.length_take]; omega),List.take_take]; congr 1; omega
 obtain ⟨D1,hD1⟩:∃ D1,D1=(ROW.toList.take (i * 32)++ys++ROW.toList.drop (i * 32+ys.length)).toArray:=⟨_,rfl⟩
 have hD1s:D1.size=G * 32:=by
  rw [hD1]; simp only [List.size_toArray,List.length_append,List.length_take,List.length_drop,Array.length_toList,hyl]; omega
 obtain ⟨D2,hD2⟩:∃ D2,D2=(D1.toList.take ((i+1) * 32)++xs.drop (i * 32)++D1.toList.drop ((i+1) * 32+(xs.drop (i * 32)).length)).toArray:=⟨_,rfl⟩
 have hdl:(xs.drop (i * 32)).length=(c - i) * 32:=by rw [List.length_drop,hxl,Nat.sub_mul]
 have hD2s:D2.size=G * 32:=by
  rw [hD2]; simp only [List.size_toArray,List.length_append,List.length_take,List.length_drop,Array.length_toList,hxl]; omega
 have hfin:D2.toList.take ((c+1) * 32)=xs.take (i * 32)++ys++xs.drop (i * 32):=by
  have e1:(ROW.toList.take (i * 32)).length=i * 32:=by rw [List.length_take,Array.length_toList]; omega
  have e2:D1.toList.take ((i+1) * 32)=xs.take (i * 32)++ys:=by
   rw [hD1]; simp only [List.append_assoc]
   rw [List.take_append,e1,List.take_of_length_le (by rw [e1]; omega),List.take_append_of_le_length (by rw [hyl]; omega),List.take_of_length_le (l:=ys) (by rw [hyl]; omega),hRt]
  have e3:(D1.toList.take ((i+1) * 32)).length=(i+1) * 32:=by rw [List.length_take,Array.length_toList]; omega
  rw [hD2]; simp only [List.append_assoc]
  rw [List.take_append,e3,List.take_of_length_le (by rw [e3]; omega),List.take_append_of_le_length (by rw [hdl]; omega),List.take_of_length_le (l:=xs.drop (i * 32)) (by rw [hdl]; omega),e2,List.append_assoc]
 have hcpA:∀ (W:World),W.heap=w.heap.push (.cells ROW 62)→∀ ty dc,(Builtin.copy_ #[22,22] ty #[.slice (some ⟨w.heap.size,i * 32,none⟩) (c+1 - i) dc,.slice (some ⟨vb,0,none⟩) 1 vc]).run Tryz.prog W=.ok (goInt 1) (W.setRow w.heap.size D1):=fun W hW ty dc=>by
  have hm:Nat.min 1 (c+1 - i)=1:=by simp only [Nat.min_def]; split <;> omega
  have hN:W.heap[w.heap.size]? = some (.cells ROW 62 (0,0)):=by rw [hW,Array.getElem?_push_size]
  have hV1:W.heap[vb]? = some (.cells V 62 (0,0)):=by rw [hW,Array.getElem?_push_lt hvw]; rw [← hV,Array.getElem?_eq_getElem hvw]
  have e:=z11a (P:=Tryz.prog) W 22 22 ty 62 w.heap.size (i * 32) (c+1 - i) dc ⟨vb,0,none⟩ 1 vc ROW 62 ys u22 hsz hN (by rw [hm,hyl])
   (fun j v hj=>by
    rw [Addr.add_lit,Nat.zero_add]
    have:=hyg j v hj
    rw [Array.getElem?_toList] at this
    unfold World.cell?; rw [hV1]; exact this) (by rw [hyl,hRs]; omega) h1y
  rw [hm,← hD1] at e; exact e
 have hcpB:∀ (W W0:World),W0.heap=w.heap.push (.cells ROW 62)→W.heap=(W0.setRow w.heap.size D1).heap→∀ ty dc sc,(Builtin.copy_ #[22,22] ty #[.slice (some ⟨w.heap.size,(i+1) * 32,none⟩) (c - i) dc,.slice (some ⟨b,i * 32,none⟩) (c - i) sc]).run Tryz.prog W=.ok (goInt ((c - i:Nat):Int)) (W.setRow w.heap.size D2):=fun W W0 hW0 hW ty dc sc=>by
  have hm:Nat.min (c - i) (c - i)=c - i:=Nat.min_self _
  have hN:W.heap[w.heap.size]? = some (.cells D1 62 (0,0)):=by rw [hW]; exact setRow_heap W0 w.heap.size ROW D1 62 (0,0) (by rw [hW0,Array.getElem?_push_size])
  have hB1:W.heap[b]? = some (.cells C 62 (0,0)):=by
   rw [hW,setRow_other W0 w.heap.size b D1 (by omega),hW0,Array.getElem?_push_lt hbw,← hC,Array.getElem?_eq_getElem hbw]
  have e:=z11a (P:=Tryz.prog) W 22 22 ty 62 w.heap.size ((i+1) * 32) (c - i) dc ⟨b,i * 32,none⟩ (c - i) sc D1 62 (xs.drop (i * 32)) u22 hsz hN (by rw [hm,hdl])
   (fun j v hj=>by
    rw [Addr.add_lit]
    have:=hxg _ v (by rwa [List.getElem?_drop] at hj)
    rw [Array.getElem?_toList] at this
    unfold World.cell?; rw [hB1]; exact this) (by rw [hdl,hD1s]; omega) (fun v hv=>h1x v (List.mem_of_mem_drop hv))
  rw [hm,← hD2] at e; exact e
 have hz1:¬ ((1:Int)=0):=by decide
 have hz2:¬ ((i:Int)=(c:Int)):=by omega
 have hz3:(c:Int)<(c:Int)+1:=by omega
 have hw1:IntKind.i64.wrap ((i:Int)+1)=(i:Int)+1:=by rw [IntKind.wrap_i64]; omega
 have hb1:(0:Int)≤(i:Int)+1:=by omega
 have hin:i≤c:=by omega
 have htn:((i:Int)+1).toNat=i+1:=by omega
 have hGi:¬ (G=i):=by omega
 have hGim:¬ (G=i+1):=by omega
 have hci:¬ (c=i):=by omega
 have hb3:(i:Int)≤(c:Int):=by omega
 have hE1:((w.alloc (.cells ROW 62)).drew).heap=w.heap.push (.cells ROW 62):=rfl
 have hF1:(((w.alloc (.cells ROW 62)).drew.setRow w.heap.size D1).drew).heap=(((w.alloc (.cells ROW 62)).drew).setRow w.heap.size D1).heap:=rfl
 clear hROW hold hG hRt hD1 hD2 hxs hys hC hV h1x h1y hdl hxl hyl hcc hxg hyg hi0 hz0 hzs hzb hkk hnc hroom
 go_enter Tryz.func106,Tryz.ntmps106
 go_wp2_with (first
  | (at_builtin; refine Lib.wpList_append_run _ rfl _ _ _ _ rfl _ _ rfl rfl _ _ (hrz _) ?_)
  | (at_builtin; refine zmo _ rfl _ _ 22 22 rfl _ _ rfl rfl (hcpA _ hE1 _ _) ?_))
 go_region_law (refine zps rfl _ _ 22 22 rfl (.slice (some ⟨w.heap.size,(i+1) * 32,none⟩) (c - i) (G - (i+1))) (.slice (some ⟨b,i * 32,none⟩) (c - i) (c - i)) (by simp [Act.eval,Act.put]) (by simp [Act.eval,Act.put]) (hcpB _ _ hE1 hF1 3 (G - (i+1)) (c - i)) ?_)
 go_wp2
 go_ret
 refine ⟨G,rfl,hGn,hGm,D2,?_,⟨rfl,rfl,rfl,?_, fun k hk _=>?_⟩,hD2s,hfin⟩
 ·
  exact setRow_heap _ w.heap.size D1 D2 62 (0,0) (setRow_heap ((w.alloc (.cells ROW 62)).drew) w.heap.size ROW D1 62 (0,0) (by rw [hE1,Array.getElem?_push_size]))
 ·
  rw [setRow_size]; show _≤((w.alloc (.cells ROW 62)).drew.setRow w.heap.size D1).heap.size; rw [setRow_size,hE1,Array.size_push]; omega
 ·
  rw [setRow_other _ w.heap.size k D2 (by omega)]; show ((w.alloc (.cells ROW 62)).drew.setRow w.heap.size D1).heap[k]? = _
  rw [setRow_other _ w.heap.size k D1 (by omega),hE1,Array.getElem?_push_lt hk,Array.getElem?_eq_getElem hk]
set_option maxHeartbeats 4000000 in
set_option maxRecDepth 100000 in
theorem z15f (p0 p1:Value) (h0:w.ownsRow 0 62 32 p0 n xs) (h1:w.ownsRow 0 62 32 p1 1 ys) (hn:n≤1000000) (h1y:∀ v∈ys,v.oneCell'=true) :
  Calls Tryz.prog 106 #[p0,.int .i64 n,p1] w fun e w'=>∃ v',e=.returned v'∧w'.ownsRow 0 62 32 v' (n+1) (xs++ys)∧w.grownBy w' p0.ownBlock∧∀ b,v'.ownBlock=some b→p0.ownBlock=some b∨w.heap.size≤b:=by
 have u22:Tryz.prog.underlying 22=some (.slice 62):=Tryz.underlying22
 obtain ⟨p,c,rfl⟩:=z4l h0
 obtain ⟨q,d,rfl⟩:=z4l h1
 obtain ⟨p',c',w',hrun,ho,hg,hs⟩:=zgn (P:=Tryz.prog) (rt:=22) (w:=w) u22 zyp (by simp [Value.cells]) (by decide) h0 (Rd.of_own h1) h1y (by omega) (by omega) (Nat.zero_le _)
 have hz1:¬ ((1:Int)=0):=by decide
 have hnc:n≤c:=by
  rcases h0.2 with ⟨e,rfl⟩ | ⟨g,cap,cur,e,_,_,h,_⟩
  ·
   omega
  ·
   simp only [Value.slice.injEq] at e; omega
 have hc63:c≤9223372036854775807:=by
  rcases h0.2 with ⟨e,rfl⟩ | ⟨g,cap,cur,e,_,_,_,h,_⟩
  ·
   simp only [Value.slice.injEq] at e; omega
  ·
   simp only [Value.slice.injEq] at e; unfold maxLen at h; omega
 have hin:n≤n:=Nat.le_refl _
 have hp0:p=none→n=0∧c=0:=fun e=>by
  rcases h0.2 with ⟨e',rfl⟩ | ⟨g,cap,cur,e',_⟩
  ·
   simp only [Value.slice.injEq] at e'; omega
  ·
   rw [e] at e'; simp at e'
 clear h0 h1 h1y
 go_enter Tryz.func106,Tryz.ntmps106
 cases p with
 | none =>
  obtain ⟨rfl,rfl⟩:=hp0 rfl
  clear hp0
  go_wp2_with (at_builtin; refine Lib.wpList_append_run _ rfl _ _ _ _ rfl _ _ rfl rfl _ _ hrun ?_)
  go_ret
  exact ⟨_,rfl,ho,hg,hs⟩
 | some a =>
  clear hp0
  obtain ⟨ab,ao,asp⟩:=a
  go_wp2_with (at_builtin; refine Lib.wpList_append_run _ rfl _ _ _ _ rfl _ _ rfl rfl _ _ hrun ?_)
  all_goals (go_ret; exact ⟨_,rfl,ho,hg,hs⟩)
end
end
section
open Go Go.RowKit
theorem relB {S S':Blk} {w w':World}:∀ {l:List UInt8} {cs:List Value},z6y u8R S w cs l→z6y u8R S' w' cs l
 | [],cs,h=>h
 | x::l,cs,h=>by
  obtain ⟨c,d,rfl,h1,h2⟩:=h
  exact ⟨c,d,rfl,h1,relB h2⟩
theorem relD {S S':Blk} {w w':World}:∀ {l:List V3} {cs:List Value},z6y (z3r 32 u8R) S w cs l→z6y (z3r 32 u8R) S' w' cs l
 | [],cs,h=>h
 | x::l,cs,h=>by
  obtain ⟨c,d,rfl,h1,h2⟩:=h
  exact ⟨c,d,rfl,relB h1,relD h2⟩
def insF (c0:List V3) (i:Int) (c1:List V3):Option (List V3) :=
 chk (0≤i∧i.toNat≤c0.length∧c0.length≤1000000∧c1.length=1) >>= fun _=>some (c0.take i.toNat++c1++c0.drop i.toNat)
theorem z13z (p0 p1:Value) (n i:Nat) (xs ys:List Value) (w:World) (hi:i≤n) (h0:w.ownsRow 0 62 32 p0 n xs) (h1:w.ownsRow 0 62 32 p1 1 ys) (hsep:∀ b,p0.ownBlock=some b→p1.ownBlock≠some b) (hn:n≤1000000)
  (h1x:∀ v∈xs,v.oneCell'=true) (h1y:∀ v∈ys,v.oneCell'=true) :
  Calls Tryz.prog 106 #[p0,.int .i64 i,p1] w fun e w'=>∃ v',e=.returned v'∧w'.ownsRow 0 62 32 v' (n+1) (xs.take (i * 32)++ys++xs.drop (i * 32))∧w.grownBy w' p0.ownBlock∧∀ b,v'.ownBlock=some b→p0.ownBlock=some b∨w.heap.size≤b:=by
 have hxl:=h0.1
 by_cases hin:i=n
 ·
  subst hin
  refine (z15f i xs ys w p0 p1 h0 h1 hn h1y).mono fun e w' ⟨v',a,b,c,d⟩=>⟨v',a,?_,c,d⟩
  rw [List.take_of_length_le (by omega),List.drop_eq_nil_of_le (by omega),List.append_nil]
  exact b
 ·
  rcases h0.2 with ⟨rfl,rfl⟩ | ⟨b,c,C,rfl,-,hC,hnc,hcm,hCs,hxs⟩
  ·
   omega
  rcases h1.2 with ⟨rfl,e⟩ | ⟨vb,vc,V,rfl,-,hV,-,-,hVs,hys⟩
  ·
   omega
  have hvb:vb≠b:=fun e=>hsep b rfl (by rw [e]; rfl)
  have hyl:ys.length=32:=by have:=h1.1; omega
  have hlen:(xs.take (i * 32)++ys++xs.drop (i * 32)).length=(n+1) * 32:=by
   simp only [List.length_append,List.length_take,List.length_drop,hyl]; omega
  by_cases hroom:n+1≤c
  ·
   refine (zyt b n c i vb vc xs ys C V w (by omega) hroom (by unfold maxLen at hcm; omega) hvb hC hV hCs hxs (by simpa using hys) hyl h1x h1y).mono fun e w' ⟨a,D,a2,a3,a4⟩=>⟨_,a,?_,?_, fun b' hb'=>.inl hb'⟩
   ·
    refine ⟨hlen,.inr ⟨b,c,D,rfl,Nat.zero_le _,?_,hroom,hcm,a3.trans hCs,a4⟩⟩
    rw [a2]; exact setRow_heap w.drew b C D 62 (0,0) hC
   ·
    rw [a2]
    refine ⟨rfl,rfl,rfl,?_, fun k hk hne=>?_⟩
    ·
     rw [setRow_size]; exact Nat.le_refl _
    ·
     rw [setRow_other w.drew b k D (fun e=>hne (by rw [e]; rfl))]; rfl
  ·
   refine (z11m b n c i vb vc xs ys C V w (by omega) hnc (by omega) hn hvb hC hV hCs hxs (by simpa using hys) hyl h1x h1y).mono fun e w' ⟨G,a,g1,g2,D,a1,a2,a3,a4⟩=>⟨_,a,?_,?_, fun b' hb'=>.inr ?_⟩
   ·
    exact ⟨hlen,.inr ⟨w.heap.size,G,D,rfl,Nat.zero_le _,a1,g1,g2,a3,a4⟩⟩
   ·
    exact ⟨a2.os,a2.tape,a2.output,a2.size, fun k hk _=>a2.block k hk (by simp)⟩
   ·
    simp only [Value.ownBlock,Option.some.injEq] at hb'; omega
theorem z148 (p0 p1:Value) (c0 c1:List V3) (i:Int):z1w Tryz.prog 106 [.val p0,.rd z0c i,.val p1] [(1,some (p0,.list (z3r 32 u8R) 62 c0)),(2,some (p1,.list (z3r 32 u8R) 62 c1))] (insF c0 i c1)
  (fun r nv=>⟨[.val (nv 0)],[(100,some (nv 0,.list (z3r 32 u8R) 62 r))]⟩):=by
 intro r hr H vs w hvs hres
 have hb:(0≤i∧i.toNat≤c0.length∧c0.length≤1000000∧c1.length=1)∧r=c0.take i.toNat++c1++c0.drop i.toNat:=by
  unfold insF chk at hr
  split at hr
  ·
   rename_i h; simp at hr; exact ⟨h, by rw [← hr,List.append_assoc]⟩
  ·
   simp at hr
 obtain ⟨⟨hi0,hi1,hn,hc1⟩,rfl⟩:=hb
 match vs,hvs with
 | [v0,v1,v2],hvs =>
 obtain ⟨h0,h1,h2,_⟩:=hvs
 have e0:v0=p0:=h0.1
 have e2:v2=p1:=h2.1
 have e1:v1=.int .i64 i:=z4x h1
 subst e0; subst e2; subst e1
 obtain ⟨j,rfl⟩:∃ j:Nat,i=(j:Int):=⟨i.toNat, by omega⟩
 simp only [Int.toNat_natCast] at hi1 ⊢
 obtain ⟨xs,x1,x2⟩:=zai (hres.conts 1 v0 _ rfl)
 obtain ⟨ys,y1,y2⟩:=zai (hres.conts 2 v2 _ rfl)
 rw [hc1] at y1
 have hsep:∀ b,v0.ownBlock=some b→v2.ownBlock≠some b:=fun b hb hb2=>by
  obtain ⟨p,c,rfl⟩:=z4l x1
  obtain ⟨q,d,rfl⟩:=z4l y1
  exact hres.excl 1 _ _ 2 _ _ rfl rfl (by decide) b (by rw [za0]; exact hb) (by rw [za0]; exact hb2)
 refine (z13z v0 v2 c0.length j xs ys w hi1 x1 y1 hsep hn x2.one y2.one).mono fun e w' ⟨v',he,hw,hg,hs⟩=>?_
 have only:∀ r v c (q:z5f),lr [(100,some (v',q))] r=some (v,c)→r=100∧v=v'∧c=q:=fun r v c q h=>by
  rw [z1r] at h
  split at h
  ·
   rename_i e; cases h; exact ⟨e.symm,rfl,rfl⟩
  ·
   simp [lr,lk] at h
 have hlen:(c0.take j++c1++c0.drop j).length=c0.length+1:=by
  simp only [List.length_append,List.length_take,List.length_drop,hc1]; omega
 obtain ⟨p',c',rfl⟩:=z4l hw
 refine ⟨fun _=>.slice p' (c0.length+1) c',[.slice p' (c0.length+1) c'],he,⟨⟨rfl,rfl⟩,trivial⟩, fun r v c h=>?_, fun r v c r' v2' c2' h h' hne=>?_, fun r v c h b hb=>?_,hg.os,hg.tape,hg.output,hg.size, fun k hk=>?_⟩
 ·
  obtain ⟨rfl,rfl,rfl⟩:=only _ _ _ _ h
  refine zl8 (B:=0) (xs:=xs.take (j * 32)++ys++xs.drop (j * 32)) (by rw [hlen]; exact hw) ?_
  exact ((relD (x2.take j)).append (relD y2)).append (relD (x2.drop j))
 ·
  exact absurd ((only _ _ _ _ h).1.trans (only _ _ _ _ h').1.symm) hne
 ·
  obtain ⟨rfl,rfl,rfl⟩:=only _ _ _ _ h
  rw [za0] at hb
  rcases hs b hb with h | h
  ·
   exact .inr ⟨1,_,_,rfl, by obtain ⟨p,c,rfl⟩:=z4l x1; rw [za0]; exact h⟩
  ·
   exact .inl h
 ·
  refine hg.block k hk.1 fun e=>hk.2 ⟨1,_,_,rfl,?_⟩
  obtain ⟨p,c,rfl⟩:=z4l x1; rw [za0]; exact e.symm
end
section
open Go Go.RowKit
set_option maxRecDepth 100000
def z91 (a0:List z00) (s2:Int):Option (Sum (Sum Int Unit) Int) :=
 if decide (s2<(a0.length:Int)) then
  idx a0 s2 >>= fun x4 =>
  z24 x4 >>= fun r7 =>
  if r7 != 0 then
   some (.inl (.inl r7))
  else
   some (.inr (w64 (s2+1)))
 else
  some (.inl (.inr ()))
def zin (a0:List z00):Option (Int) :=
 z61 (iter (z91 a0) 0) fun s1 =>
 some 0
theorem zqg (a0:List z00):z1w Tryz.prog 64 [.rd (z02 z01) a0] [zG1] (zin a0) (fun r nv=>⟨[.rd z0c r],[(1001,some (.bool true,.glob 1 (z3r 64 z10) z8a))]⟩):=by
 refine z2e 18 Tryz.func64 Z Z Z fun H w=>?_
 refine gSR<|Zb Z<|z83 (fun (s1:Unit) aa ww=>Sta (ctx 18 H [zG1] w) [] [zG1] aa ww) ?_ (fun s1=>?_)
 ·
  refine gSR<|Zm Z<|Zq (z2w Z .rd Z Tryz.underlying139)<|Zm Z<|Zn<|z1v (fun (s2:Int) aa ww=>Sta (ctx 18 H [zG1] w) [(6,.rd (z02 z01) a0),(7,.rd z0c (a0.length:Int)),(8,.rd z0c s2)] [zG1] aa ww) (fun aa ww h=>Zu h [1001]) (fun s2=>?_)
  refine gSR<|Zq (I.lss Z Z)<|Zn<|z0l<|gIf Z Z (fun h3=>?_) (fun h3=>?_)
  ·
   refine Zt<|z0l<|z49<|gSR<|z0j fun x4 h5=>Zq (ixR Z Z h5 Tryz.underlying139 z3m Z)<|Zq (ldR Z z2v)<|Eb Z (z52 1100 z3m (ZrE.nilS (ZrE.nilS ZrE.nil))) fun v6=>z99 aZ [.rd (z02 aZ) [],.val (.slice none 0 0)] 1100 [] [.val (.slice none 0 0)] Z Z Z<|z99 z03 [.rd (z02 aZ) [],.rd (z02 z03) []] 1100 [.rd (z02 aZ) []] [] Z Z Z<|zch (R:=z01) (⟨[],[]⟩:z00) 1100 Z (Sp.via (Sp.prod (Sp.prod Sp.unit)))<|Es (sto 1100 Z Z fH Z z3m)<|Zn<|gSR<|Zq (ld 1100 Z Z fH z2v Z)<|Zc [1001] [] Tryz.func74 Z (zc4 _) fun r7 n8=>Zb Z<|gSR<|Zm Z<|Zq (I.neq Z Z)<|Zj Z (fun h9=>?_) (fun h9=>?_)
   ·
    refine gSR<|Zm Z<|Zb Z<|z0i<|z47<|z0v<|z7z<|z5h<|Ze [] [1001] Z
   ·
    refine z29<|z2q<|z0f<|z1y<|Zq (I.add Z Z)<|Zm Z<|z1q<|z19 (fun aa ww h=>Zu h [1001])
  ·
   refine z1k<|z0o<|z0r<|z4y (fun aa ww h=>Zu h [1001])
 ·
  refine gSR<|Zb Z<|z0i<|Ze [] [1001] Z
def z2n (a0:List V3) (a1:List V3) (s3:Int):Option (Sum (Sum Bool Unit) Int) :=
 if decide (s3<(a0.length:Int)) then
  idx a0 s3 >>= fun x5 =>
  idx a1 s3 >>= fun x7 =>
  if !decide (x5=x7) then
   some (.inl (.inl false))
  else
   some (.inr (w64 (s3+1)))
 else
  some (.inl (.inr ()))
def z4r (a0:List V3) (a1:List V3):Option (Bool) :=
 if (a0.length:Int) != (a1.length:Int) then
  some false
 else
  z61 (iter (z2n a0 a1) 0) fun s2 =>
  some true
theorem ze1 (a0:List V3) (a1:List V3):z1w Tryz.prog 71 [.rd (z02 aZ) a0,.rd (z02 aZ) a1] [] (z4r a0 a1) (fun r nv=>⟨[.rd z0g r],[]⟩):=by
 refine z2e 26 Tryz.func71 Z Z Z fun H w=>?_
 refine gSR<|Zb Z<|z0l<|gSR<|Zm Z<|Zq (z2w Z .rd Z tu22)<|Zm Z<|Zq (z2w Z .rd Z tu22)<|Zq (I.neq Z Z)<|Zj Z (fun h1=>?_) (fun h1=>?_)
 ·
  refine gSR<|Zb Z<|z0i<|z0v<|Ze [] [] Z
 ·
  refine Zt<|z83 (fun (s2:Unit) aa ww=>Sta (ctx 26 H [] w) [] [] aa ww) ?_ (fun s2=>?_)
  ·
   refine gSR<|Zm Z<|Zq (z2w Z .rd Z tu22)<|Zm Z<|Zn<|z1v (fun (s3:Int) aa ww=>Sta (ctx 26 H [] w) [(0,.rd (z02 aZ) a0),(1,.rd (z02 aZ) a1),(12,.rd z0c (a0.length:Int)),(13,.rd z0c s3)] [] aa ww) (fun aa ww h=>Zu h []) (fun s3=>?_)
   refine gSR<|Zq (I.lss Z Z)<|Zn<|z0l<|gIf Z Z (fun h4=>?_) (fun h4=>?_)
   ·
    refine Zt<|z0l<|z49<|gSR<|Zm Z<|Zb Z<|z0l<|zgc mixed (by kernel_rfl)<|Rq Z (mv Z)<|Rq Z (mv Z)<|z80 fun x5 h6=>Rq Z (ixR Z Z h6 tu22 z1g Z)<|Rq Z (ldR Z z36)<|Rq Z (mv Z)<|Rq Z (mv Z)<|z80 fun x7 h8=>Rq Z (ixR Z Z h8 tu22 z1g Z)<|Rq Z (ldR Z z36)<|Rq Z (neA Z Z zut Z Z zuh)<|zov<|z0f<|gIf Z Z (fun h9=>?_) (fun h9=>?_)
    ·
     refine gSR<|Zb Z<|z0i<|z47<|z0v<|z7z<|z5h<|Ze [] [] Z
    ·
     refine z29<|z2q<|z0f<|z1y<|Zq (I.add Z Z)<|Zm Z<|z1q<|z19 (fun aa ww h=>Zu h [])
   ·
    refine z1k<|z0o<|z0r<|z4y (fun aa ww h=>Zu h [])
  ·
   refine gSR<|Zb Z<|z0i<|Ze [] [] Z
def znd (a0:z0b) (a1:z0b):Option (Bool) :=
 if a0.Author==a1.Author then
  if a0.Stamp==a1.Stamp then
   if decide (a0.Act=a1.Act) then
    if decide (a0.Sig=a1.Sig) then
     z4r a0.Preds a1.Preds >>= fun r7 =>
     some r7
    else
     some false
   else
    some false
  else
   some false
 else
  some false
theorem ztq (a0:z0b) (a1:z0b):z1w Tryz.prog 66 [.rd z03 a0,.rd z03 a1] [] (znd a0 a1) (fun r nv=>⟨[.rd z0g r],[]⟩):=by
 refine z2e 38 Tryz.func66 Z Z Z fun H w=>?_
 refine gSR<|Eb Z (bx 1 Z) fun v1=>Eb Z (bx 2 Z) fun v2=>Zb Z<|gSR<|Zq (faB 1 Z Z Tryz.underlying73 Z (by exact z6s))<|Zq (ld 1 Z Z (fP (z3u _)) za4 Z)<|Zq (faB 2 Z Z Tryz.underlying73 Z (by exact z6s))<|Zq (ld 2 Z Z (fP (z3u _)) za4 Z)<|Zq (W.eql Z Z)<|Zm Z<|z1d 10 Z (fun h3=>?_) (fun h3=>?_)
 ·
  refine lKn 9 Z h3<|z0y Zx Z Z (faB 1 Z Z Tryz.underlying73 Z (by exact zpy))<|z0y Zx Z Z (ld 1 Z Z (fP (z5c _)) zp8 Z)<|z0y Zx Z Z (faB 2 Z Z Tryz.underlying73 Z (by exact zpy))<|z0y Zx Z Z (ld 2 Z Z (fP (z5c _)) zp8 Z)<|z0y Zx Z Z (U.eql Z Z)<|Zq (pkT Z Z)<|Zm Z<|z1d 17 Z (fun h4=>?_) (fun h4=>?_)
  ·
   refine lKn 15 Z h4<|lKn 16 Z h4<|z0y Zx Z Z (faB 1 Z Z Tryz.underlying73 Z (by exact zpt))<|z0y Zx Z Z (ld 1 Z Z (fP (z2h _)) ty69 Z)<|z0y Zx Z Z (faB 2 Z Z Tryz.underlying73 Z (by exact zpt))<|z0y Zx Z Z (ld 2 Z Z (fP (z2h _)) ty69 Z)<|z0y Zx Z Z (eqA Z Z eq69 Z Z gq69)<|Zq (pkT Z Z)<|Zm Z<|z1d 24 Z (fun h5=>?_) (fun h5=>?_)
   ·
    refine lKn 22 Z h5<|lKn 23 Z h5<|z0y Zx Z Z (faB 1 Z Z Tryz.underlying73 Z (by exact zra))<|z0y Zx Z Z (ld 1 Z Z (fP (z3a _)) ty71 Z)<|z0y Zx Z Z (faB 2 Z Z Tryz.underlying73 Z (by exact zra))<|z0y Zx Z Z (ld 2 Z Z (fP (z3a _)) ty71 Z)<|z0y Zx Z Z (eqA Z Z eq71 Z Z gq71)<|Zq (pkT Z Z)<|Zm Z<|z1d 31 Z (fun h6=>?_) (fun h6=>?_)
    ·
     refine lKn 29 Z h6<|lKn 30 Z h6<|z0y Zx Z Z (faB 1 Z Z Tryz.underlying73 Z (by exact z4q))<|z0y Zx Z Z (ld 1 Z Z (fP (z0x _)) z5j Z)<|z0y Zx Z Z (faB 2 Z Z Tryz.underlying73 Z (by exact z4q))<|z0y Zx Z Z (ld 2 Z Z (fP (z0x _)) z5j Z)<|ze0 [] [] Zx Z Tryz.func71 Z Z (ze1 _ _) (Y2 Z Z) rN fun r7 n8=>Zq (pkT Z Z)<|Zb Z<|z0i<|Ze [] [] Z
    ·
     refine lKn 29 Z h6<|lKn 30 Z h6<|Zk Z<|Zk Z<|Zk Z<|Zk Z<|Zk Z<|Zq (pkF Z Z)<|Zb Z<|z0i<|Ze [] [] Z
   ·
    refine lKn 22 Z h5<|lKn 23 Z h5<|Zk Z<|Zk Z<|Zk Z<|Zk Z<|Zk Z<|Zq (pkF Z Z)<|Zm Z<|Zk Z<|Zk Z<|Zk Z<|Zk Z<|Zk Z<|Zq (pkF Z Z)<|Zb Z<|z0i<|Ze [] [] Z
  ·
   refine lKn 15 Z h4<|lKn 16 Z h4<|Zk Z<|Zk Z<|Zk Z<|Zk Z<|Zk Z<|Zq (pkF Z Z)<|Zm Z<|Zk Z<|Zk Z<|Zk Z<|Zk Z<|Zk Z<|Zq (pkF Z Z)<|Zm Z<|Zk Z<|Zk Z<|Zk Z<|Zk Z<|Zk Z<|Zq (pkF Z Z)<|Zb Z<|z0i<|Ze [] [] Z
 ·
  refine lKn 9 Z h3<|Zk Z<|Zk Z<|Zk Z<|Zk Z<|Zk Z<|Zq (pkF Z Z)<|Zm Z<|Zk Z<|Zk Z<|Zk Z<|Zk Z<|Zk Z<|Zq (pkF Z Z)<|Zm Z<|Zk Z<|Zk Z<|Zk Z<|Zk Z<|Zk Z<|Zq (pkF Z Z)<|Zm Z<|Zk Z<|Zk Z<|Zk Z<|Zk Z<|Zk Z<|Zq (pkF Z Z)<|Zb Z<|z0i<|Ze [] [] Z
def ziu (a0:z00) (a2:z0b) (r5:Int × Bool) (r11:List V3) (s16:(List z0b) × Int):Option (Sum ((List z0b)) ((List z0b) × Int)) :=
 if decide (s16.2<(r11.length:Int)) then
  some (decide (s16.2<r5.1)) >>= fun y19 =>
  if y19 then
   idx a0.Ops s16.2 >>= fun x21 =>
   ze7 x21 >>= fun r23 =>
   app 112 s16.1 [r23] >>= fun x26 =>
   some (.inr (x26,w64 (s16.2+1)))
  else
   some (s16.2==r5.1) >>= fun y29 =>
   if y29 then
    ze7 a2 >>= fun r31 =>
    app 112 s16.1 [r31] >>= fun x34 =>
    some (.inr (x34,w64 (s16.2+1)))
   else
    idx a0.Ops (w64 (s16.2 - 1)) >>= fun x37 =>
    ze7 x37 >>= fun r39 =>
    app 112 s16.1 [r39] >>= fun x42 =>
    some (.inr (x42,w64 (s16.2+1)))
 else
  some (.inl s16.1)
def zi8 (a0:z00) (a1:V3) (a2:z0b):Option (z00 × Bool) :=
 zdh a0 a1 >>= fun r5 =>
 if r5.2 then
  some (a0,false)
 else
  z0w a0.IDs >>= fun r8 =>
  insF r8 r5.1 [a1] >>= fun r11 =>
  (iter (ziu a0 a2 r5 r11) ([],0)) >>= fun s15 =>
  some ((⟨r11,s15⟩:z00),true)
set_option maxHeartbeats 4000000 in
theorem zpq (a0:z00) (a1:V3) (a2:z0b):z1w Tryz.prog 68 [.rd z01 a0,.rd aZ a1,.rd z03 a2] [] (zi8 a0 a1 a2) (fun r nv=>⟨[.rd z01 r.1,.rd z0g r.2],[]⟩):=by
 refine z2e 74 Tryz.func68 Z Z Z fun H w=>?_
 refine gSR<|Eb Z (bx 1 Z) fun v1=>Eb Z (bx 2 Z) fun v2=>Eb Z (bx 3 Z) fun v3=>Eb Z (z52 4 z3m (ZrE.nilS (ZrE.nilS ZrE.nil))) fun v4=>Zb Z<|gSR<|Zq (ld 1 Z Z fH z2v Z)<|Zq (ld 2 Z Z fH z36 Z)<|Zc [] [] Tryz.func65 Z (zer _ _) fun r5 n6=>Zm Z<|Zq (ext Z Z)<|Zq (ext Z Z)<|Za Z<|Zb Z<|z0l<|gSR<|Zm Z<|Zj Z (fun h7=>?_) (fun h7=>?_)
 ·
  refine gKn 17 Z h7<|gKn 9 Z h7<|gSR<|Zq (ld 1 Z Z fH z2v Z)<|z99 aZ [.rd (z02 aZ) [],.val (.slice none 0 0)] 4 [] [.val (.slice none 0 0)] Z Z Z<|z99 z03 [.rd (z02 aZ) [],.rd (z02 z03) []] 4 [.rd (z02 aZ) []] [] Z Z Z<|zch (R:=z01) (⟨[],[]⟩:z00) 4 Z (Sp.via (Sp.prod (Sp.prod Sp.unit)))<|Es (sto 4 Z Z fH Z z3m)<|Zb Z<|z0i<|z0v<|zb6 [] [] Z (eC 4 Z Z z2v<|eE Z<|eN) (rN)
 ·
  refine gKn 17 Z h7<|gKn 9 Z h7<|Zt<|z0l<|zro [(3,.val (z05 v1 0)),(4,.val (z05 v2 0)),(5,.val (z05 v3 0)),(6,.val (z05 v4 0)),(8,.rd z0c r5.1)] [(1,some (v1,.box 25 [.rd z01 a0])),(2,some (v2,.box 62 [.rd aZ a1])),(3,some (v3,.box 73 [.rd z03 a2])),(4,some (v4,.box 25 [.val (.slice none 0 0),.val (.slice none 0 0)]))] [1,2,3,4] (Zs Z Z Z Z<|sS Z<|sN) (Zi Z<|Zi Z<|Zi Z<|Zi Z<|rN)<|z4s fun r8 h10=>z4s fun r11 h13=>gOr [] [⟨1,some ([], fun nv=>(v1,.box 25 [.rd z01 a0])),[]⟩,⟨5,none,[(2,some ([1], fun nv=>((nv 1),.list aZ 62 r8))),(6,none)]⟩,⟨2,some ([], fun nv=>(v2,.box 62 [.rd aZ a1])),[]⟩,⟨6,none,[(5,some ([2], fun nv=>((nv 2),.list aZ 62 [a1]))),(6,none)]⟩,⟨7,none,[(6,some ([3], fun nv=>((nv 3),.list aZ 62 r11)))]⟩,⟨8,none,[(8,some ([4], fun nv=>((nv 4),.box 25 [.val (.slice none 0 0),.val (.slice none 0 0)]))),(9,some ([3,4], fun nv=>((nv 4),.box 25 [.val (nv 3),.val (.slice none 0 0)])))]⟩] [pk 20 (.val (z05 v1 (0+0))) [(0,0,false)],pk 21 (.rd (z02 aZ) a0.IDs) [(0,0,false)],⟨some (22,[1], fun nv=>.val (nv 1)),[(1,0,true)],[1],[]⟩,pd 23 (.rd z0c r5.1),pk 24 (.rd aZ a1) [(2,0,false)],⟨some (25,[2], fun nv=>.val (nv 2)),[(3,0,true)],[2],[]⟩,⟨some (26,[3], fun nv=>.val (nv 3)),[(3,1,true),(1,1,true),(4,0,true)],[3],[]⟩,⟨some (27,[3], fun nv=>.agg [.val (nv 3),.val (.slice none 0 0)]),[],[],[]⟩,⟨some (10,[4], fun nv=>.val (z05 (nv 4) 0)),[(5,0,true)],[4],[]⟩,⟨none,[(5,1,true)],[],[]⟩] mixed (oC (oRn (fun nv E=>faB 1 Z Z Tryz.underlying25 Z (by exact z4q)))<|oC (oRn (fun nv E=>ld 1 Z Z (fP (z07 _)) z5j Z))<|oC (oCl [1] [] [(100,5)] h10 Tryz.func46 Z (fun nv=>(z1t _)) (fun nv=>(Y1 Z)) (fun nv E=>rN))<|oC (oRn (fun nv E=>mv Z))<|oC (oRn (fun nv E=>ld 2 Z Z fH z36 Z))<|oC (oEf 6 2 (fun nv E=>lit (R:=aZ) ([a1]:List V3) 6 (pP Z Z<|pN) Z tu22 z1g Z Z))<|oC (oCl [3] [5,6] [(100,7)] h13 Tryz.func106 Z (fun nv=>(z148 _ _ _ _ _)) (fun nv=>(aQ Z<|aQ Z<|aQ Z<|aN)) (fun nv E=>(Zi Z<|Zi Z<|rN)))<|oC (oRn (fun nv E=>zii [(0,1),(1,1)] Tryz.underlying25 z3m (ZrE.nilS (ZrE.nilS ZrE.nil)) Z (zds.cons Z Z z04 (z81.cast (z81.here z04) Z)<|zds.done Z)))<|oC (oEb 8 4 (fun nv E=>z52 8 z3m (ZrE.nilS (ZrE.nilS ZrE.nil))))<|oC (oEs 8 (fun nv E=>zit 8 Z Z (z06.cast (z06.cons z04 (z06.cons z04 z06.nil)) Z) Z (z1n.cons z0h (z1n.cons z0h z1n.nil)) (z06.cast (z06.cons z04 (z06.cons z04 z06.nil)) Z) z3m))<|oN) fun n14=>z0f<|z5q (fun (s15:(List z0b)) aa ww=>∃ nv:Nat→Value,Sta (ctx 74 H [] w) [(6,.val (z05 v4 0)),(10,.val (z05 (nv 0) 0))] [(4,some (v4,.box 25 [.val (.slice none 0 0),.val (.slice none 0 0)])),(7,some ((nv 1),.list aZ 62 r11)),(9,some ((nv 2),.list z03 73 s15)),(8,some ((nv 0),.box 25 [.val (nv 1),.val (nv 2)]))] aa ww) ?_ (fun s15=>?_)
  ·
   refine gSR<|Zq (faB 8 Z Z Tryz.underlying25 Z (by exact z4q))<|Zq (ldV 8 Z Z (At.cast At.here Z) sc22 Z)<|Zq (z2w Z (.own 7 Z) Z tu22)<|Zm Z<|Zn<|zpu z03 73 11<|z1v (fun (s16:(List z0b) × Int) aa ww=>∃ nv:Nat→Value,Sta (ctx 74 H [] w) [(3,.val (z05 v1 0)),(5,.val (z05 v3 0)),(6,.val (z05 v4 0)),(8,.rd z0c r5.1),(10,.val (z05 (nv 0) 0)),(30,.rd z0c (r11.length:Int)),(31,.rd z0c s16.2)] [(1,some (v1,.box 25 [.rd z01 a0])),(3,some (v3,.box 73 [.rd z03 a2])),(4,some (v4,.box 25 [.val (.slice none 0 0),.val (.slice none 0 0)])),(7,some ((nv 1),.list aZ 62 r11)),(10,some ((nv 2),.list z03 73 s16.1)),(8,some ((nv 0),.box 25 [.val (nv 1),.val (nv 2)]))] aa ww) (fun aa ww h=>⟨nvl [(n14 4),(n14 3),(.slice none 0 0)],Zu h [1,3,4,7,11,8]⟩) (fun s16=>?_)
   refine gEx fun n17=>gSR<|Zq (I.lss Z Z)<|Zn<|z0l<|gIf Z Z (fun h18=>?_) (fun h18=>?_)
   ·
    refine Zt<|z0l<|z49<|gSR<|Zm Z<|Zb Z<|z49<|gSR<|Zm Z<|Zm Z<|Zq (I.lss Z Z)<|Za Z<|z1i 46 Z fun y19=>Zj Z (fun h20=>?_) (fun h20=>?_)
    ·
     refine zro [(3,.val (z05 v1 0)),(5,.val (z05 v3 0)),(6,.val (z05 v4 0)),(8,.rd z0c r5.1),(10,.val (z05 (n17 0) 0)),(30,.rd z0c (r11.length:Int)),(31,.rd z0c s16.2),(11,.rd z0c s16.2)] [(1,some (v1,.box 25 [.rd z01 a0])),(3,some (v3,.box 73 [.rd z03 a2])),(4,some (v4,.box 25 [.val (.slice none 0 0),.val (.slice none 0 0)])),(7,some ((n17 1),.list aZ 62 r11)),(10,some ((n17 2),.list z03 73 s16.1)),(8,some ((n17 0),.box 25 [.val (n17 1),.val (n17 2)]))] [1,3,4,7,10,8] (Zs Z Z Z Z<|Zs Z Z Z Z<|sN) (Zi Z<|Zi Z<|Zi Z<|Zi Z<|Zi Z<|Zi Z<|rN)<|z4s fun x21 h22=>z4s fun r23 h25=>z4s fun x26 h27=>gOr [] [⟨8,some ([], fun nv=>((n17 0),.box 25 [.val (n17 1),.val (n17 2)])),[(11,some ([2], fun nv=>((n17 0),.box 25 [.val (n17 1),.val (nv 2)])))]⟩,⟨1,some ([], fun nv=>(v1,.box 25 [.rd z01 a0])),[]⟩,⟨12,none,[(8,none)]⟩,⟨10,some ([], fun nv=>((n17 2),.list z03 73 s16.1)),[(9,some ([2], fun nv=>((nv 2),.list z03 73 x26)))]⟩] [pk 50 (.val (z05 (n17 0) (0+1))) [(0,0,false)],pk 51 (.val (n17 2)) [(0,0,false)],pk 52 (.val (z05 v1 (0+1))) [(1,0,false)],pk 53 (.rd (z02 z03) a0.Ops) [(1,0,false)],pd 54 (.rd z0c s16.2),pd 55 (.rp z03 x21),pd 56 (.rd z03 x21),pd 57 (.rd z03 r23),⟨some (58,[], fun nv=>.rd (z02 z03) [r23]),[(2,0,true)],[1],[]⟩,⟨some (59,[2], fun nv=>.val (nv 2)),[(3,0,true)],[2],[]⟩,pk 60 (.val (z05 (n17 0) (0+1))) [(0,0,false)],⟨none,[(3,1,false),(0,0,true)],[],[]⟩] mixed (oC (oRn (fun nv E=>faB 8 Z Z Tryz.underlying25 Z (by exact z9l)))<|oC (oRn (fun nv E=>ldV 8 Z Z (At.cast (At.next z04 At.here) Z) sc23 Z))<|oC (oRn (fun nv E=>faB 1 Z Z Tryz.underlying25 Z (by exact z9l)))<|oC (oRn (fun nv E=>ld 1 Z Z (fP (z08 _)) zcx Z))<|oC (oRn (fun nv E=>mv Z))<|oC (oRn (fun nv E=>ixR Z Z h22 tu23 za5 Z))<|oC (oRn (fun nv E=>ldR Z zcs))<|oC (oCl [] [] [] h25 Tryz.func67 Z (fun nv=>(zeg _)) (fun nv=>(Y1 Z)) (fun nv E=>rN))<|oC (oFz (A1:=fun nv=>[(12,some ((nv 1),.list z03 73 [r23]))]) 12 1 (oEf 12 1 (fun nv E=>lit (R:=z03) ([r23]:List z0b) 12 (pP Z Z<|pN) Z tu23 za5 Z Z)))<|oC (oEf 10 2 (fun nv E=>apn 10 Z Z Z .rd h27 tu23 za5 Z Z Z))<|oC (oRn (fun nv E=>faB 8 Z Z Tryz.underlying25 Z (by exact z9l)))<|oC (oEs 8 (fun nv E=>znn 8 Z Z (z81.cast (z81.next z04 (z81.here z04)) Z) Z z0h z04 z9l))<|oN) fun n28=>z2q<|z2q<|z0f<|z1y<|Zq (I.add Z Z)<|Zm Z<|z1q<|z19 (fun aa ww h=>⟨nvl [(n17 0),(n17 1),(n28 2)],Zu h [1,3,4,7,10,8]⟩)
    ·
     refine gSR<|Zm Z<|Zm Z<|Zq (I.eql Z Z)<|Za Z<|z1i 61 Z fun y29=>Zj Z (fun h30=>?_) (fun h30=>?_)
     ·
      refine zro [(3,.val (z05 v1 0)),(5,.val (z05 v3 0)),(6,.val (z05 v4 0)),(8,.rd z0c r5.1),(10,.val (z05 (n17 0) 0)),(30,.rd z0c (r11.length:Int)),(31,.rd z0c s16.2)] [(1,some (v1,.box 25 [.rd z01 a0])),(3,some (v3,.box 73 [.rd z03 a2])),(4,some (v4,.box 25 [.val (.slice none 0 0),.val (.slice none 0 0)])),(7,some ((n17 1),.list aZ 62 r11)),(10,some ((n17 2),.list z03 73 s16.1)),(8,some ((n17 0),.box 25 [.val (n17 1),.val (n17 2)]))] [1,3,4,7,10,8] (Zs Z Z Z Z<|sS Z<|sS Z<|sS Z<|sN) (Zi Z<|Zi Z<|Zi Z<|Zi Z<|Zi Z<|Zi Z<|rN)<|z4s fun r31 h33=>z4s fun x34 h35=>gOr [] [⟨8,some ([], fun nv=>((n17 0),.box 25 [.val (n17 1),.val (n17 2)])),[(7,some ([2], fun nv=>((n17 0),.box 25 [.val (n17 1),.val (nv 2)])))]⟩,⟨3,some ([], fun nv=>(v3,.box 73 [.rd z03 a2])),[]⟩,⟨13,none,[(4,none)]⟩,⟨10,some ([], fun nv=>((n17 2),.list z03 73 s16.1)),[(5,some ([2], fun nv=>((nv 2),.list z03 73 x34)))]⟩] [pk 65 (.val (z05 (n17 0) (0+1))) [(0,0,false)],pk 66 (.val (n17 2)) [(0,0,false)],pk 67 (.rd z03 a2) [(1,0,false)],pd 68 (.rd z03 r31),⟨some (69,[], fun nv=>.rd (z02 z03) [r31]),[(2,0,true)],[1],[]⟩,⟨some (70,[2], fun nv=>.val (nv 2)),[(3,0,true)],[2],[]⟩,pk 71 (.val (z05 (n17 0) (0+1))) [(0,0,false)],⟨none,[(3,1,false),(0,0,true)],[],[]⟩] mixed (oC (oRn (fun nv E=>faB 8 Z Z Tryz.underlying25 Z (by exact z9l)))<|oC (oRn (fun nv E=>ldV 8 Z Z (At.cast (At.next z04 At.here) Z) sc23 Z))<|oC (oRn (fun nv E=>ld 3 Z Z fH zcs Z))<|oC (oCl [] [] [] h33 Tryz.func67 Z (fun nv=>(zeg _)) (fun nv=>(Y1 Z)) (fun nv E=>rN))<|oC (oFz (A1:=fun nv=>[(13,some ((nv 1),.list z03 73 [r31]))]) 13 1 (oEf 13 1 (fun nv E=>lit (R:=z03) ([r31]:List z0b) 13 (pP Z Z<|pN) Z tu23 za5 Z Z)))<|oC (oEf 10 2 (fun nv E=>apn 10 Z Z Z .rd h35 tu23 za5 Z Z Z))<|oC (oRn (fun nv E=>faB 8 Z Z Tryz.underlying25 Z (by exact z9l)))<|oC (oEs 8 (fun nv E=>znn 8 Z Z (z81.cast (z81.next z04 (z81.here z04)) Z) Z z0h z04 z9l))<|oN) fun n36=>z2q<|z2q<|z0f<|z1y<|Zq (I.add Z Z)<|Zm Z<|z1q<|z19 (fun aa ww h=>⟨nvl [(n17 0),(n17 1),(n36 2)],Zu h [1,3,4,7,10,8]⟩)
     ·
      refine zro [(3,.val (z05 v1 0)),(5,.val (z05 v3 0)),(6,.val (z05 v4 0)),(8,.rd z0c r5.1),(10,.val (z05 (n17 0) 0)),(30,.rd z0c (r11.length:Int)),(31,.rd z0c s16.2),(11,.rd z0c s16.2)] [(1,some (v1,.box 25 [.rd z01 a0])),(3,some (v3,.box 73 [.rd z03 a2])),(4,some (v4,.box 25 [.val (.slice none 0 0),.val (.slice none 0 0)])),(7,some ((n17 1),.list aZ 62 r11)),(10,some ((n17 2),.list z03 73 s16.1)),(8,some ((n17 0),.box 25 [.val (n17 1),.val (n17 2)]))] [1,3,4,7,10,8] (Zs Z Z Z Z<|Zs Z Z Z Z<|sN) (Zi Z<|Zi Z<|Zi Z<|Zi Z<|Zi Z<|Zi Z<|rN)<|z4s fun x37 h38=>z4s fun r39 h41=>z4s fun x42 h43=>gOr [] [⟨8,some ([], fun nv=>((n17 0),.box 25 [.val (n17 1),.val (n17 2)])),[(12,some ([2], fun nv=>((n17 0),.box 25 [.val (n17 1),.val (nv 2)])))]⟩,⟨1,some ([], fun nv=>(v1,.box 25 [.rd z01 a0])),[]⟩,⟨14,none,[(9,none)]⟩,⟨10,some ([], fun nv=>((n17 2),.list z03 73 s16.1)),[(10,some ([2], fun nv=>((nv 2),.list z03 73 x42)))]⟩] [pk 34 (.val (z05 (n17 0) (0+1))) [(0,0,false)],pk 35 (.val (n17 2)) [(0,0,false)],pk 36 (.val (z05 v1 (0+1))) [(1,0,false)],pk 37 (.rd (z02 z03) a0.Ops) [(1,0,false)],pd 38 (.rd z0c s16.2),pd 39 (.rd z0c (w64 (s16.2 - 1))),pd 40 (.rp z03 x37),pd 41 (.rd z03 x37),pd 42 (.rd z03 r39),⟨some (43,[], fun nv=>.rd (z02 z03) [r39]),[(2,0,true)],[1],[]⟩,⟨some (44,[2], fun nv=>.val (nv 2)),[(3,0,true)],[2],[]⟩,pk 45 (.val (z05 (n17 0) (0+1))) [(0,0,false)],⟨none,[(3,1,false),(0,0,true)],[],[]⟩] mixed (oC (oRn (fun nv E=>faB 8 Z Z Tryz.underlying25 Z (by exact z9l)))<|oC (oRn (fun nv E=>ldV 8 Z Z (At.cast (At.next z04 At.here) Z) sc23 Z))<|oC (oRn (fun nv E=>faB 1 Z Z Tryz.underlying25 Z (by exact z9l)))<|oC (oRn (fun nv E=>ld 1 Z Z (fP (z08 _)) zcx Z))<|oC (oRn (fun nv E=>mv Z))<|oC (oRn (fun nv E=>I.sub Z Z))<|oC (oRn (fun nv E=>ixR Z Z h38 tu23 za5 Z))<|oC (oRn (fun nv E=>ldR Z zcs))<|oC (oCl [] [] [] h41 Tryz.func67 Z (fun nv=>(zeg _)) (fun nv=>(Y1 Z)) (fun nv E=>rN))<|oC (oFz (A1:=fun nv=>[(14,some ((nv 1),.list z03 73 [r39]))]) 14 1 (oEf 14 1 (fun nv E=>lit (R:=z03) ([r39]:List z0b) 14 (pP Z Z<|pN) Z tu23 za5 Z Z)))<|oC (oEf 10 2 (fun nv E=>apn 10 Z Z Z .rd h43 tu23 za5 Z Z Z))<|oC (oRn (fun nv E=>faB 8 Z Z Tryz.underlying25 Z (by exact z9l)))<|oC (oEs 8 (fun nv E=>znn 8 Z Z (z81.cast (z81.next z04 (z81.here z04)) Z) Z z0h z04 z9l))<|oN) fun n44=>z2q<|z2q<|z0f<|z1y<|Zq (I.add Z Z)<|Zm Z<|z1q<|z19 (fun aa ww h=>⟨nvl [(n17 0),(n17 1),(n44 2)],Zu h [1,3,4,7,10,8]⟩)
   ·
    refine z1k<|z0o<|z0r<|z3b (fun aa ww h=>⟨nvl [(n17 0),(n17 1),(n17 2)],Zu h [4,7,10,8]⟩)
  ·
   refine gEx fun n45=>gSR<|ztl [.rd (z02 aZ) r11,.val (n45 2)] 8 7 [] [.val (n45 2)] Z Z Z Z Z<|ztl [.rd (z02 aZ) r11,.rd (z02 z03) s15] 8 9 [.rd (z02 aZ) r11] [] Z Z Z Z Z<|zch (R:=z01) (⟨r11,s15⟩:z00) 8 Z (Sp.via (Sp.prod (Sp.prod Sp.unit)))<|Zq (ld 8 Z Z fH z2v Z)<|z99 aZ [.rd (z02 aZ) [],.val (.slice none 0 0)] 4 [] [.val (.slice none 0 0)] Z Z Z<|z99 z03 [.rd (z02 aZ) [],.rd (z02 z03) []] 4 [.rd (z02 aZ) []] [] Z Z Z<|zch (R:=z01) (⟨[],[]⟩:z00) 4 Z (Sp.via (Sp.prod (Sp.prod Sp.unit)))<|Es (sto 4 Z Z fH Z z3m)<|Zb Z<|z0i<|zb6 [] [] Z (eC 4 Z Z z2v<|eE Z<|eN) (rN)
def z7j (a0:z00) (a1:z00) (s9:Int):Option (Sum (Sum (z00 × Int) Unit) Int) :=
 if decide (s9<(a1.IDs.length:Int)) then
  idx a1.IDs s9 >>= fun x11 =>
  zdh a0 x11 >>= fun r14 =>
  (if r14.2 then
   idx a0.Ops r14.1 >>= fun x18 =>
   idx a1.Ops s9 >>= fun x20 =>
   znd x18 x20 >>= fun r22 =>
   some (!r22)
  else
   some false) >>= fun s16 =>
  if s16 then
   some (.inl (.inl ((⟨[],[]⟩:z00),14)))
  else
   some (.inr (w64 (s9+1)))
 else
  some (.inl (.inr ()))
def zdp (a0:z00) (s29:(List z0b) × Int):Option (Sum ((List z0b)) ((List z0b) × Int)) :=
 if decide (s29.2<(a0.Ops.length:Int)) then
  idx a0.Ops s29.2 >>= fun x32 =>
  ze7 x32 >>= fun r35 =>
  app 112 s29.1 [r35] >>= fun x38 =>
  some (.inr (x38,w64 (s29.2+1)))
 else
  some (.inl s29.1)
def zdj (a1:z00) (s43:(List V3) × (List z0b) × Int):Option (Sum ((List V3) × (List z0b)) ((List V3) × (List z0b) × Int)) :=
 if decide (s43.2.2<(a1.IDs.length:Int)) then
  idx a1.IDs s43.2.2 >>= fun x45 =>
  idx a1.Ops s43.2.2 >>= fun x48 =>
  zi8 (⟨s43.1,s43.2.1⟩:z00) x45 x48 >>= fun r50 =>
  some (.inr (r50.1.IDs,r50.1.Ops,w64 (s43.2.2+1)))
 else
  some (.inl (s43.1,s43.2.1))
def zbh (a0:z00) (a1:z00):Option (z00 × Int) :=
 zin [a0,a1] >>= fun r5 =>
 if r5 != 0 then
  some ((⟨[],[]⟩:z00),r5)
 else
  z61 (iter (z7j a0 a1) 0) fun s8 =>
  z0w a0.IDs >>= fun r25 =>
  (iter (zdp a0) ([],0)) >>= fun s28 =>
  (iter (zdj a1) (r25,s28,0)) >>= fun s42 =>
  if decide (60<(s42.2.length:Int)) then
   some ((⟨[],[]⟩:z00),4)
  else
   some ((⟨s42.1,s42.2⟩:z00),0)
set_option maxHeartbeats 4000000 in
theorem zht (a0:z00) (a1:z00):z1w Tryz.prog 37 [.rd z01 a0,.rd z01 a1] [zG1] (zbh a0 a1) (fun r nv=>⟨[.rd z01 r.1,.rd z0c r.2],[(1001,some (.bool true,.glob 1 (z3r 64 z10) z8a))]⟩):=by
 refine z2e 100 Tryz.func37 Z Z Z fun H w=>?_
 refine gSR<|Eb Z (bx 1 Z) fun v1=>Eb Z (bx 2 Z) fun v2=>Eb Z (z52 3 z3m (ZrE.nilS (ZrE.nilS ZrE.nil))) fun v3=>Zb Z<|z0l<|gSR<|Zq (ld 1 Z Z fH z2v Z)<|Zq (ld 2 Z Z fH z2v Z)<|Ef Z (lit (R:=z01) ([a0,a1]:List z00) 4 (pP Z Z<|pP Z Z<|pN) Z Tryz.underlying139 z3m Z Z) fun v4=>zjd 4 [18] Z (fS Z<|fN)<|Zc [1001] [] Tryz.func64 Z (zqg _) fun r5 n6=>Zb Z<|gSR<|Zm Z<|Zq (I.neq Z Z)<|Zj Z (fun h7=>?_) (fun h7=>?_)
 ·
  refine gSR<|Zq (zii [(0,1),(1,1)] Tryz.underlying25 z3m (ZrE.nilS (ZrE.nilS ZrE.nil)) Z (zds.done Z))<|Zm Z<|Es (zit 3 Z Z (z06.cast (z06.cons z04 (z06.cons z04 z06.nil)) Z) Z (z1n.cons z0h (z1n.cons z0h z1n.nil)) (z06.cast (z06.cons z04 (z06.cons z04 z06.nil)) Z) z3m)<|Zb Z<|z0i<|z0v<|zdz aZ [.rd (z02 aZ) [],.val (.slice none 0 0)] 3 [] [.val (.slice none 0 0)] Z Z Z<|zdz z03 [.rd (z02 aZ) [],.rd (z02 z03) []] 3 [.rd (z02 aZ) []] [] Z Z Z<|zly (R:=z01) (⟨[],[]⟩:z00) 3 Z (Sp.via (Sp.prod (Sp.prod Sp.unit)))<|zb6 [] [1001] Z (eC 3 Z Z z2v<|eE Z<|eN) (y1 Z)
 ·
  refine Zt<|z83 (fun (s8:Unit) aa ww=>Sta (ctx 100 H [zG1] w) [(2,.val (z05 v1 0)),(3,.val (z05 v2 0)),(4,.val (z05 v3 0))] [(1,some (v1,.box 25 [.rd z01 a0])),(2,some (v2,.box 25 [.rd z01 a1])),(3,some (v3,.box 25 [.val (.slice none 0 0),.val (.slice none 0 0)])),zG1] aa ww) ?_ (fun s8=>?_)
  ·
   refine gSR<|Zq (faB 2 Z Z Tryz.underlying25 Z (by exact z4q))<|Zq (ld 2 Z Z (fP (z07 _)) z5j Z)<|Zq (z2w Z .rd Z tu22)<|Zm Z<|Zn<|z1v (fun (s9:Int) aa ww=>Sta (ctx 100 H [zG1] w) [(2,.val (z05 v1 0)),(3,.val (z05 v2 0)),(4,.val (z05 v3 0)),(25,.rd (z02 aZ) a1.IDs),(26,.rd z0c (a1.IDs.length:Int)),(27,.rd z0c s9)] [(1,some (v1,.box 25 [.rd z01 a0])),(2,some (v2,.box 25 [.rd z01 a1])),(3,some (v3,.box 25 [.val (.slice none 0 0),.val (.slice none 0 0)])),zG1] aa ww) (fun aa ww h=>Zu h [1,2,3,1001]) (fun s9=>?_)
   refine gSR<|Zq (I.lss Z Z)<|Zn<|z0l<|gIf Z Z (fun h10=>?_) (fun h10=>?_)
   ·
    refine Zt<|z0l<|z49<|gSR<|Zm Z<|z0j fun x11 h12=>Zq (ixR Z Z h12 tu22 z1g Z)<|Zq (ldR Z z36)<|Eb Z (z52 1100 z1g (.zr (R:=aZ) (x:=(Vector.replicate 32 0)) zf5)) fun v13=>Za Z<|Es (sto 1100 Z Z fH Z z1g)<|Zn<|gSR<|Zq (ld 1 Z Z fH z2v Z)<|Zq (ld 1100 Z Z fH z36 Z)<|Zc [] [] Tryz.func65 Z (zer _ _) fun r14 n15=>Zm Z<|Zq (ext Z Z)<|Zq (ext Z Z)<|Za Z<|Zb Z<|z5q (fun (s16:Bool) aa ww=>Sta (ctx 100 H [zG1] w) [(2,.val (z05 v1 0)),(3,.val (z05 v2 0)),(4,.val (z05 v3 0)),(25,.rd (z02 aZ) a1.IDs),(26,.rd z0c (a1.IDs.length:Int)),(27,.rd z0c s9),(52,.rd z0g s16)] [(1,some (v1,.box 25 [.rd z01 a0])),(2,some (v2,.box 25 [.rd z01 a1])),(3,some (v3,.box 25 [.val (.slice none 0 0),.val (.slice none 0 0)])),zG1] aa ww) ?_ (fun s16=>?_)
    ·
     refine z57 [] mixed Z Z<|hTk 0 Z Z (mv Z)<|hTk 1 Z Z (mv Z)<|hIf 39 Z Z (fun h17=>?_) (fun h17=>?_)
     ·
      refine hKn 37 Z Z h17<|hKn 10 Z Z h17<|hKn 38 Z Z h17<|Zg 2 Z Z (faB 1 Z Z Tryz.underlying25 Z (by exact z9l))<|Zg 3 Z Z (ld 1 Z Z (fP (z08 _)) zcx Z)<|Zg 4 Z Z (mv Z)<|z3j fun x18 h19=>Zg 5 Z Z (ixR Z Z h19 tu23 za5 Z)<|Zg 6 Z Z (ldR Z zcs)<|Zg 7 Z Z (faB 2 Z Z Tryz.underlying25 Z (by exact z9l))<|Zg 8 Z Z (ld 2 Z Z (fP (z08 _)) zcx Z)<|Zg 9 Z Z (mv Z)<|z3j fun x20 h21=>Zg 10 Z Z (ixR Z Z h21 tu23 za5 Z)<|Zg 11 Z Z (ldR Z zcs)<|z3h 12 [] [] Z (by kernel_rfl) Z Zx Z Tryz.func66 Z Z (ztq _ _) (Y2 Z Z) rN Z (fun _ _=>z9f) fun r22 n23=>Zg 13 Z Z (zdi Z)<|hTk 14 Z Z (pkT Z Z)<|z3q (by kernel_rfl)<|z3b (fun aa ww h=>Zu h [1,2,3,1001])
     ·
      refine hKn 37 Z Z h17<|hKn 10 Z Z h17<|hKn 38 Z Z h17<|hSk 2 Z Z<|hSk 3 Z Z<|hSk 4 Z Z<|hSk 5 Z Z<|hSk 6 Z Z<|hSk 7 Z Z<|hSk 8 Z Z<|hSk 9 Z Z<|hSk 10 Z Z<|hSk 11 Z Z<|hSk 12 Z Z<|hSk 13 Z Z<|hTk 14 Z Z (pkF Z Z)<|z3q (by kernel_rfl)<|z3b (fun aa ww h=>Zu h [1,2,3,1001])
    ·
     refine gIf Z Z (fun h24=>?_) (fun h24=>?_)
     ·
      refine gSR<|Zq (zii [(0,1),(1,1)] Tryz.underlying25 z3m (ZrE.nilS (ZrE.nilS ZrE.nil)) Z (zds.done Z))<|Es (zit 3 Z Z (z06.cast (z06.cons z04 (z06.cons z04 z06.nil)) Z) Z (z1n.cons z0h (z1n.cons z0h z1n.nil)) (z06.cast (z06.cons z04 (z06.cons z04 z06.nil)) Z) z3m)<|Zb Z<|z0i<|z47<|z0v<|z7z<|z5h<|zdz aZ [.rd (z02 aZ) [],.val (.slice none 0 0)] 3 [] [.val (.slice none 0 0)] Z Z Z<|zdz z03 [.rd (z02 aZ) [],.rd (z02 z03) []] 3 [.rd (z02 aZ) []] [] Z Z Z<|zly (R:=z01) (⟨[],[]⟩:z00) 3 Z (Sp.via (Sp.prod (Sp.prod Sp.unit)))<|zb6 [] [1001] Z (eC 3 Z Z z2v<|eE Z<|eN) (y1 Z)
     ·
      refine z29<|z2q<|z0f<|z1y<|Zq (I.add Z Z)<|Zm Z<|z1q<|z19 (fun aa ww h=>Zu h [1,2,3,1001])
   ·
    refine z1k<|z0o<|z0r<|z4y (fun aa ww h=>Zu h [1,2,3,1001])
  ·
   refine gSR<|Zq (faB 1 Z Z Tryz.underlying25 Z (by exact z4q))<|Zq (ld 1 Z Z (fP (z07 _)) z5j Z)<|Zc [] [(100,1149)] Tryz.func46 Z (z1t _) fun r25 n26=>Zq (zii [(0,1),(1,1)] Tryz.underlying25 z3m (ZrE.nilS (ZrE.nilS ZrE.nil)) Z (zds.cons Z Z z04 (z81.cast (z81.here z04) Z)<|zds.done Z))<|Eb Z (z52 1150 z3m (ZrE.nilS (ZrE.nilS ZrE.nil))) fun v27=>Es (zit 1150 Z Z (z06.cast (z06.cons z04 (z06.cons z04 z06.nil)) Z) Z (z1n.cons z0h (z1n.cons z0h z1n.nil)) (z06.cast (z06.cons z04 (z06.cons z04 z06.nil)) Z) z3m)<|Zn<|z5q (fun (s28:(List z0b)) aa ww=>∃ nv:Nat→Value,Sta (ctx 100 H [zG1] w) [(3,.val (z05 v2 0)),(4,.val (z05 v3 0)),(11,.val (z05 v27 0))] [(2,some (v2,.box 25 [.rd z01 a1])),(3,some (v3,.box 25 [.val (.slice none 0 0),.val (.slice none 0 0)])),(1149,some ((n26 0),.list aZ 62 r25)),(1152,some ((nv 0),.list z03 73 s28)),(1150,some (v27,.box 25 [.val (n26 0),.val (nv 0)])),zG1] aa ww) ?_ (fun s28=>?_)
   ·
    refine gSR<|Zq (faB 1 Z Z Tryz.underlying25 Z (by exact z9l))<|Zq (ld 1 Z Z (fP (z08 _)) zcx Z)<|Zq (z2w Z .rd Z tu23)<|Zm Z<|Zn<|zpu z03 73 1155<|z1v (fun (s29:(List z0b) × Int) aa ww=>∃ nv:Nat→Value,Sta (ctx 100 H [zG1] w) [(3,.val (z05 v2 0)),(4,.val (z05 v3 0)),(11,.val (z05 v27 0)),(60,.rd (z02 z03) a0.Ops),(61,.rd z0c (a0.Ops.length:Int)),(62,.rd z0c s29.2)] [(2,some (v2,.box 25 [.rd z01 a1])),(3,some (v3,.box 25 [.val (.slice none 0 0),.val (.slice none 0 0)])),(1149,some ((n26 0),.list aZ 62 r25)),(1154,some ((nv 0),.list z03 73 s29.1)),(1150,some (v27,.box 25 [.val (n26 0),.val (nv 0)])),zG1] aa ww) (fun aa ww h=>⟨nvl [(.slice none 0 0)],Zu h [2,3,1149,1155,1150,1001]⟩) (fun s29=>?_)
    refine gEx fun n30=>gSR<|Zq (I.lss Z Z)<|Zn<|z0l<|gIf Z Z (fun h31=>?_) (fun h31=>?_)
    ·
     refine Zt<|z0l<|z49<|gSR<|z0j fun x32 h33=>Zq (ixR Z Z h33 tu23 za5 Z)<|Zq (ldR Z zcs)<|Eb Z (z52 1156 za5 (ZrE.rd (R:=z10) (x:=0) (Zr.num Z) (ZrE.nilS (ZrE.rd (R:=z2k) (x:=0) (Zr.num Z) (ZrE.rd (R:=z0z) (x:=(⟨0,[],(⟨0,0,0,[]⟩:z09)⟩:z18)) zx7 (ZrE.rd (R:=z13) (x:=(⟨0,0⟩:z0q)) zx6 ZrE.nil Z) Z) Z)) Z)) fun v34=>z99 aZ [.rd z10 0,.rd (z02 aZ) [],.rd z2k 0,.rd z0z (⟨0,[],(⟨0,0,0,[]⟩:z09)⟩:z18),.rd z13 (⟨0,0⟩:z0q)] 1156 [.rd z10 0] [.rd z2k 0,.rd z0z (⟨0,[],(⟨0,0,0,[]⟩:z09)⟩:z18),.rd z13 (⟨0,0⟩:z0q)] Z Z Z<|zch (R:=z03) (⟨0,[],0,(⟨0,[],(⟨0,0,0,[]⟩:z09)⟩:z18),(⟨0,0⟩:z0q)⟩:z0b) 1156 Z (Sp.via (Sp.prod (Sp.prod (Sp.prod (Sp.prod (Sp.prod Sp.unit))))))<|Es (sto 1156 Z Z fH Z za5)<|Zn<|zro [(3,.val (z05 v2 0)),(4,.val (z05 v3 0)),(11,.val (z05 v27 0)),(60,.rd (z02 z03) a0.Ops),(61,.rd z0c (a0.Ops.length:Int)),(62,.rd z0c s29.2),(13,.val (z05 v34 0))] [(2,some (v2,.box 25 [.rd z01 a1])),(3,some (v3,.box 25 [.val (.slice none 0 0),.val (.slice none 0 0)])),(1149,some ((n26 0),.list aZ 62 r25)),(1154,some ((n30 0),.list z03 73 s29.1)),(1150,some (v27,.box 25 [.val (n26 0),.val (n30 0)])),zG1,(1156,some (v34,.box 73 [.rd z03 x32]))] [2,3,1149,1154,1150,1001,1156] (Zs Z Z Z Z<|sS Z<|sS Z<|sS Z<|sN) (Zi Z<|Zi Z<|Zi Z<|Zi Z<|Zi Z<|Zi Z<|Zi Z<|rN)<|z4s fun r35 h37=>z4s fun x38 h39=>gOr [] [⟨1150,some ([], fun nv=>(v27,.box 25 [.val (n26 0),.val (n30 0)])),[(7,some ([2], fun nv=>(v27,.box 25 [.val (n26 0),.val (nv 2)])))]⟩,⟨1156,some ([], fun nv=>(v34,.box 73 [.rd z03 x32])),[]⟩,⟨1157,none,[(4,none)]⟩,⟨1154,some ([], fun nv=>((n30 0),.list z03 73 s29.1)),[(5,some ([2], fun nv=>((nv 2),.list z03 73 x38)))]⟩] [pk 66 (.val (z05 v27 (0+1))) [(0,0,false)],pk 67 (.val (n30 0)) [(0,0,false)],pk 68 (.rd z03 x32) [(1,0,false)],pd 69 (.rd z03 r35),⟨some (70,[], fun nv=>.rd (z02 z03) [r35]),[(2,0,true)],[1],[]⟩,⟨some (71,[2], fun nv=>.val (nv 2)),[(3,0,true)],[2],[]⟩,pk 72 (.val (z05 v27 (0+1))) [(0,0,false)],⟨none,[(0,0,true),(3,1,false)],[],[]⟩] mixed (oC (oRn (fun nv E=>faB 1150 Z Z Tryz.underlying25 Z (by exact z9l)))<|oC (oRn (fun nv E=>ldV 1150 Z Z (At.cast (At.next z04 At.here) Z) sc23 Z))<|oC (oRn (fun nv E=>ld 1156 Z Z fH zcs Z))<|oC (oCl [] [] [] h37 Tryz.func67 Z (fun nv=>(zeg _)) (fun nv=>(Y1 Z)) (fun nv E=>rN))<|oC (oFz (A1:=fun nv=>[(1157,some ((nv 1),.list z03 73 [r35]))]) 1157 1 (oEf 1157 1 (fun nv E=>lit (R:=z03) ([r35]:List z0b) 1157 (pP Z Z<|pN) Z tu23 za5 Z Z)))<|oC (oEf 1154 2 (fun nv E=>apn 1154 Z Z Z .rd h39 tu23 za5 Z Z Z))<|oC (oRn (fun nv E=>faB 1150 Z Z Tryz.underlying25 Z (by exact z9l)))<|oC (oEs 1150 (fun nv E=>znn 1150 Z Z (z81.cast (z81.next z04 (z81.here z04)) Z) Z z0h z04 z9l))<|oN) fun n40=>z2q<|z0f<|z1y<|Zq (I.add Z Z)<|Zm Z<|z1q<|z19 (fun aa ww h=>⟨nvl [(n40 2)],Zu h [2,3,1149,1154,1150,1001]⟩)
    ·
     refine z1k<|z0o<|z0r<|z3b (fun aa ww h=>⟨nvl [(n30 0)],Zu h [2,3,1149,1154,1150,1001]⟩)
   ·
    refine gEx fun n41=>z5q (fun (s42:(List V3) × (List z0b)) aa ww=>Sta (ctx 100 H [zG1] w) [(4,.val (z05 v3 0)),(11,.val (z05 v27 0))] [(3,some (v3,.box 25 [.val (.slice none 0 0),.val (.slice none 0 0)])),(1150,some (v27,.box 25 [.rd (z02 aZ) s42.1,.rd (z02 z03) s42.2])),zG1] aa ww) ?_ (fun s42=>?_)
    ·
     refine gSR<|Zq (faB 2 Z Z Tryz.underlying25 Z (by exact z4q))<|Zq (ld 2 Z Z (fP (z07 _)) z5j Z)<|Zq (z2w Z .rd Z tu22)<|Zm Z<|Zn<|gPow [.rd (z02 aZ) r25,.val (n41 0)] 1150 1149 [] [.val (n41 0)] Z Z Z Z Z<|gPow [.rd (z02 aZ) r25,.rd (z02 z03) s28] 1150 1152 [.rd (z02 aZ) r25] [] Z Z Z Z Z<|z1v (fun (s43:(List V3) × (List z0b) × Int) aa ww=>Sta (ctx 100 H [zG1] w) [(3,.val (z05 v2 0)),(4,.val (z05 v3 0)),(11,.val (z05 v27 0)),(75,.rd (z02 aZ) a1.IDs),(76,.rd z0c (a1.IDs.length:Int)),(77,.rd z0c s43.2.2)] [(2,some (v2,.box 25 [.rd z01 a1])),(3,some (v3,.box 25 [.val (.slice none 0 0),.val (.slice none 0 0)])),(1150,some (v27,.box 25 [.rd (z02 aZ) s43.1,.rd (z02 z03) s43.2.1])),zG1] aa ww) (fun aa ww h=>Zu h [2,3,1150,1001]) (fun s43=>?_)
     refine gSR<|Zq (I.lss Z Z)<|Zn<|z0l<|gIf Z Z (fun h44=>?_) (fun h44=>?_)
     ·
      refine Zt<|z0l<|z49<|gSR<|Zm Z<|z0j fun x45 h46=>Zq (ixR Z Z h46 tu22 z1g Z)<|Zq (ldR Z z36)<|Eb Z (z52 1158 z1g (.zr (R:=aZ) (x:=(Vector.replicate 32 0)) zf5)) fun v47=>Za Z<|Es (sto 1158 Z Z fH Z z1g)<|Zn<|gJoi (R:=z01) (⟨s43.1,s43.2.1⟩:z00) 1150 Z (Sp.via (Sp.prod (Sp.prod Sp.unit)))<|z57 [1150] mixed Z Z<|hTk 1 Z Z (ld 1158 Z Z fH z36 Z)<|hTk 2 Z Z (faB 2 Z Z Tryz.underlying25 Z (by exact z9l))<|hTk 3 Z Z (ld 2 Z Z (fP (z08 _)) zcx Z)<|hTk 4 Z Z (mv Z)<|z3j fun x48 h49=>hTk 5 Z Z (ixR Z Z h49 tu23 za5 Z)<|hTk 6 Z Z (ldR Z zcs)<|hRun 0 Z (by kernel_rfl) (gd0 Z) Z Z anyJ (ld 1150 Z Z fH z2v Z)<|zhn 7 [] [] Z (by kernel_rfl) Z (gd0 Z) Z Tryz.func68 Z Z (zpq _ _ _) (aQ Z<|aQ Z<|aQ Z<|aN) rN Z fun r50 n51=>zdl 8 Z (by kernel_rfl) (by kernel_rfl) (by kernel_rfl) (gd0 Z) Z Z (mv Z)<|zdl 9 Z (by kernel_rfl) (by kernel_rfl) (by kernel_rfl) (gd0 Z) Z Z (ext Z Z)<|Zf 10 Z Z z9f (ext Z Z)<|Zp 11 Z Z Z Z Z (sto 1150 Z Z fH Z z3m)<|z3q (by kernel_rfl)<|z2q<|z0f<|z1y<|Zq (I.add Z Z)<|Zm Z<|z1q<|eSpl (R:=z01) 1150 Z (Sp.via (Sp.prod (Sp.prod Sp.unit)))<|z19 (fun aa ww h=>Zu h [2,3,1150,1001])
     ·
      refine z1k<|z0o<|z0r<|z3b (fun aa ww h=>Zu h [3,1150,1001])
    ·
     refine z0l<|gSR<|Zq (faB 1150 Z Z Tryz.underlying25 Z (by exact z9l))<|Zq (ld 1150 Z Z (Foc.cast (Foc.next z0u fH) Z) zcx Z)<|Zq (z2w Z .rd Z tu23)<|Zq (I.gtr Z Z)<|Zj Z (fun h52=>?_) (fun h52=>?_)
     ·
      refine gSR<|Zq (zii [(0,1),(1,1)] Tryz.underlying25 z3m (ZrE.nilS (ZrE.nilS ZrE.nil)) Z (zds.done Z))<|Es (zit 3 Z Z (z06.cast (z06.cons z04 (z06.cons z04 z06.nil)) Z) Z (z1n.cons z0h (z1n.cons z0h z1n.nil)) (z06.cast (z06.cons z04 (z06.cons z04 z06.nil)) Z) z3m)<|Zb Z<|z0i<|z0v<|zdz aZ [.rd (z02 aZ) [],.val (.slice none 0 0)] 3 [] [.val (.slice none 0 0)] Z Z Z<|zdz z03 [.rd (z02 aZ) [],.rd (z02 z03) []] 3 [.rd (z02 aZ) []] [] Z Z Z<|zly (R:=z01) (⟨[],[]⟩:z00) 3 Z (Sp.via (Sp.prod (Sp.prod Sp.unit)))<|zb6 [] [1001] Z (eC 3 Z Z z2v<|eE Z<|eN) (y1 Z)
     ·
      refine Zt<|gSR<|zch (R:=z01) (⟨s42.1,s42.2⟩:z00) 1150 Z (Sp.via (Sp.prod (Sp.prod Sp.unit)))<|Zq (ld 1150 Z Z fH z2v Z)<|z99 aZ [.rd (z02 aZ) [],.val (.slice none 0 0)] 3 [] [.val (.slice none 0 0)] Z Z Z<|z99 z03 [.rd (z02 aZ) [],.rd (z02 z03) []] 3 [.rd (z02 aZ) []] [] Z Z Z<|zch (R:=z01) (⟨[],[]⟩:z00) 3 Z (Sp.via (Sp.prod (Sp.prod Sp.unit)))<|Es (sto 3 Z Z fH Z z3m)<|Zb Z<|z0i<|zb6 [] [1001] Z (eC 3 Z Z z2v<|eE Z<|eN) (y1 Z)
def zkj (a0:V3) (c1_0:z00):Option (Bool) :=
 zdh c1_0 a0 >>= fun r2 =>
 some (!r2.2)
theorem zrq (a0:V3) (p1_0:Value) (c1_0:z00):z1w Tryz.prog 134 [.rd aZ a0,.val (z05 p1_0 0)] [(1,some (p1_0,.box 25 [.rd z01 c1_0]))] (zkj a0 c1_0) (fun r nv=>⟨[.rd z0g r],[(1,some (p1_0,.box 25 [.rd z01 c1_0]))]⟩):=by
 refine z2e 14 Tryz.func134 Z Z Z fun H w=>?_
 refine gSR<|Eb Z (bx 2 Z) fun v1=>Zb Z<|gSR<|Zq (ld 1 Z Z fH z2v Z)<|Zq (ld 2 Z Z fH z36 Z)<|Zc [] [] Tryz.func65 Z (zer _ _) fun r2 n3=>Zm Z<|Zq (ext Z Z)<|Zq (ext Z Z)<|Za Z<|Zb Z<|gSR<|Zm Z<|Zq (zdi Z)<|Zb Z<|z0i<|Ze [] [1] Z
def z1p (a0:List V3) (c1_0:z00) (s2:Int):Option (Sum (Sum Int Unit) Int) :=
 if decide (s2<(a0.length:Int)) then
  idx a0 s2 >>= fun x4 =>
  zkj x4 c1_0 >>= fun r6 =>
  if r6 then
   some (.inl (.inl s2))
  else
   some (.inr (w64 (s2+1)))
 else
  some (.inl (.inr ()))
def z3n (a0:List V3) (c1_0:z00):Option (Int) :=
 z61 (iter (z1p a0 c1_0) 0) fun s1 =>
 some (-1)
theorem z90 (a0:List V3) (p1_0:Value) (c1_0:z00):z1w Tryz.prog 114 [.rd (z02 aZ) a0,.val (.func (.func 134) #[] #[z05 p1_0 0])] [(1,some (p1_0,.box 25 [.rd z01 c1_0]))] (z3n a0 c1_0) (fun r nv=>⟨[.rd z0c r],[(1,some (p1_0,.box 25 [.rd z01 c1_0]))]⟩):=by
 refine z2e 19 Tryz.func114 Z Z Z fun H w=>?_
 refine gSR<|Zb Z<|z83 (fun (s1:Unit) aa ww=>Sta (ctx 19 H [(1,some (p1_0,.box 25 [.rd z01 c1_0]))] w) [] [(1,some (p1_0,.box 25 [.rd z01 c1_0]))] aa ww) ?_ (fun s1=>?_)
 ·
  refine gSR<|Zm Z<|Zq (z2w Z .rd Z tu22)<|Zm Z<|Zn<|z1v (fun (s2:Int) aa ww=>Sta (ctx 19 H [(1,some (p1_0,.box 25 [.rd z01 c1_0]))] w) [(0,.rd (z02 aZ) a0),(1,.val (.func (.func 134) #[] #[z05 p1_0 0])),(7,.rd z0c (a0.length:Int)),(8,.rd z0c s2)] [(1,some (p1_0,.box 25 [.rd z01 c1_0]))] aa ww) (fun aa ww h=>Zu h [1]) (fun s2=>?_)
  refine gSR<|Zq (I.lss Z Z)<|Zn<|z0l<|gIf Z Z (fun h3=>?_) (fun h3=>?_)
  ·
   refine Zt<|z0l<|z49<|gSR<|Zm Z<|Zb Z<|gSR<|Zm Z<|Zm Z<|Zm Z<|z0j fun x4 h5=>Zq (ixR Z Z h5 tu22 z1g Z)<|Zq (ldR Z z36)<|zhf [1] [(1,1)] (gd0 Z) Z Z Tryz.func134 Z Z (zrq _ _ _) (Y1 Z) (cQ 1 Z<|cN) (y1 Z) fun r6 n7=>Zj Z (fun h8=>?_) (fun h8=>?_)
   ·
    refine gSR<|Zm Z<|Zb Z<|z0i<|z47<|z0v<|z7z<|z5h<|Ze [] [1] Z
   ·
    refine z29<|z2q<|z0f<|z1y<|Zq (I.add Z Z)<|Zm Z<|z1q<|z19 (fun aa ww h=>Zu h [1])
  ·
   refine z1k<|z0o<|z0r<|z4y (fun aa ww h=>Zu h [1])
 ·
  refine gSR<|Zb Z<|z0i<|Ze [] [1] Z
def z2c (a0:List V3) (c1_0:z00):Option (Bool) :=
 z3n a0 c1_0 >>= fun r1 =>
 some (decide (0≤r1)) >>= fun y3 =>
 some y3
theorem z89 (a0:List V3) (p1_0:Value) (c1_0:z00):z1w Tryz.prog 125 [.rd (z02 aZ) a0,.val (.func (.func 134) #[] #[z05 p1_0 0])] [(1,some (p1_0,.box 25 [.rd z01 c1_0]))] (z2c a0 c1_0) (fun r nv=>⟨[.rd z0g r],[(1,some (p1_0,.box 25 [.rd z01 c1_0]))]⟩):=by
 refine z2e 9 Tryz.func125 Z Z Z fun H w=>?_
 refine gSR<|Zb Z<|gSR<|Zm Z<|Zm Z<|Zc [1] [(1,1)] Tryz.func114 Z (z90 _ _ _) fun r1 n2=>Zq (I.geq Z Z)<|Za Z<|z1i 4 Z fun y3=>Zn<|z0i<|Ze [] [1] Z
def zob (a0:z00) (a1:z0b):Option (z00 × V3 × Int) :=
 z24 a0 >>= fun r5 =>
 (if r5==0 then
  zhu a1 >>= fun r9 =>
  some r9
 else
  some r5) >>= fun s7 =>
 if s7 != 0 then
  some ((⟨[],[]⟩:z00),(Vector.replicate 32 0),s7)
 else
  zxz a1 >>= fun r12 =>
  zi8 a0 r12.1 a1 >>= fun r15 =>
  if !r15.2 then
   some ((⟨[],[]⟩:z00),(Vector.replicate 32 0),14)
  else
   z2c a1.Preds a0 >>= fun r19 =>
   if r19 then
    some ((⟨[],[]⟩:z00),(Vector.replicate 32 0),40)
   else
    some ((a0.Ops.length:Int)==60) >>= fun y22 =>
    if y22 then
     some ((⟨[],[]⟩:z00),(Vector.replicate 32 0),18)
    else
     some (r15.1,r12.1,0)
theorem zw8 (a0:z00) (a1:z0b):z1w Tryz.prog 93 [.rd z01 a0,.rd z03 a1] [zG1] (zob a0 a1) (fun r nv=>⟨[.rd z01 r.1,.rd aZ r.2.1,.rd z0c r.2.2],[(1001,some (.bool true,.glob 1 (z3r 64 z10) z8a))]⟩):=by
 refine z2e 56 Tryz.func93 Z Z Z fun H w=>?_
 refine gSR<|Eb Z (bx 1 Z) fun v1=>Eb Z (bx 2 Z) fun v2=>Eb Z (z52 3 z3m (ZrE.nilS (ZrE.nilS ZrE.nil))) fun v3=>Eb Z (z52 4 z1g (.zr (R:=aZ) (x:=(Vector.replicate 32 0)) zf5)) fun v4=>Zb Z<|gSR<|Zq (ld 1 Z Z fH z2v Z)<|Zc [1001] [] Tryz.func74 Z (zc4 _) fun r5 n6=>Zb Z<|z5q (fun (s7:Int) aa ww=>Sta (ctx 56 H [zG1] w) [(2,.val (z05 v1 0)),(3,.val (z05 v2 0)),(4,.val (z05 v3 0)),(5,.val (z05 v4 0)),(7,.rd z0c s7)] [(1,some (v1,.box 25 [.rd z01 a0])),(2,some (v2,.box 73 [.rd z03 a1])),(3,some (v3,.box 25 [.val (.slice none 0 0),.val (.slice none 0 0)])),(4,some (v4,.box 62 [.rd aZ (Vector.replicate 32 0)])),zG1] aa ww) ?_ (fun s7=>?_)
 ·
  refine gSR<|Zm Z<|Zq (I.eql Z Z)<|Zj Z (fun h8=>?_) (fun h8=>?_)
  ·
   refine z1y<|Zq (ld 2 Z Z fH zcs Z)<|Zc [1001] [] Tryz.func112 Z (zmu _) fun r9 n10=>Za Z<|z1q<|z3b (fun aa ww h=>Zu h [1,2,3,4,1001])
  ·
   refine z29<|z3b (fun aa ww h=>Zu h [1,2,3,4,1001])
 ·
  refine z0l<|gSR<|Zm Z<|Zq (I.neq Z Z)<|Zj Z (fun h11=>?_) (fun h11=>?_)
  ·
   refine gSR<|Zq (zii [(0,1),(1,1)] Tryz.underlying25 z3m (ZrE.nilS (ZrE.nilS ZrE.nil)) Z (zds.done Z))<|Zq (zzp (x':=((Vector.replicate 32 0):V3)) tu62 z1g zf5 ti5 (Bld.done Z))<|Zm Z<|Es (zit 3 Z Z (z06.cast (z06.cons z04 (z06.cons z04 z06.nil)) Z) Z (z1n.cons z0h (z1n.cons z0h z1n.nil)) (z06.cast (z06.cons z04 (z06.cons z04 z06.nil)) Z) z3m)<|Es (sto 4 Z Z fH Z z1g)<|Zb Z<|z0i<|z0v<|zdz aZ [.rd (z02 aZ) [],.val (.slice none 0 0)] 3 [] [.val (.slice none 0 0)] Z Z Z<|zdz z03 [.rd (z02 aZ) [],.rd (z02 z03) []] 3 [.rd (z02 aZ) []] [] Z Z Z<|zly (R:=z01) (⟨[],[]⟩:z00) 3 Z (Sp.via (Sp.prod (Sp.prod Sp.unit)))<|zb6 [] [1001] Z (eC 3 Z Z z2v<|eC 4 Z Z z36<|eE Z<|eN) (y1 Z)
  ·
   refine Zt<|gSR<|Zq (ld 2 Z Z fH zcs Z)<|Zc [1001] [] Tryz.func111 Z (zvp _) fun r12 n13=>Zm Z<|Zq (ext Z Z)<|Zq (ext Z Z)<|Eb Z (z52 1100 z1g (.zr (R:=aZ) (x:=(Vector.replicate 32 0)) zf5)) fun v14=>Es (sto 1100 Z Z fH Z z1g)<|Zb Z<|gSR<|Zq (ld 1 Z Z fH z2v Z)<|Zq (ld 1100 Z Z fH z36 Z)<|Zq (ld 2 Z Z fH zcs Z)<|Zc [] [] Tryz.func68 Z (zpq _ _ _) fun r15 n16=>Zm Z<|Zq (ext Z Z)<|Zq (ext Z Z)<|Eb Z (z52 1101 z3m (ZrE.nilS (ZrE.nilS ZrE.nil))) fun v17=>z99 aZ [.rd (z02 aZ) [],.val (.slice none 0 0)] 1101 [] [.val (.slice none 0 0)] Z Z Z<|z99 z03 [.rd (z02 aZ) [],.rd (z02 z03) []] 1101 [.rd (z02 aZ) []] [] Z Z Z<|zch (R:=z01) (⟨[],[]⟩:z00) 1101 Z (Sp.via (Sp.prod (Sp.prod Sp.unit)))<|Es (sto 1101 Z Z fH Z z3m)<|Zb Z<|z0l<|z49<|gSR<|Zm Z<|Zq (zdi Z)<|Zb Z<|gIf Z Z (fun h18=>?_) (fun h18=>?_)
   ·
    refine gKn 37 Z h18<|gSR<|Zq (zii [(0,1),(1,1)] Tryz.underlying25 z3m (ZrE.nilS (ZrE.nilS ZrE.nil)) Z (zds.done Z))<|Zq (zzp (x':=((Vector.replicate 32 0):V3)) tu62 z1g zf5 ti5 (Bld.done Z))<|Es (zit 3 Z Z (z06.cast (z06.cons z04 (z06.cons z04 z06.nil)) Z) Z (z1n.cons z0h (z1n.cons z0h z1n.nil)) (z06.cast (z06.cons z04 (z06.cons z04 z06.nil)) Z) z3m)<|Es (sto 4 Z Z fH Z z1g)<|Zb Z<|z0i<|z47<|z0v<|zdz aZ [.rd (z02 aZ) [],.val (.slice none 0 0)] 3 [] [.val (.slice none 0 0)] Z Z Z<|zdz z03 [.rd (z02 aZ) [],.rd (z02 z03) []] 3 [.rd (z02 aZ) []] [] Z Z Z<|zly (R:=z01) (⟨[],[]⟩:z00) 3 Z (Sp.via (Sp.prod (Sp.prod Sp.unit)))<|zb6 [] [1001] Z (eC 3 Z Z z2v<|eC 4 Z Z z36<|eE Z<|eN) (y1 Z)
   ·
    refine gKn 37 Z h18<|gSR<|Zq (faB 2 Z Z Tryz.underlying73 Z (by exact z4q))<|Zq (ld 2 Z Z (fP (z0x _)) z5j Z)<|Zq (mkf mp0 (mp1 Z))<|Zc [1] [(1,1)] Tryz.func125 Z (z89 _ _ _) fun r19 n20=>Zb Z<|gIf Z Z (fun h21=>?_) (fun h21=>?_)
    ·
     refine gKn 44 Z h21<|gSR<|Zq (zii [(0,1),(1,1)] Tryz.underlying25 z3m (ZrE.nilS (ZrE.nilS ZrE.nil)) Z (zds.done Z))<|Zq (zzp (x':=((Vector.replicate 32 0):V3)) tu62 z1g zf5 ti5 (Bld.done Z))<|Es (zit 3 Z Z (z06.cast (z06.cons z04 (z06.cons z04 z06.nil)) Z) Z (z1n.cons z0h (z1n.cons z0h z1n.nil)) (z06.cast (z06.cons z04 (z06.cons z04 z06.nil)) Z) z3m)<|Es (sto 4 Z Z fH Z z1g)<|Zb Z<|z0i<|z47<|z0v<|zdz aZ [.rd (z02 aZ) [],.val (.slice none 0 0)] 3 [] [.val (.slice none 0 0)] Z Z Z<|zdz z03 [.rd (z02 aZ) [],.rd (z02 z03) []] 3 [.rd (z02 aZ) []] [] Z Z Z<|zly (R:=z01) (⟨[],[]⟩:z00) 3 Z (Sp.via (Sp.prod (Sp.prod Sp.unit)))<|zb6 [] [1001] Z (eC 3 Z Z z2v<|eC 4 Z Z z36<|eE Z<|eN) (y1 Z)
    ·
     refine gKn 44 Z h21<|gSR<|Zq (faB 1 Z Z Tryz.underlying25 Z (by exact z9l))<|Zq (ld 1 Z Z (fP (z08 _)) zcx Z)<|Zq (z2w Z .rd Z tu23)<|Zq (I.eql Z Z)<|Za Z<|z1i 47 Z fun y22=>Zj Z (fun h23=>?_) (fun h23=>?_)
     ·
      refine gSR<|Zq (zii [(0,1),(1,1)] Tryz.underlying25 z3m (ZrE.nilS (ZrE.nilS ZrE.nil)) Z (zds.done Z))<|Zq (zzp (x':=((Vector.replicate 32 0):V3)) tu62 z1g zf5 ti5 (Bld.done Z))<|Es (zit 3 Z Z (z06.cast (z06.cons z04 (z06.cons z04 z06.nil)) Z) Z (z1n.cons z0h (z1n.cons z0h z1n.nil)) (z06.cast (z06.cons z04 (z06.cons z04 z06.nil)) Z) z3m)<|Es (sto 4 Z Z fH Z z1g)<|Zb Z<|z0i<|z47<|z0v<|zdz aZ [.rd (z02 aZ) [],.val (.slice none 0 0)] 3 [] [.val (.slice none 0 0)] Z Z Z<|zdz z03 [.rd (z02 aZ) [],.rd (z02 z03) []] 3 [.rd (z02 aZ) []] [] Z Z Z<|zly (R:=z01) (⟨[],[]⟩:z00) 3 Z (Sp.via (Sp.prod (Sp.prod Sp.unit)))<|zb6 [] [1001] Z (eC 3 Z Z z2v<|eC 4 Z Z z36<|eE Z<|eN) (y1 Z)
     ·
      refine z29<|z2q<|z0f<|z0l<|z57 [3,4] mixed Z Z<|hTk 0 Z Z (ld 1101 Z Z fH z2v Z)<|hTk 1 Z Z (ld 1100 Z Z fH z36 Z)<|zr8 aZ [.rd (z02 aZ) [],.val (.slice none 0 0)] 3 [] [.val (.slice none 0 0)] Z Z Z<|zr8 z03 [.rd (z02 aZ) [],.rd (z02 z03) []] 3 [.rd (z02 aZ) []] [] Z Z Z<|hJoi (R:=z01) (⟨[],[]⟩:z00) 3 Z (Sp.via (Sp.prod (Sp.prod Sp.unit)))<|Zp 2 Z Z Z Z Z (sto 3 Z Z fH Z z3m)<|Zp 3 Z Z Z Z Z (sto 4 Z Z fH Z z1g)<|hTk 4 Z Z (asg Z)<|z3q (by kernel_rfl)<|z0f<|z0i<|zb6 [] [1001] Z (eC 3 Z Z z2v<|eC 4 Z Z z36<|eE Z<|eN) (y1 Z)
def z8v (a0:z00) (a1:z00) (r10:(List V3)) (s16:z00 × Int):Option (Sum z00 (z00 × Int)) :=
 if decide (s16.2<(r10.length:Int)) then
  idx r10 s16.2 >>= fun x18 =>
  z1u a1.IDs x18 >>= fun r21 =>
  if r21 then
   some (.inr (s16.1,w64 (s16.2+1)))
  else
   zjy a0 x18 >>= fun r24 =>
   zob s16.1 r24.1 >>= fun r27 =>
   some (.inr (r27.1,w64 (s16.2+1)))
 else
  some (.inl s16.1)
def ze9 (a0:z00) (a1:z00):Option (z00 × Int) :=
 zbj a0 >>= fun r4 =>
 zbj a1 >>= fun r6 =>
 zet a1 r4.1 >>= fun r8 =>
 zec a0 r8 r6.1 >>= fun r10 =>
 zbh a1 (⟨[],[]⟩:z00) >>= fun r12 =>
 (iter (z8v a0 a1 r10) (r12.1,0)) >>= fun s15 =>
 zfs a0 r10 >>= fun r29 =>
 some (r29.length:Int) >>= fun y31 =>
 some (s15,y31)
theorem zh0 (a0:z00) (a1:z00):z1w Tryz.prog 56 [.rd z01 a0,.rd z01 a1] [zG1] (ze9 a0 a1) (fun r nv=>⟨[.rd z01 r.1,.rd z0c r.2],[(1001,some (.bool true,.glob 1 (z3r 64 z10) z8a))]⟩):=by
 refine z2e 68 Tryz.func56 Z Z Z fun H w=>?_
 refine gSR<|Eb Z (bx 1 Z) fun v1=>Eb Z (bx 2 Z) fun v2=>Eb Z (z52 3 z3m (ZrE.nilS (ZrE.nilS ZrE.nil))) fun v3=>Zb Z<|gSR<|Zq (ld 1 Z Z fH z2v Z)<|Zc [1001] [(100,4)] Tryz.func92 Z (zga _) fun r4 n5=>Zm Z<|Zq (ext Z Z)<|Zq (ext Z Z)<|Za Z<|Zb Z<|gSR<|Zq (ld 2 Z Z fH z2v Z)<|Zc [1001] [(100,5)] Tryz.func92 Z (zga _) fun r6 n7=>Zm Z<|Zq (ext Z Z)<|Zq (ext Z Z)<|Za Z<|Zb Z<|z0l<|z57 [15,21,1001] mixed Z Z<|hTk 0 Z Z (ld 1 Z Z fH z2v Z)<|hTk 1 Z Z (ld 2 Z Z fH z2v Z)<|hTk 2 Z Z (mv Z)<|hTk 4 Z Z (mv Z)<|zr7 4 [20,6,29] Z (fS Z<|fS Z<|fS Z<|fN)<|z3h 3 [] [(100,15)] Z (by kernel_rfl) Z (gd0 Z) Z Tryz.func44 Z Z (zp9 _ _) (Y2 Z Z) rN Z (fun _ _=>z2t) fun r8 n9=>zr7 15 [30] Z (fS Z<|fN)<|zr7 5 [25,8,31] Z (fS Z<|fS Z<|fS Z<|fN)<|z3h 5 [1001] [(100,21)] Z (by kernel_rfl) Z (gd0 Z) Z Tryz.func49 Z Z (zr2 _ _ _) (aQ Z<|aQ Z<|aQ Z<|aN) (y1 Z) Z (fun _ _=>z2t) fun r10 n11=>Zf 6 Z Z z2t (asg Z)<|z3q (by kernel_rfl)<|z0f<|gSR<|Zq (ld 2 Z Z fH z2v Z)<|Zq (bld (x':=(⟨[],[]⟩:z00)) [(0,1),(1,1)] Tryz.underlying25 z3m Z zr25 Z (Bld.done Z))<|Zc [1001] [] Tryz.func37 Z (zht _ _) fun r12 n13=>Zm Z<|Zq (ext Z Z)<|Zq (ext Z Z)<|Eb Z (z52 30 z3m (ZrE.nilS (ZrE.nilS ZrE.nil))) fun v14=>z99 aZ [.rd (z02 aZ) [],.val (.slice none 0 0)] 30 [] [.val (.slice none 0 0)] Z Z Z<|z99 z03 [.rd (z02 aZ) [],.rd (z02 z03) []] 30 [.rd (z02 aZ) []] [] Z Z Z<|zch (R:=z01) (⟨[],[]⟩:z00) 30 Z (Sp.via (Sp.prod (Sp.prod Sp.unit)))<|Es (sto 30 Z Z fH Z z3m)<|Zb Z<|z5q (fun (s15:z00) aa ww=>Sta (ctx 68 H [zG1] w) [(2,.val (z05 v1 0)),(4,.val (z05 v3 0)),(10,.val (n11 0)),(11,.val (z05 v14 0))] [(1,some (v1,.box 25 [.rd z01 a0])),(3,some (v3,.box 25 [.val (.slice none 0 0),.val (.slice none 0 0)])),(21,some ((n11 0),.list aZ 62 r10)),(30,some (v14,.box 25 [.rd z01 s15])),zG1] aa ww) ?_ (fun s15=>?_)
 ·
  refine gSR<|Zm Z<|Zq (z2w Z (.own 21 Z) Z tu22)<|Zm Z<|Zn<|z1v (fun (s16:z00 × Int) aa ww=>Sta (ctx 68 H [zG1] w) [(2,.val (z05 v1 0)),(3,.val (z05 v2 0)),(4,.val (z05 v3 0)),(10,.val (n11 0)),(11,.val (z05 v14 0)),(39,.val (n11 0)),(40,.rd z0c (r10.length:Int)),(41,.rd z0c s16.2)] [(1,some (v1,.box 25 [.rd z01 a0])),(2,some (v2,.box 25 [.rd z01 a1])),(3,some (v3,.box 25 [.val (.slice none 0 0),.val (.slice none 0 0)])),(21,some ((n11 0),.list aZ 62 r10)),(30,some (v14,.box 25 [.rd z01 s16.1])),zG1] aa ww) (fun aa ww h=>Zu h [1,2,3,21,30,1001]) (fun s16=>?_)
  refine gSR<|Zq (I.lss Z Z)<|Zn<|z0l<|gIf Z Z (fun h17=>?_) (fun h17=>?_)
  ·
   refine Zt<|z0l<|z49<|gSR<|z0j fun x18 h19=>Zq (ixO 21 Z Z Z h19 tu22 z1g)<|Zq (ld 21 Z Z (Foc.el h19) z36 Z)<|Eb Z (z52 1100 z1g (.zr (R:=aZ) (x:=(Vector.replicate 32 0)) zf5)) fun v20=>Es (sto 1100 Z Z fH Z z1g)<|Zn<|z0l<|gSR<|Zq (faB 2 Z Z Tryz.underlying25 Z (by exact z4q))<|Zq (ld 2 Z Z (fP (z07 _)) z5j Z)<|Zq (ld 1100 Z Z fH z36 Z)<|Zc [] [] Tryz.func77 Z (z2x _ _) fun r21 n22=>Zj Z (fun h23=>?_) (fun h23=>?_)
   ·
    refine z1k<|z0o<|z103<|z0f<|z1y<|Zq (I.add Z Z)<|Zm Z<|z1q<|z19 (fun aa ww h=>Zu h [1,2,3,21,30,1001])
   ·
    refine Zt<|gSR<|Zq (ld 1 Z Z fH z2v Z)<|Zq (ld 1100 Z Z fH z36 Z)<|Zc [1001] [] Tryz.func88 Z (zpj _ _) fun r24 n25=>Zm Z<|Zq (ext Z Z)<|Zq (ext Z Z)<|Eb Z (z52 1101 za5 (ZrE.rd (R:=z10) (x:=0) (Zr.num Z) (ZrE.nilS (ZrE.rd (R:=z2k) (x:=0) (Zr.num Z) (ZrE.rd (R:=z0z) (x:=(⟨0,[],(⟨0,0,0,[]⟩:z09)⟩:z18)) zx7 (ZrE.rd (R:=z13) (x:=(⟨0,0⟩:z0q)) zx6 ZrE.nil Z) Z) Z)) Z)) fun v26=>z99 aZ [.rd z10 0,.rd (z02 aZ) [],.rd z2k 0,.rd z0z (⟨0,[],(⟨0,0,0,[]⟩:z09)⟩:z18),.rd z13 (⟨0,0⟩:z0q)] 1101 [.rd z10 0] [.rd z2k 0,.rd z0z (⟨0,[],(⟨0,0,0,[]⟩:z09)⟩:z18),.rd z13 (⟨0,0⟩:z0q)] Z Z Z<|zch (R:=z03) (⟨0,[],0,(⟨0,[],(⟨0,0,0,[]⟩:z09)⟩:z18),(⟨0,0⟩:z0q)⟩:z0b) 1101 Z (Sp.via (Sp.prod (Sp.prod (Sp.prod (Sp.prod (Sp.prod Sp.unit))))))<|Es (sto 1101 Z Z fH Z za5)<|Zb Z<|z1y<|Zq (ld 30 Z Z fH z2v Z)<|Zq (ld 1101 Z Z fH zcs Z)<|Zc [1001] [] Tryz.func93 Z (zw8 _ _) fun r27 n28=>Zm Z<|Zq (ext Z Z)<|Zq (ext Z Z)<|Zq (ext Z Z)<|Es (sto 30 Z Z fH Z z3m)<|z1q<|z2q<|z0f<|z1y<|Zq (I.add Z Z)<|Zm Z<|z1q<|z19 (fun aa ww h=>Zu h [1,2,3,21,30,1001])
  ·
   refine z1k<|z0o<|z0r<|z3b (fun aa ww h=>Zu h [1,3,21,30,1001])
 ·
  refine z0l<|z57 [3,1001,1111] mixed Z Z<|hTk 0 Z Z (ld 30 Z Z fH z2v Z)<|hTk 1 Z Z (ld 1 Z Z fH z2v Z)<|hTk 2 Z Z (mv Z)<|zr7 21 [10,65] Z (fS Z<|fS Z<|fN)<|z3h 3 [1001] [(100,1111)] Z (by kernel_rfl) Z (gd0 Z) Z Tryz.func51 Z Z (zoh _ _) (Y2 Z Z) (y1 Z) Z (fun _ _=>z2t) fun r29 n30=>Zf 4 Z Z z2j (z2w Z (.own 1111 Z) Z tu35)<|zr8 aZ [.rd (z02 aZ) [],.val (.slice none 0 0)] 3 [] [.val (.slice none 0 0)] Z Z Z<|zr8 z03 [.rd (z02 aZ) [],.rd (z02 z03) []] 3 [.rd (z02 aZ) []] [] Z Z Z<|hJoi (R:=z01) (⟨[],[]⟩:z00) 3 Z (Sp.via (Sp.prod (Sp.prod Sp.unit)))<|Zp 5 Z Z Z Z Z (sto 3 Z Z fH Z z3m)<|hTk 6 Z Z (asg Z)<|zu0 5 Z Z fun y31=>z3q (by kernel_rfl)<|z0f<|z0i<|zb6 [] [1001] Z (eC 3 Z Z z2v<|eE Z<|eN) (y1 Z)
def zm1 (a0:z00) (a1:z00):Option (z00 × Int × Int) :=
 zbh a0 a1 >>= fun r4 =>
 if r4.2 != 0 then
  some ((⟨[],[]⟩:z00),0,r4.2)
 else
  ze9 a0 a1 >>= fun r8 =>
  some (r8.1,r8.2,0)
theorem zr3 (a0:z00) (a1:z00):z1w Tryz.prog 24 [.rd z01 a0,.rd z01 a1] [zG1] (zm1 a0 a1) (fun r nv=>⟨[.rd z01 r.1,.rd z0c r.2.1,.rd z0c r.2.2],[(1001,some (.bool true,.glob 1 (z3r 64 z10) z8a))]⟩):=by
 refine z2e 29 Tryz.func24 Z Z Z fun H w=>?_
 refine gSR<|Eb Z (bx 1 Z) fun v1=>Eb Z (bx 2 Z) fun v2=>Eb Z (z52 3 z3m (ZrE.nilS (ZrE.nilS ZrE.nil))) fun v3=>Za Z<|Zb Z<|z0l<|gSR<|Zq (ld 1 Z Z fH z2v Z)<|Zq (ld 2 Z Z fH z2v Z)<|Zc [1001] [] Tryz.func37 Z (zht _ _) fun r4 n5=>Zm Z<|Zq (ext Z Z)<|Zq (ext Z Z)<|Eb Z (z52 4 z3m (ZrE.nilS (ZrE.nilS ZrE.nil))) fun v6=>z99 aZ [.rd (z02 aZ) [],.val (.slice none 0 0)] 4 [] [.val (.slice none 0 0)] Z Z Z<|z99 z03 [.rd (z02 aZ) [],.rd (z02 z03) []] 4 [.rd (z02 aZ) []] [] Z Z Z<|zch (R:=z01) (⟨[],[]⟩:z00) 4 Z (Sp.via (Sp.prod (Sp.prod Sp.unit)))<|Es (sto 4 Z Z fH Z z3m)<|Zb Z<|gSR<|Zm Z<|Zq (I.neq Z Z)<|Zj Z (fun h7=>?_) (fun h7=>?_)
 ·
  refine gSR<|Zq (zii [(0,1),(1,1)] Tryz.underlying25 z3m (ZrE.nilS (ZrE.nilS ZrE.nil)) Z (zds.done Z))<|Zm Z<|Es (zit 3 Z Z (z06.cast (z06.cons z04 (z06.cons z04 z06.nil)) Z) Z (z1n.cons z0h (z1n.cons z0h z1n.nil)) (z06.cast (z06.cons z04 (z06.cons z04 z06.nil)) Z) z3m)<|Za Z<|Zb Z<|z0i<|z0v<|zdz aZ [.rd (z02 aZ) [],.val (.slice none 0 0)] 3 [] [.val (.slice none 0 0)] Z Z Z<|zdz z03 [.rd (z02 aZ) [],.rd (z02 z03) []] 3 [.rd (z02 aZ) []] [] Z Z Z<|zly (R:=z01) (⟨[],[]⟩:z00) 3 Z (Sp.via (Sp.prod (Sp.prod Sp.unit)))<|zb6 [] [1001] Z (eC 3 Z Z z2v<|eE Z<|eE Z<|eN) (y1 Z)
 ·
  refine Zt<|gSR<|Zq (ld 1 Z Z fH z2v Z)<|Zq (ld 2 Z Z fH z2v Z)<|Zc [1001] [] Tryz.func56 Z (zh0 _ _) fun r8 n9=>Zm Z<|Zq (ext Z Z)<|Zq (ext Z Z)<|Eb Z (z52 5 z3m (ZrE.nilS (ZrE.nilS ZrE.nil))) fun v10=>z99 aZ [.rd (z02 aZ) [],.val (.slice none 0 0)] 5 [] [.val (.slice none 0 0)] Z Z Z<|z99 z03 [.rd (z02 aZ) [],.rd (z02 z03) []] 5 [.rd (z02 aZ) []] [] Z Z Z<|zch (R:=z01) (⟨[],[]⟩:z00) 5 Z (Sp.via (Sp.prod (Sp.prod Sp.unit)))<|Es (sto 5 Z Z fH Z z3m)<|Zb Z<|gSR<|Zq (ld 5 Z Z fH z2v Z)<|Zm Z<|z99 aZ [.rd (z02 aZ) [],.val (.slice none 0 0)] 3 [] [.val (.slice none 0 0)] Z Z Z<|z99 z03 [.rd (z02 aZ) [],.rd (z02 z03) []] 3 [.rd (z02 aZ) []] [] Z Z Z<|zch (R:=z01) (⟨[],[]⟩:z00) 3 Z (Sp.via (Sp.prod (Sp.prod Sp.unit)))<|Es (sto 3 Z Z fH Z z3m)<|Za Z<|Zb Z<|z0i<|zb6 [] [1001] Z (eC 3 Z Z z2v<|eE Z<|eE Z<|eN) (y1 Z)
def zb1 (a0:z00) (a1:V3) (s7:Int):Option (Sum Int Int) :=
 if decide (s7<(a0.IDs.length:Int)) then
  idx a0.IDs s7 >>= fun x9 =>
  z7y x9 a1 >>= fun r11 =>
  if decide (r11<0) then
   some (.inr (w64 (s7+1)))
  else
   some (.inl s7)
 else
  some (.inl s7)
def z9m (a0:z00) (a1:V3) (a2:z0b):Option (z00) :=
 (iter (zb1 a0 a1) 0) >>= fun s6 =>
 cut a0.IDs 0 s6 >>= fun x14 =>
 app 32 ([]:List V3) x14 >>= fun x16 =>
 app 32 x16 [a1] >>= fun x18 =>
 cut a0.IDs s6 (a0.IDs.length:Int) >>= fun x20 =>
 app 32 x18 x20 >>= fun x22 =>
 cut a0.Ops 0 s6 >>= fun x25 =>
 app 112 ([]:List z0b) x25 >>= fun x27 =>
 app 112 x27 [a2] >>= fun x29 =>
 cut a0.Ops s6 (a0.Ops.length:Int) >>= fun x31 =>
 app 112 x29 x31 >>= fun x33 =>
 z6m (⟨x22,x33⟩:z00) >>= fun r36 =>
 some r36
end
end Go.Proofs.YtefkialcgmohkaaGreatDoor
