/- The reference copy with pieces laid in it: a walk. -/
import Derived.Test.YtenfndlbldffgaaDoorCwG
set_option autoImplicit false
set_option linter.unusedVariables false
set_option linter.unusedSimpArgs false
set_option maxRecDepth 100000
namespace Go.Vi
open Go Go.Vi Go.Proofs
attribute [local irreducible] vops vopsD vc
theorem nv_t7v {P : Program} {G : Glob} {md : Oper → Md} {ops : Array Oper} {r : List Oper} {env : List AV} {x0 x1 x2 x3 x4 x5 x6 x7 x8 x9 x10 x11 x12 x13 x14 x15 x16 x17 x18 x19 x20 x21 x22 x23 x24 x25 x26 x27 x28 x29 x30 x31 x32 x33 x34 x35 x36 x37 x38 x39 x40 x41 x42 x43 x44 x45 x46 x47 x48 x49 x50 x51 x52 x53 x54 x55 x56 x57 x58 x59 x60 x61 x62 x63 x64 x65 x66 x67 x68 x69 x70 x71 x72 x73 x74 x75 x76 x77 x78 x79 x80 x81 x82 x83 x84 x85 x86 x87 x88 x89 x90 x91 x92 x93 x94 x95 x96 x97 x98 x99 x100 x101 x102 x103 x104 x105 x106 x107 x108 x109 x110 x111 x112 x113 x114 x115 x116 x117 x118 x119 x120 x121 x122 x123 x124 x125 x126 x127 x128 x129 x130 x131 x132 x133 x134 x135 x136 x137 x138 x139 x140 x141 x142 x143 x144 x145 x146 x147 x148 x149 x150 x151 x152 x153 x154 x155 x156 x157 x158 x159 x160 x161 x162 x163 x164 x165 x166 x167 x168 x169 x170 x171 x172 x173 x174 x175 x176 x177 x178 x179 x180 x181 x182 x183 x184 x185 x186 x187 x188 x189 x190 x191 x192 x193 x194 x195 x196 x197 x198 x199 x200 x201 x202 x203 x204 x205 x206 x207 x208 x209 x210 x211 x212 x213 x214 x215 x216 x217 x218 x219 x220 x221 x222 x223 x224 x225 x226 x227 x228 x229 : AV} {H : Hp} {K : List AV → Hp → Prop} (he : env = (x0 :: x1 :: x2 :: x3 :: x4 :: x5 :: x6 :: x7 :: x8 :: x9 :: x10 :: x11 :: x12 :: x13 :: x14 :: x15 :: x16 :: x17 :: x18 :: x19 :: x20 :: x21 :: x22 :: x23 :: x24 :: x25 :: x26 :: x27 :: x28 :: x29 :: x30 :: x31 :: x32 :: x33 :: x34 :: x35 :: x36 :: x37 :: x38 :: x39 :: x40 :: x41 :: x42 :: x43 :: x44 :: x45 :: x46 :: x47 :: x48 :: x49 :: x50 :: x51 :: x52 :: x53 :: x54 :: x55 :: x56 :: x57 :: x58 :: x59 :: x60 :: x61 :: x62 :: x63 :: x64 :: x65 :: x66 :: x67 :: x68 :: x69 :: x70 :: x71 :: x72 :: x73 :: x74 :: x75 :: x76 :: x77 :: x78 :: x79 :: x80 :: x81 :: x82 :: x83 :: x84 :: x85 :: x86 :: x87 :: x88 :: x89 :: x90 :: x91 :: x92 :: x93 :: x94 :: x95 :: x96 :: x97 :: x98 :: x99 :: x100 :: x101 :: x102 :: x103 :: x104 :: x105 :: x106 :: x107 :: x108 :: x109 :: x110 :: x111 :: x112 :: x113 :: x114 :: x115 :: x116 :: x117 :: x118 :: x119 :: x120 :: x121 :: x122 :: x123 :: x124 :: x125 :: x126 :: x127 :: x128 :: x129 :: x130 :: x131 :: x132 :: x133 :: x134 :: x135 :: x136 :: x137 :: x138 :: x139 :: x140 :: x141 :: x142 :: x143 :: x144 :: x145 :: x146 :: x147 :: x148 :: x149 :: x150 :: x151 :: x152 :: x153 :: x154 :: x155 :: x156 :: x157 :: x158 :: x159 :: x160 :: x161 :: x162 :: x163 :: x164 :: x165 :: x166 :: x167 :: x168 :: x169 :: x170 :: x171 :: x172 :: x173 :: x174 :: x175 :: x176 :: x177 :: x178 :: x179 :: x180 :: x181 :: x182 :: x183 :: x184 :: x185 :: x186 :: x187 :: x188 :: x189 :: x190 :: x191 :: x192 :: x193 :: x194 :: x195 :: x196 :: x197 :: x198 :: x199 :: x200 :: x201 :: x202 :: x203 :: x204 :: x205 :: x206 :: x207 :: x208 :: x209 :: x210 :: x211 :: x212 :: x213 :: x214 :: x215 :: x216 :: x217 :: x218 :: x219 :: x220 :: x221 :: x222 :: x223 :: x224 :: x225 :: x226 :: x227 :: x228 :: x229 :: [])) (h : vops P G md ops r (x0 :: x1 :: x2 :: x3 :: x4 :: x5 :: x6 :: x7 :: x8 :: x9 :: x10 :: x11 :: x12 :: x13 :: x14 :: x15 :: x16 :: x17 :: x18 :: x19 :: x20 :: x21 :: x22 :: x23 :: x24 :: x25 :: x26 :: x27 :: x28 :: x29 :: x30 :: x31 :: x32 :: x33 :: x34 :: x35 :: x36 :: x37 :: x38 :: x39 :: x40 :: x41 :: x42 :: x43 :: x44 :: x45 :: x46 :: x47 :: x48 :: x49 :: x50 :: x51 :: x52 :: x53 :: x54 :: x55 :: x56 :: x57 :: x58 :: x59 :: x60 :: x61 :: x62 :: x63 :: x64 :: x65 :: x66 :: x67 :: x68 :: x69 :: x70 :: x71 :: x72 :: x73 :: x74 :: x75 :: x76 :: x77 :: x78 :: x79 :: x80 :: x81 :: x82 :: x83 :: x84 :: x85 :: x86 :: x87 :: x88 :: x89 :: x90 :: x91 :: x92 :: x93 :: x94 :: x95 :: x96 :: x97 :: x98 :: x99 :: x100 :: x101 :: x102 :: x103 :: x104 :: x105 :: x106 :: x107 :: x108 :: x109 :: x110 :: x111 :: x112 :: x113 :: x114 :: x115 :: x116 :: x117 :: x118 :: x119 :: x120 :: x121 :: x122 :: x123 :: x124 :: x125 :: x126 :: x127 :: x128 :: x129 :: x130 :: x131 :: x132 :: x133 :: x134 :: x135 :: x136 :: x137 :: x138 :: x139 :: x140 :: x141 :: x142 :: x143 :: x144 :: x145 :: x146 :: x147 :: x148 :: x149 :: x150 :: x151 :: x152 :: x153 :: x154 :: x155 :: x156 :: x157 :: x158 :: x159 :: x160 :: x161 :: x162 :: x163 :: x164 :: x165 :: x166 :: x167 :: x168 :: x169 :: x170 :: x171 :: x172 :: x173 :: x174 :: x175 :: x176 :: x177 :: x178 :: x179 :: x180 :: x181 :: x182 :: x183 :: x184 :: x185 :: x186 :: x187 :: x188 :: x189 :: x190 :: x191 :: x192 :: x193 :: x194 :: x195 :: x196 :: x197 :: x198 :: x199 :: x200 :: x201 :: x202 :: x203 :: x204 :: x205 :: x206 :: x207 :: x208 :: x209 :: x210 :: x211 :: x212 :: x213 :: x214 :: x215 :: x216 :: x217 :: x218 :: x219 :: x220 :: x221 :: x222 :: x223 :: x224 :: x225 :: x226 :: x227 :: x228 :: x229 :: []) H K) : vops P G md ops r env H K := by rw [he]; exact h
theorem nd_t7v {P : Program} {G : Glob} {md : Oper → Md} {ops : Array Oper} {r : List Oper} {env : List AV} {x0 x1 x2 x3 x4 x5 x6 x7 x8 x9 x10 x11 x12 x13 x14 x15 x16 x17 x18 x19 x20 x21 x22 x23 x24 x25 x26 x27 x28 x29 x30 x31 x32 x33 x34 x35 x36 x37 x38 x39 x40 x41 x42 x43 x44 x45 x46 x47 x48 x49 x50 x51 x52 x53 x54 x55 x56 x57 x58 x59 x60 x61 x62 x63 x64 x65 x66 x67 x68 x69 x70 x71 x72 x73 x74 x75 x76 x77 x78 x79 x80 x81 x82 x83 x84 x85 x86 x87 x88 x89 x90 x91 x92 x93 x94 x95 x96 x97 x98 x99 x100 x101 x102 x103 x104 x105 x106 x107 x108 x109 x110 x111 x112 x113 x114 x115 x116 x117 x118 x119 x120 x121 x122 x123 x124 x125 x126 x127 x128 x129 x130 x131 x132 x133 x134 x135 x136 x137 x138 x139 x140 x141 x142 x143 x144 x145 x146 x147 x148 x149 x150 x151 x152 x153 x154 x155 x156 x157 x158 x159 x160 x161 x162 x163 x164 x165 x166 x167 x168 x169 x170 x171 x172 x173 x174 x175 x176 x177 x178 x179 x180 x181 x182 x183 x184 x185 x186 x187 x188 x189 x190 x191 x192 x193 x194 x195 x196 x197 x198 x199 x200 x201 x202 x203 x204 x205 x206 x207 x208 x209 x210 x211 x212 x213 x214 x215 x216 x217 x218 x219 x220 x221 x222 x223 x224 x225 x226 x227 x228 x229 : AV} {H : Hp} {K : List AV → Hp → Prop} (he : env = (x0 :: x1 :: x2 :: x3 :: x4 :: x5 :: x6 :: x7 :: x8 :: x9 :: x10 :: x11 :: x12 :: x13 :: x14 :: x15 :: x16 :: x17 :: x18 :: x19 :: x20 :: x21 :: x22 :: x23 :: x24 :: x25 :: x26 :: x27 :: x28 :: x29 :: x30 :: x31 :: x32 :: x33 :: x34 :: x35 :: x36 :: x37 :: x38 :: x39 :: x40 :: x41 :: x42 :: x43 :: x44 :: x45 :: x46 :: x47 :: x48 :: x49 :: x50 :: x51 :: x52 :: x53 :: x54 :: x55 :: x56 :: x57 :: x58 :: x59 :: x60 :: x61 :: x62 :: x63 :: x64 :: x65 :: x66 :: x67 :: x68 :: x69 :: x70 :: x71 :: x72 :: x73 :: x74 :: x75 :: x76 :: x77 :: x78 :: x79 :: x80 :: x81 :: x82 :: x83 :: x84 :: x85 :: x86 :: x87 :: x88 :: x89 :: x90 :: x91 :: x92 :: x93 :: x94 :: x95 :: x96 :: x97 :: x98 :: x99 :: x100 :: x101 :: x102 :: x103 :: x104 :: x105 :: x106 :: x107 :: x108 :: x109 :: x110 :: x111 :: x112 :: x113 :: x114 :: x115 :: x116 :: x117 :: x118 :: x119 :: x120 :: x121 :: x122 :: x123 :: x124 :: x125 :: x126 :: x127 :: x128 :: x129 :: x130 :: x131 :: x132 :: x133 :: x134 :: x135 :: x136 :: x137 :: x138 :: x139 :: x140 :: x141 :: x142 :: x143 :: x144 :: x145 :: x146 :: x147 :: x148 :: x149 :: x150 :: x151 :: x152 :: x153 :: x154 :: x155 :: x156 :: x157 :: x158 :: x159 :: x160 :: x161 :: x162 :: x163 :: x164 :: x165 :: x166 :: x167 :: x168 :: x169 :: x170 :: x171 :: x172 :: x173 :: x174 :: x175 :: x176 :: x177 :: x178 :: x179 :: x180 :: x181 :: x182 :: x183 :: x184 :: x185 :: x186 :: x187 :: x188 :: x189 :: x190 :: x191 :: x192 :: x193 :: x194 :: x195 :: x196 :: x197 :: x198 :: x199 :: x200 :: x201 :: x202 :: x203 :: x204 :: x205 :: x206 :: x207 :: x208 :: x209 :: x210 :: x211 :: x212 :: x213 :: x214 :: x215 :: x216 :: x217 :: x218 :: x219 :: x220 :: x221 :: x222 :: x223 :: x224 :: x225 :: x226 :: x227 :: x228 :: x229 :: [])) (h : vopsD P G md ops r (x0 :: x1 :: x2 :: x3 :: x4 :: x5 :: x6 :: x7 :: x8 :: x9 :: x10 :: x11 :: x12 :: x13 :: x14 :: x15 :: x16 :: x17 :: x18 :: x19 :: x20 :: x21 :: x22 :: x23 :: x24 :: x25 :: x26 :: x27 :: x28 :: x29 :: x30 :: x31 :: x32 :: x33 :: x34 :: x35 :: x36 :: x37 :: x38 :: x39 :: x40 :: x41 :: x42 :: x43 :: x44 :: x45 :: x46 :: x47 :: x48 :: x49 :: x50 :: x51 :: x52 :: x53 :: x54 :: x55 :: x56 :: x57 :: x58 :: x59 :: x60 :: x61 :: x62 :: x63 :: x64 :: x65 :: x66 :: x67 :: x68 :: x69 :: x70 :: x71 :: x72 :: x73 :: x74 :: x75 :: x76 :: x77 :: x78 :: x79 :: x80 :: x81 :: x82 :: x83 :: x84 :: x85 :: x86 :: x87 :: x88 :: x89 :: x90 :: x91 :: x92 :: x93 :: x94 :: x95 :: x96 :: x97 :: x98 :: x99 :: x100 :: x101 :: x102 :: x103 :: x104 :: x105 :: x106 :: x107 :: x108 :: x109 :: x110 :: x111 :: x112 :: x113 :: x114 :: x115 :: x116 :: x117 :: x118 :: x119 :: x120 :: x121 :: x122 :: x123 :: x124 :: x125 :: x126 :: x127 :: x128 :: x129 :: x130 :: x131 :: x132 :: x133 :: x134 :: x135 :: x136 :: x137 :: x138 :: x139 :: x140 :: x141 :: x142 :: x143 :: x144 :: x145 :: x146 :: x147 :: x148 :: x149 :: x150 :: x151 :: x152 :: x153 :: x154 :: x155 :: x156 :: x157 :: x158 :: x159 :: x160 :: x161 :: x162 :: x163 :: x164 :: x165 :: x166 :: x167 :: x168 :: x169 :: x170 :: x171 :: x172 :: x173 :: x174 :: x175 :: x176 :: x177 :: x178 :: x179 :: x180 :: x181 :: x182 :: x183 :: x184 :: x185 :: x186 :: x187 :: x188 :: x189 :: x190 :: x191 :: x192 :: x193 :: x194 :: x195 :: x196 :: x197 :: x198 :: x199 :: x200 :: x201 :: x202 :: x203 :: x204 :: x205 :: x206 :: x207 :: x208 :: x209 :: x210 :: x211 :: x212 :: x213 :: x214 :: x215 :: x216 :: x217 :: x218 :: x219 :: x220 :: x221 :: x222 :: x223 :: x224 :: x225 :: x226 :: x227 :: x228 :: x229 :: []) H K) : vopsD P G md ops r env H K := by rw [he]; exact h
set_option maxHeartbeats 4000000 in
theorem t7v (G : Glob) (last0 last : Int) (pages l st : AV) (hL : IsL pages) (hlen : (lrows pages).length < 9223372036854775808) (hp : ∀ r ∈ lrows pages, PageOk r) (hval : validB last0 (lrows pages) = false) : Vi.Fn Tryd.prog G 7 [.agg [.int .i64 last0, pages], l, st, .int .i64 last] (errR 270) := by
  refine fn_body (fun _ => .iso) Tryd.func7 rfl ?_
  refine vc_norm (env' := (_ :: _ :: _ :: _ :: _ :: _ :: _ :: _ :: _ :: _ :: _ :: _ :: _ :: _ :: _ :: _ :: _ :: _ :: _ :: _ :: _ :: _ :: _ :: _ :: _ :: _ :: _ :: _ :: _ :: _ :: _ :: _ :: _ :: _ :: _ :: _ :: _ :: _ :: _ :: _ :: _ :: _ :: _ :: _ :: _ :: _ :: _ :: _ :: _ :: _ :: _ :: _ :: _ :: _ :: _ :: _ :: _ :: _ :: _ :: _ :: _ :: _ :: _ :: _ :: _ :: _ :: _ :: _ :: _ :: _ :: _ :: _ :: _ :: _ :: _ :: _ :: _ :: _ :: _ :: _ :: _ :: _ :: _ :: _ :: _ :: _ :: _ :: _ :: _ :: _ :: _ :: _ :: _ :: _ :: _ :: _ :: _ :: _ :: _ :: _ :: _ :: _ :: _ :: _ :: _ :: _ :: _ :: _ :: _ :: _ :: _ :: _ :: _ :: _ :: _ :: _ :: _ :: _ :: _ :: _ :: _ :: _ :: _ :: _ :: _ :: _ :: _ :: _ :: _ :: _ :: _ :: _ :: _ :: _ :: _ :: _ :: _ :: _ :: _ :: _ :: _ :: _ :: _ :: _ :: _ :: _ :: _ :: _ :: _ :: _ :: _ :: _ :: _ :: _ :: _ :: _ :: _ :: _ :: _ :: _ :: _ :: _ :: _ :: _ :: _ :: _ :: _ :: _ :: _ :: _ :: _ :: _ :: _ :: _ :: _ :: _ :: _ :: _ :: _ :: _ :: _ :: _ :: _ :: _ :: _ :: _ :: _ :: _ :: _ :: _ :: _ :: _ :: _ :: _ :: _ :: _ :: _ :: _ :: _ :: _ :: _ :: _ :: _ :: _ :: _ :: _ :: _ :: _ :: _ :: _ :: _ :: _ :: _ :: _ :: _ :: _ :: _ :: _ :: _ :: _ :: _ :: _ :: _ :: _ :: _ :: _ :: _ :: _ :: _ :: _ :: [])) (H' := []) rfl rfl ?_
  refine vc_seq ?_
  refine w_region ?_
  refine w_opH (v := .ptr 0 0 0) (env' := _) (H2 := [.arr 24 2 [[_, _]]]) rfl rfl rfl rfl (fun _ h => h) (nv_t7v rfl ?_)
  refine w_opH (v := .ptr 1 0 0) (env' := _) (H2 := [.arr 24 2 [[_, _]], .arr 24 2 [[_, _]]]) rfl rfl rfl rfl (fun _ h => h) (nv_t7v rfl ?_)
  refine w_opN (env' := _) rfl rfl rfl (fun _ h => h) (nv_t7v rfl ?_)
  refine w_end rfl ?_
  refine vc_seq ?_
  refine vc_seq ?_
  refine w_region ?_
  refine w_opN (v := .agg [_, _]) (env' := _) rfl rfl rfl (fun _ h => h) (nv_t7v rfl ?_)
  refine w_callI (env' := _) rfl rfl rfl (by kernel_rfl) rfl (by repeat' first | exact mapL_nil | exact IsL.lend (by assumption) | exact IsL.lend0 (by assumption) | refine mapL_cons ?_ ?_ | refine mapL_app ?_ ?_ | refine lend_agg ?_ | refine lend_cloG ?_ | exact lend0_ptr rfl rfl (by simp [isVal_int, isVal_bool, isVal_str, isVal_nils, isVal_loose, *]) | exact lend_ptr rfl rfl (by simp [isVal_int, isVal_bool, isVal_str, isVal_nils, isVal_loose, *]) | rfl) (t16 G last0 pages hL hlen hp) rfl (nv_t7v rfl ?_)
  refine w_opN (env' := _) rfl rfl rfl (fun _ h => h) (nv_t7v rfl ?_)
  refine w_end rfl ?_
  refine vc_cond rfl (fun hc20 => ?_) (fun hc20 => ?_)
  · skip
    refine vc_seq ?_
    refine w_region ?_
    refine w_opN (v := .agg [_, _]) (env' := _) rfl rfl rfl (fun _ h => h) (nv_t7v rfl ?_)
    refine w_op0N (H2 := [.arr 24 2 [[_, _]], .arr 24 2 [[_, _]]]) rfl rfl rfl (fun _ h => h) ?_
    refine w_opN (env' := _) rfl rfl rfl (fun _ h => h) (nv_t7v rfl ?_)
    refine w_end rfl ?_
    refine vc_ret ?_
    refine r_then ?_
    refine r_fn rfl ?_
    -- return 0
    show retv _ _ = some (errR 270)
    rfl
  · skip
    rw [hval] at hc20
    cases hc20
theorem nv_t7m {P : Program} {G : Glob} {md : Oper → Md} {ops : Array Oper} {r : List Oper} {env : List AV} {x0 x1 x2 x3 x4 x5 x6 x7 x8 x9 x10 x11 x12 x13 x14 x15 x16 x17 x18 x19 x20 x21 x22 x23 x24 x25 x26 x27 x28 x29 x30 x31 x32 x33 x34 x35 x36 x37 x38 x39 x40 x41 x42 x43 x44 x45 x46 x47 x48 x49 x50 x51 x52 x53 x54 x55 x56 x57 x58 x59 x60 x61 x62 x63 x64 x65 x66 x67 x68 x69 x70 x71 x72 x73 x74 x75 x76 x77 x78 x79 x80 x81 x82 x83 x84 x85 x86 x87 x88 x89 x90 x91 x92 x93 x94 x95 x96 x97 x98 x99 x100 x101 x102 x103 x104 x105 x106 x107 x108 x109 x110 x111 x112 x113 x114 x115 x116 x117 x118 x119 x120 x121 x122 x123 x124 x125 x126 x127 x128 x129 x130 x131 x132 x133 x134 x135 x136 x137 x138 x139 x140 x141 x142 x143 x144 x145 x146 x147 x148 x149 x150 x151 x152 x153 x154 x155 x156 x157 x158 x159 x160 x161 x162 x163 x164 x165 x166 x167 x168 x169 x170 x171 x172 x173 x174 x175 x176 x177 x178 x179 x180 x181 x182 x183 x184 x185 x186 x187 x188 x189 x190 x191 x192 x193 x194 x195 x196 x197 x198 x199 x200 x201 x202 x203 x204 x205 x206 x207 x208 x209 x210 x211 x212 x213 x214 x215 x216 x217 x218 x219 x220 x221 x222 x223 x224 x225 x226 x227 x228 x229 : AV} {H : Hp} {K : List AV → Hp → Prop} (he : env = (x0 :: x1 :: x2 :: x3 :: x4 :: x5 :: x6 :: x7 :: x8 :: x9 :: x10 :: x11 :: x12 :: x13 :: x14 :: x15 :: x16 :: x17 :: x18 :: x19 :: x20 :: x21 :: x22 :: x23 :: x24 :: x25 :: x26 :: x27 :: x28 :: x29 :: x30 :: x31 :: x32 :: x33 :: x34 :: x35 :: x36 :: x37 :: x38 :: x39 :: x40 :: x41 :: x42 :: x43 :: x44 :: x45 :: x46 :: x47 :: x48 :: x49 :: x50 :: x51 :: x52 :: x53 :: x54 :: x55 :: x56 :: x57 :: x58 :: x59 :: x60 :: x61 :: x62 :: x63 :: x64 :: x65 :: x66 :: x67 :: x68 :: x69 :: x70 :: x71 :: x72 :: x73 :: x74 :: x75 :: x76 :: x77 :: x78 :: x79 :: x80 :: x81 :: x82 :: x83 :: x84 :: x85 :: x86 :: x87 :: x88 :: x89 :: x90 :: x91 :: x92 :: x93 :: x94 :: x95 :: x96 :: x97 :: x98 :: x99 :: x100 :: x101 :: x102 :: x103 :: x104 :: x105 :: x106 :: x107 :: x108 :: x109 :: x110 :: x111 :: x112 :: x113 :: x114 :: x115 :: x116 :: x117 :: x118 :: x119 :: x120 :: x121 :: x122 :: x123 :: x124 :: x125 :: x126 :: x127 :: x128 :: x129 :: x130 :: x131 :: x132 :: x133 :: x134 :: x135 :: x136 :: x137 :: x138 :: x139 :: x140 :: x141 :: x142 :: x143 :: x144 :: x145 :: x146 :: x147 :: x148 :: x149 :: x150 :: x151 :: x152 :: x153 :: x154 :: x155 :: x156 :: x157 :: x158 :: x159 :: x160 :: x161 :: x162 :: x163 :: x164 :: x165 :: x166 :: x167 :: x168 :: x169 :: x170 :: x171 :: x172 :: x173 :: x174 :: x175 :: x176 :: x177 :: x178 :: x179 :: x180 :: x181 :: x182 :: x183 :: x184 :: x185 :: x186 :: x187 :: x188 :: x189 :: x190 :: x191 :: x192 :: x193 :: x194 :: x195 :: x196 :: x197 :: x198 :: x199 :: x200 :: x201 :: x202 :: x203 :: x204 :: x205 :: x206 :: x207 :: x208 :: x209 :: x210 :: x211 :: x212 :: x213 :: x214 :: x215 :: x216 :: x217 :: x218 :: x219 :: x220 :: x221 :: x222 :: x223 :: x224 :: x225 :: x226 :: x227 :: x228 :: x229 :: [])) (h : vops P G md ops r (x0 :: x1 :: x2 :: x3 :: x4 :: x5 :: x6 :: x7 :: x8 :: x9 :: x10 :: x11 :: x12 :: x13 :: x14 :: x15 :: x16 :: x17 :: x18 :: x19 :: x20 :: x21 :: x22 :: x23 :: x24 :: x25 :: x26 :: x27 :: x28 :: x29 :: x30 :: x31 :: x32 :: x33 :: x34 :: x35 :: x36 :: x37 :: x38 :: x39 :: x40 :: x41 :: x42 :: x43 :: x44 :: x45 :: x46 :: x47 :: x48 :: x49 :: x50 :: x51 :: x52 :: x53 :: x54 :: x55 :: x56 :: x57 :: x58 :: x59 :: x60 :: x61 :: x62 :: x63 :: x64 :: x65 :: x66 :: x67 :: x68 :: x69 :: x70 :: x71 :: x72 :: x73 :: x74 :: x75 :: x76 :: x77 :: x78 :: x79 :: x80 :: x81 :: x82 :: x83 :: x84 :: x85 :: x86 :: x87 :: x88 :: x89 :: x90 :: x91 :: x92 :: x93 :: x94 :: x95 :: x96 :: x97 :: x98 :: x99 :: x100 :: x101 :: x102 :: x103 :: x104 :: x105 :: x106 :: x107 :: x108 :: x109 :: x110 :: x111 :: x112 :: x113 :: x114 :: x115 :: x116 :: x117 :: x118 :: x119 :: x120 :: x121 :: x122 :: x123 :: x124 :: x125 :: x126 :: x127 :: x128 :: x129 :: x130 :: x131 :: x132 :: x133 :: x134 :: x135 :: x136 :: x137 :: x138 :: x139 :: x140 :: x141 :: x142 :: x143 :: x144 :: x145 :: x146 :: x147 :: x148 :: x149 :: x150 :: x151 :: x152 :: x153 :: x154 :: x155 :: x156 :: x157 :: x158 :: x159 :: x160 :: x161 :: x162 :: x163 :: x164 :: x165 :: x166 :: x167 :: x168 :: x169 :: x170 :: x171 :: x172 :: x173 :: x174 :: x175 :: x176 :: x177 :: x178 :: x179 :: x180 :: x181 :: x182 :: x183 :: x184 :: x185 :: x186 :: x187 :: x188 :: x189 :: x190 :: x191 :: x192 :: x193 :: x194 :: x195 :: x196 :: x197 :: x198 :: x199 :: x200 :: x201 :: x202 :: x203 :: x204 :: x205 :: x206 :: x207 :: x208 :: x209 :: x210 :: x211 :: x212 :: x213 :: x214 :: x215 :: x216 :: x217 :: x218 :: x219 :: x220 :: x221 :: x222 :: x223 :: x224 :: x225 :: x226 :: x227 :: x228 :: x229 :: []) H K) : vops P G md ops r env H K := by rw [he]; exact h
theorem nd_t7m {P : Program} {G : Glob} {md : Oper → Md} {ops : Array Oper} {r : List Oper} {env : List AV} {x0 x1 x2 x3 x4 x5 x6 x7 x8 x9 x10 x11 x12 x13 x14 x15 x16 x17 x18 x19 x20 x21 x22 x23 x24 x25 x26 x27 x28 x29 x30 x31 x32 x33 x34 x35 x36 x37 x38 x39 x40 x41 x42 x43 x44 x45 x46 x47 x48 x49 x50 x51 x52 x53 x54 x55 x56 x57 x58 x59 x60 x61 x62 x63 x64 x65 x66 x67 x68 x69 x70 x71 x72 x73 x74 x75 x76 x77 x78 x79 x80 x81 x82 x83 x84 x85 x86 x87 x88 x89 x90 x91 x92 x93 x94 x95 x96 x97 x98 x99 x100 x101 x102 x103 x104 x105 x106 x107 x108 x109 x110 x111 x112 x113 x114 x115 x116 x117 x118 x119 x120 x121 x122 x123 x124 x125 x126 x127 x128 x129 x130 x131 x132 x133 x134 x135 x136 x137 x138 x139 x140 x141 x142 x143 x144 x145 x146 x147 x148 x149 x150 x151 x152 x153 x154 x155 x156 x157 x158 x159 x160 x161 x162 x163 x164 x165 x166 x167 x168 x169 x170 x171 x172 x173 x174 x175 x176 x177 x178 x179 x180 x181 x182 x183 x184 x185 x186 x187 x188 x189 x190 x191 x192 x193 x194 x195 x196 x197 x198 x199 x200 x201 x202 x203 x204 x205 x206 x207 x208 x209 x210 x211 x212 x213 x214 x215 x216 x217 x218 x219 x220 x221 x222 x223 x224 x225 x226 x227 x228 x229 : AV} {H : Hp} {K : List AV → Hp → Prop} (he : env = (x0 :: x1 :: x2 :: x3 :: x4 :: x5 :: x6 :: x7 :: x8 :: x9 :: x10 :: x11 :: x12 :: x13 :: x14 :: x15 :: x16 :: x17 :: x18 :: x19 :: x20 :: x21 :: x22 :: x23 :: x24 :: x25 :: x26 :: x27 :: x28 :: x29 :: x30 :: x31 :: x32 :: x33 :: x34 :: x35 :: x36 :: x37 :: x38 :: x39 :: x40 :: x41 :: x42 :: x43 :: x44 :: x45 :: x46 :: x47 :: x48 :: x49 :: x50 :: x51 :: x52 :: x53 :: x54 :: x55 :: x56 :: x57 :: x58 :: x59 :: x60 :: x61 :: x62 :: x63 :: x64 :: x65 :: x66 :: x67 :: x68 :: x69 :: x70 :: x71 :: x72 :: x73 :: x74 :: x75 :: x76 :: x77 :: x78 :: x79 :: x80 :: x81 :: x82 :: x83 :: x84 :: x85 :: x86 :: x87 :: x88 :: x89 :: x90 :: x91 :: x92 :: x93 :: x94 :: x95 :: x96 :: x97 :: x98 :: x99 :: x100 :: x101 :: x102 :: x103 :: x104 :: x105 :: x106 :: x107 :: x108 :: x109 :: x110 :: x111 :: x112 :: x113 :: x114 :: x115 :: x116 :: x117 :: x118 :: x119 :: x120 :: x121 :: x122 :: x123 :: x124 :: x125 :: x126 :: x127 :: x128 :: x129 :: x130 :: x131 :: x132 :: x133 :: x134 :: x135 :: x136 :: x137 :: x138 :: x139 :: x140 :: x141 :: x142 :: x143 :: x144 :: x145 :: x146 :: x147 :: x148 :: x149 :: x150 :: x151 :: x152 :: x153 :: x154 :: x155 :: x156 :: x157 :: x158 :: x159 :: x160 :: x161 :: x162 :: x163 :: x164 :: x165 :: x166 :: x167 :: x168 :: x169 :: x170 :: x171 :: x172 :: x173 :: x174 :: x175 :: x176 :: x177 :: x178 :: x179 :: x180 :: x181 :: x182 :: x183 :: x184 :: x185 :: x186 :: x187 :: x188 :: x189 :: x190 :: x191 :: x192 :: x193 :: x194 :: x195 :: x196 :: x197 :: x198 :: x199 :: x200 :: x201 :: x202 :: x203 :: x204 :: x205 :: x206 :: x207 :: x208 :: x209 :: x210 :: x211 :: x212 :: x213 :: x214 :: x215 :: x216 :: x217 :: x218 :: x219 :: x220 :: x221 :: x222 :: x223 :: x224 :: x225 :: x226 :: x227 :: x228 :: x229 :: [])) (h : vopsD P G md ops r (x0 :: x1 :: x2 :: x3 :: x4 :: x5 :: x6 :: x7 :: x8 :: x9 :: x10 :: x11 :: x12 :: x13 :: x14 :: x15 :: x16 :: x17 :: x18 :: x19 :: x20 :: x21 :: x22 :: x23 :: x24 :: x25 :: x26 :: x27 :: x28 :: x29 :: x30 :: x31 :: x32 :: x33 :: x34 :: x35 :: x36 :: x37 :: x38 :: x39 :: x40 :: x41 :: x42 :: x43 :: x44 :: x45 :: x46 :: x47 :: x48 :: x49 :: x50 :: x51 :: x52 :: x53 :: x54 :: x55 :: x56 :: x57 :: x58 :: x59 :: x60 :: x61 :: x62 :: x63 :: x64 :: x65 :: x66 :: x67 :: x68 :: x69 :: x70 :: x71 :: x72 :: x73 :: x74 :: x75 :: x76 :: x77 :: x78 :: x79 :: x80 :: x81 :: x82 :: x83 :: x84 :: x85 :: x86 :: x87 :: x88 :: x89 :: x90 :: x91 :: x92 :: x93 :: x94 :: x95 :: x96 :: x97 :: x98 :: x99 :: x100 :: x101 :: x102 :: x103 :: x104 :: x105 :: x106 :: x107 :: x108 :: x109 :: x110 :: x111 :: x112 :: x113 :: x114 :: x115 :: x116 :: x117 :: x118 :: x119 :: x120 :: x121 :: x122 :: x123 :: x124 :: x125 :: x126 :: x127 :: x128 :: x129 :: x130 :: x131 :: x132 :: x133 :: x134 :: x135 :: x136 :: x137 :: x138 :: x139 :: x140 :: x141 :: x142 :: x143 :: x144 :: x145 :: x146 :: x147 :: x148 :: x149 :: x150 :: x151 :: x152 :: x153 :: x154 :: x155 :: x156 :: x157 :: x158 :: x159 :: x160 :: x161 :: x162 :: x163 :: x164 :: x165 :: x166 :: x167 :: x168 :: x169 :: x170 :: x171 :: x172 :: x173 :: x174 :: x175 :: x176 :: x177 :: x178 :: x179 :: x180 :: x181 :: x182 :: x183 :: x184 :: x185 :: x186 :: x187 :: x188 :: x189 :: x190 :: x191 :: x192 :: x193 :: x194 :: x195 :: x196 :: x197 :: x198 :: x199 :: x200 :: x201 :: x202 :: x203 :: x204 :: x205 :: x206 :: x207 :: x208 :: x209 :: x210 :: x211 :: x212 :: x213 :: x214 :: x215 :: x216 :: x217 :: x218 :: x219 :: x220 :: x221 :: x222 :: x223 :: x224 :: x225 :: x226 :: x227 :: x228 :: x229 :: []) H K) : vopsD P G md ops r env H K := by rw [he]; exact h
set_option maxHeartbeats 4000000 in
theorem t7m (G : Glob) (last0 last : Int) (l st : AV) (tg : Tg) (rows : List (List AV)) (hl : IsL l) (hS : IsL st) (hlen : rows.length < 9223372036854775808) (hll : (lrows l).length ≤ 1000) (hsl : (lrows st).length ≤ 1000) (hp : ∀ r ∈ rows, PageOk r) (hpl : ∀ r ∈ lrows l, PieceOk r) (hps : ∀ r ∈ lrows st, ∃ k, r = [.int .i64 k]) (hval : validB last0 rows = true) : Vi.Fn Tryd.prog G 7 [.agg [.int .i64 last0, .list tg rows], l, st, .int .i64 last] (withR last0 rows (lrows l) (lrows st) last) := by
  have hL : IsL (.list tg rows) := .inr ⟨tg, rows, rfl⟩
  obtain ⟨hn120, hne, hPI, hSh⟩ := valid_pages hval hp
  refine fn_body (fun o => match o.dst with | some 166 => .shr | _ => .iso) Tryd.func7 rfl ?_
  refine vc_norm (env' := (_ :: _ :: _ :: _ :: _ :: _ :: _ :: _ :: _ :: _ :: _ :: _ :: _ :: _ :: _ :: _ :: _ :: _ :: _ :: _ :: _ :: _ :: _ :: _ :: _ :: _ :: _ :: _ :: _ :: _ :: _ :: _ :: _ :: _ :: _ :: _ :: _ :: _ :: _ :: _ :: _ :: _ :: _ :: _ :: _ :: _ :: _ :: _ :: _ :: _ :: _ :: _ :: _ :: _ :: _ :: _ :: _ :: _ :: _ :: _ :: _ :: _ :: _ :: _ :: _ :: _ :: _ :: _ :: _ :: _ :: _ :: _ :: _ :: _ :: _ :: _ :: _ :: _ :: _ :: _ :: _ :: _ :: _ :: _ :: _ :: _ :: _ :: _ :: _ :: _ :: _ :: _ :: _ :: _ :: _ :: _ :: _ :: _ :: _ :: _ :: _ :: _ :: _ :: _ :: _ :: _ :: _ :: _ :: _ :: _ :: _ :: _ :: _ :: _ :: _ :: _ :: _ :: _ :: _ :: _ :: _ :: _ :: _ :: _ :: _ :: _ :: _ :: _ :: _ :: _ :: _ :: _ :: _ :: _ :: _ :: _ :: _ :: _ :: _ :: _ :: _ :: _ :: _ :: _ :: _ :: _ :: _ :: _ :: _ :: _ :: _ :: _ :: _ :: _ :: _ :: _ :: _ :: _ :: _ :: _ :: _ :: _ :: _ :: _ :: _ :: _ :: _ :: _ :: _ :: _ :: _ :: _ :: _ :: _ :: _ :: _ :: _ :: _ :: _ :: _ :: _ :: _ :: _ :: _ :: _ :: _ :: _ :: _ :: _ :: _ :: _ :: _ :: _ :: _ :: _ :: _ :: _ :: _ :: _ :: _ :: _ :: _ :: _ :: _ :: _ :: _ :: _ :: _ :: _ :: _ :: _ :: _ :: _ :: _ :: _ :: _ :: _ :: _ :: _ :: _ :: _ :: _ :: _ :: _ :: _ :: _ :: _ :: _ :: _ :: _ :: [])) (H' := []) rfl rfl ?_
  refine vc_seq ?_
  refine w_region ?_
  refine w_opH (v := .ptr 0 0 0) (env' := _) (H2 := [.arr 24 2 [[_, _]]]) rfl rfl rfl rfl (fun _ h => h) (nv_t7m rfl ?_)
  refine w_opH (v := .ptr 1 0 0) (env' := _) (H2 := [.arr 24 2 [[_, _]], .arr 24 2 [[_, _]]]) rfl rfl rfl rfl (fun _ h => h) (nv_t7m rfl ?_)
  refine w_opN (env' := _) rfl rfl rfl (fun _ h => h) (nv_t7m rfl ?_)
  refine w_end rfl ?_
  refine vc_seq ?_
  refine vc_seq ?_
  refine w_region ?_
  refine w_opN (v := .agg [_, _]) (env' := _) rfl rfl rfl (fun _ h => h) (nv_t7m rfl ?_)
  refine w_callI (env' := _) rfl rfl rfl (by kernel_rfl) rfl (by repeat' first | exact mapL_nil | exact IsL.lend (by assumption) | exact IsL.lend0 (by assumption) | refine mapL_cons ?_ ?_ | refine mapL_app ?_ ?_ | refine lend_agg ?_ | refine lend_cloG ?_ | exact lend0_ptr rfl rfl (by simp [isVal_int, isVal_bool, isVal_str, isVal_nils, isVal_loose, *]) | exact lend_ptr rfl rfl (by simp [isVal_int, isVal_bool, isVal_str, isVal_nils, isVal_loose, *]) | rfl) (t16 G last0 (.list tg rows) hL hlen hp) rfl (nv_t7m rfl ?_)
  refine w_opN (env' := _) rfl rfl rfl (fun _ h => h) (nv_t7m rfl ?_)
  refine w_end rfl ?_
  refine vc_cond rfl (fun hc20 => ?_) (fun hc20 => ?_)
  · skip
    change (!validB last0 rows) = true at hc20
    rw [hval] at hc20
    cases hc20
  · skip
    refine vc_skip ?_
    refine n_then ?_
    refine vc_seq ?_
    refine w_region ?_
    refine w_opN (env' := _) rfl rfl rfl (fun _ h => h) (nv_t7m rfl ?_)
    refine w_end rfl ?_
    refine vc_seq ?_
    refine vc_seq ?_
    refine w_region ?_
    refine w_opN (env' := _) rfl rfl rfl (fun _ h => h) (nv_t7m rfl ?_)
    refine w_end rfl ?_
    refine vc_block ?_
    refine vc_loopN (α := { a : Nat × List (List AV) // Inv2 (lrows l) a.1 a.2 }) (fun i => (none :: none :: none :: none :: none :: none :: none :: none :: none :: (some .undef) :: (some (pval 2 i.1.2)) :: (some (.int .i64 (i.1.1 : Nat))) :: (some .undef) :: none :: none :: none :: none :: none :: none :: none :: none :: none :: (some .undef) :: (some .undef) :: (some .undef) :: (some .undef) :: (some .undef) :: (some .undef) :: (some .undef) :: (some .undef) :: (some .undef) :: (some .undef) :: (some .undef) :: (some .undef) :: (some .undef) :: (some .undef) :: (some .undef) :: (some .undef) :: (some .undef) :: (some .undef) :: (some .undef) :: (some .undef) :: (some .undef) :: (some .undef) :: (some .undef) :: (some .undef) :: (some .undef) :: (some .undef) :: (some .undef) :: (some .undef) :: (some .undef) :: (some .undef) :: (some .undef) :: (some .undef) :: (some .undef) :: (some .undef) :: (some .undef) :: (some .undef) :: (some .undef) :: (some .undef) :: (some .undef) :: (some .undef) :: (some .undef) :: (some .undef) :: (some .undef) :: (some .undef) :: (some .undef) :: (some .undef) :: (some .undef) :: (some .undef) :: (some .undef) :: (some .undef) :: (some .undef) :: (some .undef) :: (some .undef) :: (some .undef) :: (some .undef) :: (some .undef) :: (some .undef) :: (some .undef) :: (some .undef) :: (some .undef) :: (some .undef) :: (some .undef) :: (some .undef) :: (some .undef) :: (some .undef) :: (some .undef) :: (some .undef) :: (some .undef) :: (some .undef) :: (some .undef) :: (some .undef) :: (some .undef) :: (some .undef) :: (some .undef) :: (some .undef) :: (some .undef) :: (some .undef) :: (some .undef) :: (some .undef) :: (some .undef) :: (some .undef) :: (some .undef) :: (some .undef) :: (some .undef) :: (some .undef) :: (some .undef) :: (some .undef) :: (some .undef) :: (some .undef) :: (some .undef) :: (some .undef) :: (some .undef) :: (some .undef) :: (some .undef) :: (some .undef) :: (some .undef) :: (some .undef) :: (some .undef) :: (some .undef) :: (some .undef) :: (some .undef) :: (some .undef) :: (some .undef) :: (some .undef) :: (some .undef) :: (some .undef) :: (some .undef) :: none :: none :: none :: none :: none :: none :: none :: none :: none :: none :: none :: none :: none :: none :: none :: none :: none :: none :: none :: none :: none :: none :: none :: none :: none :: none :: none :: none :: none :: none :: none :: none :: none :: none :: none :: none :: none :: none :: none :: none :: none :: none :: none :: none :: none :: none :: none :: none :: none :: none :: none :: none :: none :: none :: none :: none :: none :: none :: none :: none :: none :: none :: none :: none :: none :: none :: none :: none :: none :: none :: none :: none :: none :: none :: none :: none :: none :: none :: none :: none :: none :: none :: none :: none :: none :: none :: none :: none :: none :: none :: none :: none :: none :: none :: none :: none :: none :: none :: none :: none :: none :: [])) (fun i => [VO.arr 24 2 [[.int .i64 last0, .list tg rows]], VO.arr 24 2 [[.int .i64 0, .nils]], pobj 3 1 i.1.2]) (fun i => (lrows l).length - i.1.1) ⟨(0, []), inv2_zero _⟩ [0, 1, 2] ⟨(by first | exact .inr rfl | exact .inr (IsL.ren1 (by assumption))), (by first | exact .inr rfl | exact .inr (IsL.ren1 (by assumption))), (by first | exact .inr rfl | exact .inr (IsL.ren1 (by assumption))), (by first | exact .inr rfl | exact .inr (IsL.ren1 (by assumption))), (by first | exact .inr rfl | exact .inr (IsL.ren1 (by assumption))), .inl rfl, .inl rfl, .inl rfl, (by first | exact .inr rfl | exact .inr (IsL.ren1 (by assumption))), .inl rfl, (by first | exact .inr rfl | exact .inr (IsL.ren1 (by assumption))), (by first | exact .inr rfl | exact .inr (IsL.ren1 (by assumption))), .inl rfl, .inl rfl, .inl rfl, .inl rfl, .inl rfl, .inl rfl, (by first | exact .inr rfl | exact .inr (IsL.ren1 (by assumption))), (by first | exact .inr rfl | exact .inr (IsL.ren1 (by assumption))), (by first | exact .inr rfl | exact .inr (IsL.ren1 (by assumption))), .inl rfl, .inl rfl, .inl rfl, .inl rfl, .inl rfl, .inl rfl, .inl rfl, .inl rfl, .inl rfl, .inl rfl, .inl rfl, .inl rfl, .inl rfl, .inl rfl, .inl rfl, .inl rfl, .inl rfl, .inl rfl, .inl rfl, .inl rfl, .inl rfl, .inl rfl, .inl rfl, .inl rfl, .inl rfl, .inl rfl, .inl rfl, .inl rfl, .inl rfl, .inl rfl, .inl rfl, .inl rfl, .inl rfl, .inl rfl, .inl rfl, .inl rfl, .inl rfl, .inl rfl, .inl rfl, .inl rfl, .inl rfl, .inl rfl, .inl rfl, .inl rfl, .inl rfl, .inl rfl, .inl rfl, .inl rfl, .inl rfl, .inl rfl, .inl rfl, .inl rfl, .inl rfl, .inl rfl, .inl rfl, .inl rfl, .inl rfl, .inl rfl, .inl rfl, .inl rfl, .inl rfl, .inl rfl, .inl rfl, .inl rfl, .inl rfl, .inl rfl, .inl rfl, .inl rfl, .inl rfl, .inl rfl, .inl rfl, .inl rfl, .inl rfl, .inl rfl, .inl rfl, .inl rfl, .inl rfl, .inl rfl, .inl rfl, .inl rfl, .inl rfl, .inl rfl, .inl rfl, .inl rfl, .inl rfl, .inl rfl, .inl rfl, .inl rfl, .inl rfl, .inl rfl, .inl rfl, .inl rfl, .inl rfl, .inl rfl, .inl rfl, .inl rfl, .inl rfl, .inl rfl, .inl rfl, .inl rfl, .inl rfl, .inl rfl, .inl rfl, .inl rfl, .inl rfl, .inl rfl, .inl rfl, .inl rfl, .inl rfl, .inl rfl, .inl rfl, .inl rfl, .inl rfl, .inl rfl, .inl rfl, .inl rfl, .inl rfl, .inl rfl, .inl rfl, .inl rfl, .inl rfl, .inl rfl, .inl rfl, .inl rfl, .inl rfl, .inl rfl, .inl rfl, .inl rfl, .inl rfl, .inl rfl, .inl rfl, .inl rfl, .inl rfl, .inl rfl, .inl rfl, .inl rfl, .inl rfl, .inl rfl, .inl rfl, .inl rfl, .inl rfl, .inl rfl, .inl rfl, .inl rfl, .inl rfl, .inl rfl, .inl rfl, .inl rfl, .inl rfl, .inl rfl, .inl rfl, .inl rfl, .inl rfl, .inl rfl, .inl rfl, .inl rfl, .inl rfl, .inl rfl, .inl rfl, .inl rfl, .inl rfl, .inl rfl, .inl rfl, .inl rfl, .inl rfl, .inl rfl, .inl rfl, .inl rfl, .inl rfl, .inl rfl, .inl rfl, .inl rfl, .inl rfl, .inl rfl, .inl rfl, .inl rfl, .inl rfl, .inl rfl, .inl rfl, .inl rfl, .inl rfl, .inl rfl, .inl rfl, .inl rfl, .inl rfl, .inl rfl, .inl rfl, .inl rfl, .inl rfl, .inl rfl, .inl rfl, .inl rfl, .inl rfl, .inl rfl, .inl rfl, .inl rfl, .inl rfl, .inl rfl, .inl rfl, .inl rfl, .inl rfl, .inl rfl, .inl rfl, .inl rfl, .inl rfl, .inl rfl, .inl rfl, .inl rfl, .inl rfl, trivial⟩ (by decide) (fun _ h => absurd h (by omega)) ⟨.inr ⟨_, rfl, ren_arr rfl⟩, .inr ⟨_, rfl, ren_arr rfl⟩, .inl rfl, trivial⟩ (fun i => ⟨Nat.zero_le _, ⟨(by first | exact trivial | exact IsL.valN (by assumption) | exact .inr ⟨_, rfl, rfl⟩ | (intro x hx; simp at hx; rcases hx with rfl | rfl <;> first | trivial | exact IsL.leafN (by assumption)) | (simp [valN, leafN, cellsN, IsL.leafN, Named, live, VO.live, *]; done)), (by first | exact trivial | exact IsL.valN (by assumption) | exact .inr ⟨_, rfl, rfl⟩ | (intro x hx; simp at hx; rcases hx with rfl | rfl <;> first | trivial | exact IsL.leafN (by assumption)) | (simp [valN, leafN, cellsN, IsL.leafN, Named, live, VO.live, *]; done)), (by first | exact trivial | exact IsL.valN (by assumption) | exact .inr ⟨_, rfl, rfl⟩ | (intro x hx; simp at hx; rcases hx with rfl | rfl <;> first | trivial | exact IsL.leafN (by assumption)) | (simp [valN, leafN, cellsN, IsL.leafN, Named, live, VO.live, *]; done)), (by first | exact trivial | exact IsL.valN (by assumption) | exact .inr ⟨_, rfl, rfl⟩ | (intro x hx; simp at hx; rcases hx with rfl | rfl <;> first | trivial | exact IsL.leafN (by assumption)) | (simp [valN, leafN, cellsN, IsL.leafN, Named, live, VO.live, *]; done)), (by first | exact trivial | exact IsL.valN (by assumption) | exact .inr ⟨_, rfl, rfl⟩ | (intro x hx; simp at hx; rcases hx with rfl | rfl <;> first | trivial | exact IsL.leafN (by assumption)) | (simp [valN, leafN, cellsN, IsL.leafN, Named, live, VO.live, *]; done)), trivial, trivial, trivial, (by first | exact trivial | exact IsL.valN (by assumption) | exact .inr ⟨_, rfl, rfl⟩ | (intro x hx; simp at hx; rcases hx with rfl | rfl <;> first | trivial | exact IsL.leafN (by assumption)) | (simp [valN, leafN, cellsN, IsL.leafN, Named, live, VO.live, *]; done)), trivial, (pval_N rfl), (by first | exact trivial | exact IsL.valN (by assumption) | exact .inr ⟨_, rfl, rfl⟩ | (intro x hx; simp at hx; rcases hx with rfl | rfl <;> first | trivial | exact IsL.leafN (by assumption)) | (simp [valN, leafN, cellsN, IsL.leafN, Named, live, VO.live, *]; done)), trivial, trivial, trivial, trivial, trivial, trivial, (by first | exact trivial | exact IsL.valN (by assumption) | exact .inr ⟨_, rfl, rfl⟩ | (intro x hx; simp at hx; rcases hx with rfl | rfl <;> first | trivial | exact IsL.leafN (by assumption)) | (simp [valN, leafN, cellsN, IsL.leafN, Named, live, VO.live, *]; done)), (by first | exact trivial | exact IsL.valN (by assumption) | exact .inr ⟨_, rfl, rfl⟩ | (intro x hx; simp at hx; rcases hx with rfl | rfl <;> first | trivial | exact IsL.leafN (by assumption)) | (simp [valN, leafN, cellsN, IsL.leafN, Named, live, VO.live, *]; done)), (by first | exact trivial | exact IsL.valN (by assumption) | exact .inr ⟨_, rfl, rfl⟩ | (intro x hx; simp at hx; rcases hx with rfl | rfl <;> first | trivial | exact IsL.leafN (by assumption)) | (simp [valN, leafN, cellsN, IsL.leafN, Named, live, VO.live, *]; done)), trivial, trivial, trivial, trivial, trivial, trivial, trivial, trivial, trivial, trivial, trivial, trivial, trivial, trivial, trivial, trivial, trivial, trivial, trivial, trivial, trivial, trivial, trivial, trivial, trivial, trivial, trivial, trivial, trivial, trivial, trivial, trivial, trivial, trivial, trivial, trivial, trivial, trivial, trivial, trivial, trivial, trivial, trivial, trivial, trivial, trivial, trivial, trivial, trivial, trivial, trivial, trivial, trivial, trivial, trivial, trivial, trivial, trivial, trivial, trivial, trivial, trivial, trivial, trivial, trivial, trivial, trivial, trivial, trivial, trivial, trivial, trivial, trivial, trivial, trivial, trivial, trivial, trivial, trivial, trivial, trivial, trivial, trivial, trivial, trivial, trivial, trivial, trivial, trivial, trivial, trivial, trivial, trivial, trivial, trivial, trivial, trivial, trivial, trivial, trivial, trivial, trivial, trivial, trivial, trivial, trivial, trivial, trivial, trivial, trivial, trivial, trivial, trivial, trivial, trivial, trivial, trivial, trivial, trivial, trivial, trivial, trivial, trivial, trivial, trivial, trivial, trivial, trivial, trivial, trivial, trivial, trivial, trivial, trivial, trivial, trivial, trivial, trivial, trivial, trivial, trivial, trivial, trivial, trivial, trivial, trivial, trivial, trivial, trivial, trivial, trivial, trivial, trivial, trivial, trivial, trivial, trivial, trivial, trivial, trivial, trivial, trivial, trivial, trivial, trivial, trivial, trivial, trivial, trivial, trivial, trivial, trivial, trivial, trivial, trivial, trivial, trivial, trivial, trivial, trivial, trivial, trivial, trivial, trivial, trivial, trivial, trivial, trivial, trivial, trivial, trivial, trivial, trivial, trivial, trivial, trivial, trivial, trivial, trivial, trivial, trivial, trivial, trivial, trivial, trivial, trivial, trivial, trivial, trivial, trivial⟩, ⟨fun r hr x hx => (by simp at hr; subst hr; simp at hx; rcases hx with rfl | rfl <;> trivial), fun r hr x hx => (by simp at hr; subst hr; simp at hx; rcases hx with rfl | rfl <;> trivial), pobj_N i.2.inv.val, trivial⟩⟩) ?_
    rintro ⟨⟨i, pgs⟩, hI⟩ Y0 hY0
    refine vc_norm (env' := (_ :: _ :: _ :: _ :: _ :: _ :: _ :: _ :: _ :: _ :: (pval 2 pgs) :: (.int .i64 (i : Int)) :: _ :: _ :: _ :: _ :: _ :: _ :: _ :: _ :: _ :: _ :: _ :: _ :: _ :: _ :: _ :: _ :: _ :: _ :: _ :: _ :: _ :: _ :: _ :: _ :: _ :: _ :: _ :: _ :: _ :: _ :: _ :: _ :: _ :: _ :: _ :: _ :: _ :: _ :: _ :: _ :: _ :: _ :: _ :: _ :: _ :: _ :: _ :: _ :: _ :: _ :: _ :: _ :: _ :: _ :: _ :: _ :: _ :: _ :: _ :: _ :: _ :: _ :: _ :: _ :: _ :: _ :: _ :: _ :: _ :: _ :: _ :: _ :: _ :: _ :: _ :: _ :: _ :: _ :: _ :: _ :: _ :: _ :: _ :: _ :: _ :: _ :: _ :: _ :: _ :: _ :: _ :: _ :: _ :: _ :: _ :: _ :: _ :: _ :: _ :: _ :: _ :: _ :: _ :: _ :: _ :: _ :: _ :: _ :: _ :: _ :: _ :: _ :: _ :: _ :: _ :: _ :: _ :: _ :: _ :: _ :: _ :: _ :: _ :: _ :: _ :: _ :: _ :: _ :: _ :: _ :: _ :: _ :: _ :: _ :: _ :: _ :: _ :: _ :: _ :: _ :: _ :: _ :: _ :: _ :: _ :: _ :: _ :: _ :: _ :: _ :: _ :: _ :: _ :: _ :: _ :: _ :: _ :: _ :: _ :: _ :: _ :: _ :: _ :: _ :: _ :: _ :: _ :: _ :: _ :: _ :: _ :: _ :: _ :: _ :: _ :: _ :: _ :: _ :: _ :: _ :: _ :: _ :: _ :: _ :: _ :: _ :: _ :: _ :: _ :: _ :: _ :: _ :: _ :: _ :: _ :: _ :: _ :: _ :: _ :: _ :: _ :: _ :: _ :: _ :: _ :: _ :: _ :: _ :: _ :: _ :: _ :: _ :: _ :: _ :: _ :: _ :: _ :: _ :: [])) (H' := [VO.arr 24 2 [[.int .i64 last0, .list tg rows]], VO.arr 24 2 [[.int .i64 0, .nils]], pobj 3 1 pgs]) rfl rfl ?_
    replace hI : Inv2 (lrows l) i pgs := hI
    refine vc_seq ?_
    refine vc_seq ?_
    refine w_region ?_
    refine w_opN (env' := _) rfl rfl rfl (fun _ h => h) (nv_t7m rfl ?_)
    refine w_opN (env' := _) rfl rfl rfl (fun _ h => h) (nv_t7m rfl ?_)
    first | refine w_opN (env' := _) rfl rfl rfl (fun _ h => h) (nv_t7m rfl ?_) | refine x_len (env' := _) rfl rfl (by assumption) Tryd.underlying25 rfl (nv_t7m rfl ?_)
    refine w_opN (env' := _) rfl rfl rfl (fun _ h => h) (nv_t7m rfl ?_)
    refine w_end rfl ?_
    refine vc_cond rfl (fun hc25 => ?_) (fun hc25 => ?_)
    · skip
      have hlt : i < (lrows l).length := by simpa using hc25
      have hri : (lrows l)[i]? = some (lrows l)[i] := List.getElem?_eq_getElem hlt
      obtain ⟨pg, a, b, hx, hLb, hb1, hb2⟩ := hpl _ (List.getElem_mem hlt)
      rw [hx] at hri
      refine vc_skip ?_
      refine n_then ?_
      refine vc_seq ?_
      refine vc_block ?_
      refine vc_seq ?_
      refine w_region ?_
      refine w_opN (env' := _) rfl rfl rfl (fun _ h => h) (nv_t7m rfl ?_)
      refine w_opN (env' := _) rfl rfl rfl (fun _ h => h) (nv_t7m rfl ?_)
      first | refine w_opN (v := .iptr _ [_, _, _]) (env' := _) rfl rfl rfl (fun _ h => h) (nv_t7m rfl ?_) | (refine x_index rfl rfl (by assumption) rfl el25 (by omega) (by assumption) rfl (fun bo => ?_); refine nv_t7m rfl ?_)
      refine w_opN (v := .agg [_, _, _]) (env' := _) rfl rfl rfl (fun _ h => h) (nv_t7m rfl ?_)
      refine w_opH (v := .ptr 3 0 0) (env' := _) (H2 := [VO.arr 24 2 [[.int .i64 last0, .list tg rows]], VO.arr 24 2 [[.int .i64 0, .nils]], pobj 3 1 pgs, .arr 31 3 [[_, _, _]]]) rfl rfl rfl rfl (fun _ h => h) (nv_t7m rfl ?_)
      refine w_op0N (H2 := [VO.arr 24 2 [[.int .i64 last0, .list tg rows]], VO.arr 24 2 [[.int .i64 0, .nils]], pobj 3 1 pgs, .arr 31 3 [[_, _, _]]]) rfl rfl rfl (fun _ h => h) ?_
      refine w_end rfl ?_
      refine vc_seq ?_
      refine vc_seq ?_
      refine w_region ?_
      refine w_opN (v := .ptr 3 0 0) (env' := _) rfl rfl rfl (fun _ h => h) (nv_t7m rfl ?_)
      refine w_opN (env' := _) rfl rfl rfl (fun _ h => h) (nv_t7m rfl ?_)
      refine w_opN (env' := _) rfl rfl rfl (fun _ h => h) (nv_t7m rfl ?_)
      refine w_opN (env' := _) rfl rfl rfl (fun _ h => h) (nv_t7m rfl ?_)
      refine w_split 35 rfl (fun hg35 => ?_) (fun hg35 => ?_)
      · skip
        refine w_norm (env' := (_ :: _ :: _ :: _ :: _ :: _ :: _ :: _ :: _ :: _ :: _ :: _ :: _ :: _ :: _ :: _ :: _ :: _ :: _ :: _ :: _ :: _ :: _ :: _ :: _ :: _ :: _ :: _ :: _ :: _ :: _ :: _ :: _ :: _ :: _ :: _ :: _ :: _ :: _ :: _ :: _ :: _ :: _ :: _ :: _ :: _ :: _ :: _ :: _ :: _ :: _ :: _ :: _ :: _ :: _ :: _ :: _ :: _ :: _ :: _ :: _ :: _ :: _ :: _ :: _ :: _ :: _ :: _ :: _ :: _ :: _ :: _ :: _ :: _ :: _ :: _ :: _ :: _ :: _ :: _ :: _ :: _ :: _ :: _ :: _ :: _ :: _ :: _ :: _ :: _ :: _ :: _ :: _ :: _ :: _ :: _ :: _ :: _ :: _ :: _ :: _ :: _ :: _ :: _ :: _ :: _ :: _ :: _ :: _ :: _ :: _ :: _ :: _ :: _ :: _ :: _ :: _ :: _ :: _ :: _ :: _ :: _ :: _ :: _ :: _ :: _ :: _ :: _ :: _ :: _ :: _ :: _ :: _ :: _ :: _ :: _ :: _ :: _ :: _ :: _ :: _ :: _ :: _ :: _ :: _ :: _ :: _ :: _ :: _ :: _ :: _ :: _ :: _ :: _ :: _ :: _ :: _ :: _ :: _ :: _ :: _ :: _ :: _ :: _ :: _ :: _ :: _ :: _ :: _ :: _ :: _ :: _ :: _ :: _ :: _ :: _ :: _ :: _ :: _ :: _ :: _ :: _ :: _ :: _ :: _ :: _ :: _ :: _ :: _ :: _ :: _ :: _ :: _ :: _ :: _ :: _ :: _ :: _ :: _ :: _ :: _ :: _ :: _ :: _ :: _ :: _ :: _ :: _ :: _ :: _ :: _ :: _ :: _ :: _ :: _ :: _ :: _ :: _ :: _ :: _ :: _ :: _ :: _ :: _ :: _ :: _ :: _ :: _ :: _ :: _ :: [])) (H' := [VO.arr 24 2 [[.int .i64 last0, .list tg rows]], VO.arr 24 2 [[.int .i64 0, .nils]], pobj 3 1 pgs, .arr 31 3 [[_, _, _]]]) rfl rfl ?_
        refine w_skipN (env' := _) (wanted_f 35 (by kernel_rfl) rfl) rfl (nv_t7m rfl ?_)
        refine w_skipN (env' := _) (wanted_f 35 (by kernel_rfl) rfl) rfl (nv_t7m rfl ?_)
        refine w_skipN (env' := _) (wanted_f 35 (by kernel_rfl) rfl) rfl (nv_t7m rfl ?_)
        refine w_opN (env' := _) rfl rfl rfl (fun _ h => h) (nv_t7m rfl ?_)
        refine w_opN (env' := _) rfl rfl rfl (fun _ h => h) (nv_t7m rfl ?_)
        refine w_skipN (env' := _) (wanted_f 40 (by kernel_rfl) rfl) rfl (nv_t7m rfl ?_)
        refine w_skipN (env' := _) (wanted_f 40 (by kernel_rfl) rfl) rfl (nv_t7m rfl ?_)
        refine w_skipN (env' := _) (wanted_f 40 (by kernel_rfl) rfl) rfl (nv_t7m rfl ?_)
        refine w_opN (env' := _) rfl rfl rfl (fun _ h => h) (nv_t7m rfl ?_)
        refine w_opN (env' := _) rfl rfl rfl (fun _ h => h) (nv_t7m rfl ?_)
        refine w_skipN (env' := _) (wanted_f 45 (by kernel_rfl) rfl) rfl (nv_t7m rfl ?_)
        refine w_skipN (env' := _) (wanted_f 45 (by kernel_rfl) rfl) rfl (nv_t7m rfl ?_)
        refine w_skipN (env' := _) (wanted_f 45 (by kernel_rfl) rfl) rfl (nv_t7m rfl ?_)
        refine w_skipN (env' := _) (wanted_f 45 (by kernel_rfl) rfl) rfl (nv_t7m rfl ?_)
        refine w_opN (env' := _) rfl rfl rfl (fun _ h => h) (nv_t7m rfl ?_)
        refine w_opN (env' := _) rfl rfl rfl (fun _ h => h) (nv_t7m rfl ?_)
        refine w_skipN (env' := _) (wanted_f 51 (by kernel_rfl) rfl) rfl (nv_t7m rfl ?_)
        refine w_skipN (env' := _) (wanted_f 51 (by kernel_rfl) rfl) rfl (nv_t7m rfl ?_)
        refine w_skipN (env' := _) (wanted_f 51 (by kernel_rfl) rfl) rfl (nv_t7m rfl ?_)
        refine w_opN (env' := _) rfl rfl rfl (fun _ h => h) (nv_t7m rfl ?_)
        refine w_opN (env' := _) rfl rfl rfl (fun _ h => h) (nv_t7m rfl ?_)
        refine w_skipN (env' := _) (wanted_f 56 (by kernel_rfl) rfl) rfl (nv_t7m rfl ?_)
        refine w_skipN (env' := _) (wanted_f 56 (by kernel_rfl) rfl) rfl (nv_t7m rfl ?_)
        refine w_skipN (env' := _) (wanted_f 56 (by kernel_rfl) rfl) rfl (nv_t7m rfl ?_)
        refine w_skipN (env' := _) (wanted_f 56 (by kernel_rfl) rfl) rfl (nv_t7m rfl ?_)
        refine w_skipN (env' := _) (wanted_f 56 (by kernel_rfl) rfl) rfl (nv_t7m rfl ?_)
        refine w_skipN (env' := _) (wanted_f 56 (by kernel_rfl) rfl) rfl (nv_t7m rfl ?_)
        refine w_skipN (env' := _) (wanted_f 56 (by kernel_rfl) rfl) rfl (nv_t7m rfl ?_)
        refine w_opN (env' := _) rfl rfl rfl (fun _ h => h) (nv_t7m rfl ?_)
        refine w_end rfl ?_
        refine vc_true rfl ?_
        refine vc_seq ?_
        refine w_region ?_
        refine w_opN (v := .agg [_, _]) (env' := _) rfl rfl rfl (fun _ h => h) (nv_t7m rfl ?_)
        refine w_op0N (H2 := [VO.arr 24 2 [[.int .i64 last0, .list tg rows]], VO.arr 24 2 [[.int .i64 0, .nils]], pobj 3 1 pgs, .arr 31 3 [[_, _, _]]]) rfl rfl rfl (fun _ h => h) ?_
        refine w_opN (env' := _) rfl rfl rfl (fun _ h => h) (nv_t7m rfl ?_)
        refine w_end rfl ?_
        refine vc_ret ?_
        refine r_then ?_
        refine r_block ?_
        refine r_then ?_
        refine r_then ?_
        refine r_block ?_
        refine r_then ?_
        refine r_fn rfl ?_
        -- return 0
        have hk : okP [.int .i64 pg, .int .i64 a, b] = false := okP_f (by have := of_decide_eq_true hg35; omega)
        have hbad := scan_bad hI.inv hri hk
        show retv _ _ = some (withR last0 rows (lrows l) (lrows st) last)
        rw [withR, if_pos hval, hbad]
        rfl
      · skip
        refine w_norm (env' := (_ :: _ :: _ :: _ :: _ :: _ :: _ :: _ :: _ :: _ :: _ :: _ :: _ :: _ :: _ :: _ :: _ :: _ :: _ :: _ :: _ :: _ :: _ :: _ :: _ :: _ :: _ :: _ :: _ :: _ :: _ :: _ :: _ :: _ :: _ :: _ :: _ :: _ :: _ :: _ :: _ :: _ :: _ :: _ :: _ :: _ :: _ :: _ :: _ :: _ :: _ :: _ :: _ :: _ :: _ :: _ :: _ :: _ :: _ :: _ :: _ :: _ :: _ :: _ :: _ :: _ :: _ :: _ :: _ :: _ :: _ :: _ :: _ :: _ :: _ :: _ :: _ :: _ :: _ :: _ :: _ :: _ :: _ :: _ :: _ :: _ :: _ :: _ :: _ :: _ :: _ :: _ :: _ :: _ :: _ :: _ :: _ :: _ :: _ :: _ :: _ :: _ :: _ :: _ :: _ :: _ :: _ :: _ :: _ :: _ :: _ :: _ :: _ :: _ :: _ :: _ :: _ :: _ :: _ :: _ :: _ :: _ :: _ :: _ :: _ :: _ :: _ :: _ :: _ :: _ :: _ :: _ :: _ :: _ :: _ :: _ :: _ :: _ :: _ :: _ :: _ :: _ :: _ :: _ :: _ :: _ :: _ :: _ :: _ :: _ :: _ :: _ :: _ :: _ :: _ :: _ :: _ :: _ :: _ :: _ :: _ :: _ :: _ :: _ :: _ :: _ :: _ :: _ :: _ :: _ :: _ :: _ :: _ :: _ :: _ :: _ :: _ :: _ :: _ :: _ :: _ :: _ :: _ :: _ :: _ :: _ :: _ :: _ :: _ :: _ :: _ :: _ :: _ :: _ :: _ :: _ :: _ :: _ :: _ :: _ :: _ :: _ :: _ :: _ :: _ :: _ :: _ :: _ :: _ :: _ :: _ :: _ :: _ :: _ :: _ :: _ :: _ :: _ :: _ :: _ :: _ :: _ :: _ :: _ :: _ :: _ :: _ :: _ :: _ :: _ :: [])) (H' := [VO.arr 24 2 [[.int .i64 last0, .list tg rows]], VO.arr 24 2 [[.int .i64 0, .nils]], pobj 3 1 pgs, .arr 31 3 [[_, _, _]]]) rfl rfl ?_
        refine w_opN (v := .ptr 3 0 0) (env' := _) (wanted_t 35 (by kernel_rfl) rfl) rfl rfl (fun _ h => h) (nv_t7m rfl ?_)
        refine w_opN (env' := _) (wanted_t 35 (by kernel_rfl) rfl) rfl rfl (fun _ h => h) (nv_t7m rfl ?_)
        refine w_opN (env' := _) (wanted_t 35 (by kernel_rfl) rfl) rfl rfl (fun _ h => h) (nv_t7m rfl ?_)
        refine w_opN (env' := _) rfl rfl rfl (fun _ h => h) (nv_t7m rfl ?_)
        refine w_opN (env' := _) rfl rfl rfl (fun _ h => h) (nv_t7m rfl ?_)
        refine w_split 40 rfl (fun hg40 => ?_) (fun hg40 => ?_)
        · skip
          refine w_norm (env' := (_ :: _ :: _ :: _ :: _ :: _ :: _ :: _ :: _ :: _ :: _ :: _ :: _ :: _ :: _ :: _ :: _ :: _ :: _ :: _ :: _ :: _ :: _ :: _ :: _ :: _ :: _ :: _ :: _ :: _ :: _ :: _ :: _ :: _ :: _ :: _ :: _ :: _ :: _ :: _ :: _ :: _ :: _ :: _ :: _ :: _ :: _ :: _ :: _ :: _ :: _ :: _ :: _ :: _ :: _ :: _ :: _ :: _ :: _ :: _ :: _ :: _ :: _ :: _ :: _ :: _ :: _ :: _ :: _ :: _ :: _ :: _ :: _ :: _ :: _ :: _ :: _ :: _ :: _ :: _ :: _ :: _ :: _ :: _ :: _ :: _ :: _ :: _ :: _ :: _ :: _ :: _ :: _ :: _ :: _ :: _ :: _ :: _ :: _ :: _ :: _ :: _ :: _ :: _ :: _ :: _ :: _ :: _ :: _ :: _ :: _ :: _ :: _ :: _ :: _ :: _ :: _ :: _ :: _ :: _ :: _ :: _ :: _ :: _ :: _ :: _ :: _ :: _ :: _ :: _ :: _ :: _ :: _ :: _ :: _ :: _ :: _ :: _ :: _ :: _ :: _ :: _ :: _ :: _ :: _ :: _ :: _ :: _ :: _ :: _ :: _ :: _ :: _ :: _ :: _ :: _ :: _ :: _ :: _ :: _ :: _ :: _ :: _ :: _ :: _ :: _ :: _ :: _ :: _ :: _ :: _ :: _ :: _ :: _ :: _ :: _ :: _ :: _ :: _ :: _ :: _ :: _ :: _ :: _ :: _ :: _ :: _ :: _ :: _ :: _ :: _ :: _ :: _ :: _ :: _ :: _ :: _ :: _ :: _ :: _ :: _ :: _ :: _ :: _ :: _ :: _ :: _ :: _ :: _ :: _ :: _ :: _ :: _ :: _ :: _ :: _ :: _ :: _ :: _ :: _ :: _ :: _ :: _ :: _ :: _ :: _ :: _ :: _ :: _ :: _ :: [])) (H' := [VO.arr 24 2 [[.int .i64 last0, .list tg rows]], VO.arr 24 2 [[.int .i64 0, .nils]], pobj 3 1 pgs, .arr 31 3 [[_, _, _]]]) rfl rfl ?_
          refine w_skipN (env' := _) (wanted_f 40 (by kernel_rfl) rfl) rfl (nv_t7m rfl ?_)
          refine w_skipN (env' := _) (wanted_f 40 (by kernel_rfl) rfl) rfl (nv_t7m rfl ?_)
          refine w_skipN (env' := _) (wanted_f 40 (by kernel_rfl) rfl) rfl (nv_t7m rfl ?_)
          refine w_opN (env' := _) rfl rfl rfl (fun _ h => h) (nv_t7m rfl ?_)
          refine w_opN (env' := _) rfl rfl rfl (fun _ h => h) (nv_t7m rfl ?_)
          refine w_skipN (env' := _) (wanted_f 45 (by kernel_rfl) rfl) rfl (nv_t7m rfl ?_)
          refine w_skipN (env' := _) (wanted_f 45 (by kernel_rfl) rfl) rfl (nv_t7m rfl ?_)
          refine w_skipN (env' := _) (wanted_f 45 (by kernel_rfl) rfl) rfl (nv_t7m rfl ?_)
          refine w_skipN (env' := _) (wanted_f 45 (by kernel_rfl) rfl) rfl (nv_t7m rfl ?_)
          refine w_opN (env' := _) rfl rfl rfl (fun _ h => h) (nv_t7m rfl ?_)
          refine w_opN (env' := _) rfl rfl rfl (fun _ h => h) (nv_t7m rfl ?_)
          refine w_skipN (env' := _) (wanted_f 51 (by kernel_rfl) rfl) rfl (nv_t7m rfl ?_)
          refine w_skipN (env' := _) (wanted_f 51 (by kernel_rfl) rfl) rfl (nv_t7m rfl ?_)
          refine w_skipN (env' := _) (wanted_f 51 (by kernel_rfl) rfl) rfl (nv_t7m rfl ?_)
          refine w_opN (env' := _) rfl rfl rfl (fun _ h => h) (nv_t7m rfl ?_)
          refine w_opN (env' := _) rfl rfl rfl (fun _ h => h) (nv_t7m rfl ?_)
          refine w_skipN (env' := _) (wanted_f 56 (by kernel_rfl) rfl) rfl (nv_t7m rfl ?_)
          refine w_skipN (env' := _) (wanted_f 56 (by kernel_rfl) rfl) rfl (nv_t7m rfl ?_)
          refine w_skipN (env' := _) (wanted_f 56 (by kernel_rfl) rfl) rfl (nv_t7m rfl ?_)
          refine w_skipN (env' := _) (wanted_f 56 (by kernel_rfl) rfl) rfl (nv_t7m rfl ?_)
          refine w_skipN (env' := _) (wanted_f 56 (by kernel_rfl) rfl) rfl (nv_t7m rfl ?_)
          refine w_skipN (env' := _) (wanted_f 56 (by kernel_rfl) rfl) rfl (nv_t7m rfl ?_)
          refine w_skipN (env' := _) (wanted_f 56 (by kernel_rfl) rfl) rfl (nv_t7m rfl ?_)
          refine w_opN (env' := _) rfl rfl rfl (fun _ h => h) (nv_t7m rfl ?_)
          refine w_end rfl ?_
          refine vc_true rfl ?_
          refine vc_seq ?_
          refine w_region ?_
          refine w_opN (v := .agg [_, _]) (env' := _) rfl rfl rfl (fun _ h => h) (nv_t7m rfl ?_)
          refine w_op0N (H2 := [VO.arr 24 2 [[.int .i64 last0, .list tg rows]], VO.arr 24 2 [[.int .i64 0, .nils]], pobj 3 1 pgs, .arr 31 3 [[_, _, _]]]) rfl rfl rfl (fun _ h => h) ?_
          refine w_opN (env' := _) rfl rfl rfl (fun _ h => h) (nv_t7m rfl ?_)
          refine w_end rfl ?_
          refine vc_ret ?_
          refine r_then ?_
          refine r_block ?_
          refine r_then ?_
          refine r_then ?_
          refine r_block ?_
          refine r_then ?_
          refine r_fn rfl ?_
          -- return 1
          have hk : okP [.int .i64 pg, .int .i64 a, b] = false := okP_f (by have := of_decide_eq_true hg40; omega)
          have hbad := scan_bad hI.inv hri hk
          show retv _ _ = some (withR last0 rows (lrows l) (lrows st) last)
          rw [withR, if_pos hval, hbad]
          rfl
        · skip
          refine w_norm (env' := (_ :: _ :: _ :: _ :: _ :: _ :: _ :: _ :: _ :: _ :: _ :: _ :: _ :: _ :: _ :: _ :: _ :: _ :: _ :: _ :: _ :: _ :: _ :: _ :: _ :: _ :: _ :: _ :: _ :: _ :: _ :: _ :: _ :: _ :: _ :: _ :: _ :: _ :: _ :: _ :: _ :: _ :: _ :: _ :: _ :: _ :: _ :: _ :: _ :: _ :: _ :: _ :: _ :: _ :: _ :: _ :: _ :: _ :: _ :: _ :: _ :: _ :: _ :: _ :: _ :: _ :: _ :: _ :: _ :: _ :: _ :: _ :: _ :: _ :: _ :: _ :: _ :: _ :: _ :: _ :: _ :: _ :: _ :: _ :: _ :: _ :: _ :: _ :: _ :: _ :: _ :: _ :: _ :: _ :: _ :: _ :: _ :: _ :: _ :: _ :: _ :: _ :: _ :: _ :: _ :: _ :: _ :: _ :: _ :: _ :: _ :: _ :: _ :: _ :: _ :: _ :: _ :: _ :: _ :: _ :: _ :: _ :: _ :: _ :: _ :: _ :: _ :: _ :: _ :: _ :: _ :: _ :: _ :: _ :: _ :: _ :: _ :: _ :: _ :: _ :: _ :: _ :: _ :: _ :: _ :: _ :: _ :: _ :: _ :: _ :: _ :: _ :: _ :: _ :: _ :: _ :: _ :: _ :: _ :: _ :: _ :: _ :: _ :: _ :: _ :: _ :: _ :: _ :: _ :: _ :: _ :: _ :: _ :: _ :: _ :: _ :: _ :: _ :: _ :: _ :: _ :: _ :: _ :: _ :: _ :: _ :: _ :: _ :: _ :: _ :: _ :: _ :: _ :: _ :: _ :: _ :: _ :: _ :: _ :: _ :: _ :: _ :: _ :: _ :: _ :: _ :: _ :: _ :: _ :: _ :: _ :: _ :: _ :: _ :: _ :: _ :: _ :: _ :: _ :: _ :: _ :: _ :: _ :: _ :: _ :: _ :: _ :: _ :: _ :: _ :: [])) (H' := [VO.arr 24 2 [[.int .i64 last0, .list tg rows]], VO.arr 24 2 [[.int .i64 0, .nils]], pobj 3 1 pgs, .arr 31 3 [[_, _, _]]]) rfl rfl ?_
          refine w_opN (v := .ptr 3 0 1) (env' := _) (wanted_t 40 (by kernel_rfl) rfl) rfl rfl (fun _ h => h) (nv_t7m rfl ?_)
          refine w_opN (env' := _) (wanted_t 40 (by kernel_rfl) rfl) rfl rfl (fun _ h => h) (nv_t7m rfl ?_)
          refine w_opN (env' := _) (wanted_t 40 (by kernel_rfl) rfl) rfl rfl (fun _ h => h) (nv_t7m rfl ?_)
          refine w_opN (env' := _) rfl rfl rfl (fun _ h => h) (nv_t7m rfl ?_)
          refine w_opN (env' := _) rfl rfl rfl (fun _ h => h) (nv_t7m rfl ?_)
          refine w_split 45 rfl (fun hg45 => ?_) (fun hg45 => ?_)
          · skip
            refine w_norm (env' := (_ :: _ :: _ :: _ :: _ :: _ :: _ :: _ :: _ :: _ :: _ :: _ :: _ :: _ :: _ :: _ :: _ :: _ :: _ :: _ :: _ :: _ :: _ :: _ :: _ :: _ :: _ :: _ :: _ :: _ :: _ :: _ :: _ :: _ :: _ :: _ :: _ :: _ :: _ :: _ :: _ :: _ :: _ :: _ :: _ :: _ :: _ :: _ :: _ :: _ :: _ :: _ :: _ :: _ :: _ :: _ :: _ :: _ :: _ :: _ :: _ :: _ :: _ :: _ :: _ :: _ :: _ :: _ :: _ :: _ :: _ :: _ :: _ :: _ :: _ :: _ :: _ :: _ :: _ :: _ :: _ :: _ :: _ :: _ :: _ :: _ :: _ :: _ :: _ :: _ :: _ :: _ :: _ :: _ :: _ :: _ :: _ :: _ :: _ :: _ :: _ :: _ :: _ :: _ :: _ :: _ :: _ :: _ :: _ :: _ :: _ :: _ :: _ :: _ :: _ :: _ :: _ :: _ :: _ :: _ :: _ :: _ :: _ :: _ :: _ :: _ :: _ :: _ :: _ :: _ :: _ :: _ :: _ :: _ :: _ :: _ :: _ :: _ :: _ :: _ :: _ :: _ :: _ :: _ :: _ :: _ :: _ :: _ :: _ :: _ :: _ :: _ :: _ :: _ :: _ :: _ :: _ :: _ :: _ :: _ :: _ :: _ :: _ :: _ :: _ :: _ :: _ :: _ :: _ :: _ :: _ :: _ :: _ :: _ :: _ :: _ :: _ :: _ :: _ :: _ :: _ :: _ :: _ :: _ :: _ :: _ :: _ :: _ :: _ :: _ :: _ :: _ :: _ :: _ :: _ :: _ :: _ :: _ :: _ :: _ :: _ :: _ :: _ :: _ :: _ :: _ :: _ :: _ :: _ :: _ :: _ :: _ :: _ :: _ :: _ :: _ :: _ :: _ :: _ :: _ :: _ :: _ :: _ :: _ :: _ :: _ :: _ :: _ :: _ :: _ :: [])) (H' := [VO.arr 24 2 [[.int .i64 last0, .list tg rows]], VO.arr 24 2 [[.int .i64 0, .nils]], pobj 3 1 pgs, .arr 31 3 [[_, _, _]]]) rfl rfl ?_
            refine w_skipN (env' := _) (wanted_f 45 (by kernel_rfl) rfl) rfl (nv_t7m rfl ?_)
            refine w_skipN (env' := _) (wanted_f 45 (by kernel_rfl) rfl) rfl (nv_t7m rfl ?_)
            refine w_skipN (env' := _) (wanted_f 45 (by kernel_rfl) rfl) rfl (nv_t7m rfl ?_)
            refine w_skipN (env' := _) (wanted_f 45 (by kernel_rfl) rfl) rfl (nv_t7m rfl ?_)
            refine w_opN (env' := _) rfl rfl rfl (fun _ h => h) (nv_t7m rfl ?_)
            refine w_opN (env' := _) rfl rfl rfl (fun _ h => h) (nv_t7m rfl ?_)
            refine w_skipN (env' := _) (wanted_f 51 (by kernel_rfl) rfl) rfl (nv_t7m rfl ?_)
            refine w_skipN (env' := _) (wanted_f 51 (by kernel_rfl) rfl) rfl (nv_t7m rfl ?_)
            refine w_skipN (env' := _) (wanted_f 51 (by kernel_rfl) rfl) rfl (nv_t7m rfl ?_)
            refine w_opN (env' := _) rfl rfl rfl (fun _ h => h) (nv_t7m rfl ?_)
            refine w_opN (env' := _) rfl rfl rfl (fun _ h => h) (nv_t7m rfl ?_)
            refine w_skipN (env' := _) (wanted_f 56 (by kernel_rfl) rfl) rfl (nv_t7m rfl ?_)
            refine w_skipN (env' := _) (wanted_f 56 (by kernel_rfl) rfl) rfl (nv_t7m rfl ?_)
            refine w_skipN (env' := _) (wanted_f 56 (by kernel_rfl) rfl) rfl (nv_t7m rfl ?_)
            refine w_skipN (env' := _) (wanted_f 56 (by kernel_rfl) rfl) rfl (nv_t7m rfl ?_)
            refine w_skipN (env' := _) (wanted_f 56 (by kernel_rfl) rfl) rfl (nv_t7m rfl ?_)
            refine w_skipN (env' := _) (wanted_f 56 (by kernel_rfl) rfl) rfl (nv_t7m rfl ?_)
            refine w_skipN (env' := _) (wanted_f 56 (by kernel_rfl) rfl) rfl (nv_t7m rfl ?_)
            refine w_opN (env' := _) rfl rfl rfl (fun _ h => h) (nv_t7m rfl ?_)
            refine w_end rfl ?_
            refine vc_true rfl ?_
            refine vc_seq ?_
            refine w_region ?_
            refine w_opN (v := .agg [_, _]) (env' := _) rfl rfl rfl (fun _ h => h) (nv_t7m rfl ?_)
            refine w_op0N (H2 := [VO.arr 24 2 [[.int .i64 last0, .list tg rows]], VO.arr 24 2 [[.int .i64 0, .nils]], pobj 3 1 pgs, .arr 31 3 [[_, _, _]]]) rfl rfl rfl (fun _ h => h) ?_
            refine w_opN (env' := _) rfl rfl rfl (fun _ h => h) (nv_t7m rfl ?_)
            refine w_end rfl ?_
            refine vc_ret ?_
            refine r_then ?_
            refine r_block ?_
            refine r_then ?_
            refine r_then ?_
            refine r_block ?_
            refine r_then ?_
            refine r_fn rfl ?_
            -- return 2
            have hk : okP [.int .i64 pg, .int .i64 a, b] = false := okP_f (by have := of_decide_eq_true hg45; omega)
            have hbad := scan_bad hI.inv hri hk
            show retv _ _ = some (withR last0 rows (lrows l) (lrows st) last)
            rw [withR, if_pos hval, hbad]
            rfl
          · skip
            refine w_norm (env' := (_ :: _ :: _ :: _ :: _ :: _ :: _ :: _ :: _ :: _ :: _ :: _ :: _ :: _ :: _ :: _ :: _ :: _ :: _ :: _ :: _ :: _ :: _ :: _ :: _ :: _ :: _ :: _ :: _ :: _ :: _ :: _ :: _ :: _ :: _ :: _ :: _ :: _ :: _ :: _ :: _ :: _ :: _ :: _ :: _ :: _ :: _ :: _ :: _ :: _ :: _ :: _ :: _ :: _ :: _ :: _ :: _ :: _ :: _ :: _ :: _ :: _ :: _ :: _ :: _ :: _ :: _ :: _ :: _ :: _ :: _ :: _ :: _ :: _ :: _ :: _ :: _ :: _ :: _ :: _ :: _ :: _ :: _ :: _ :: _ :: _ :: _ :: _ :: _ :: _ :: _ :: _ :: _ :: _ :: _ :: _ :: _ :: _ :: _ :: _ :: _ :: _ :: _ :: _ :: _ :: _ :: _ :: _ :: _ :: _ :: _ :: _ :: _ :: _ :: _ :: _ :: _ :: _ :: _ :: _ :: _ :: _ :: _ :: _ :: _ :: _ :: _ :: _ :: _ :: _ :: _ :: _ :: _ :: _ :: _ :: _ :: _ :: _ :: _ :: _ :: _ :: _ :: _ :: _ :: _ :: _ :: _ :: _ :: _ :: _ :: _ :: _ :: _ :: _ :: _ :: _ :: _ :: _ :: _ :: _ :: _ :: _ :: _ :: _ :: _ :: _ :: _ :: _ :: _ :: _ :: _ :: _ :: _ :: _ :: _ :: _ :: _ :: _ :: _ :: _ :: _ :: _ :: _ :: _ :: _ :: _ :: _ :: _ :: _ :: _ :: _ :: _ :: _ :: _ :: _ :: _ :: _ :: _ :: _ :: _ :: _ :: _ :: _ :: _ :: _ :: _ :: _ :: _ :: _ :: _ :: _ :: _ :: _ :: _ :: _ :: _ :: _ :: _ :: _ :: _ :: _ :: _ :: _ :: _ :: _ :: _ :: _ :: _ :: _ :: _ :: [])) (H' := [VO.arr 24 2 [[.int .i64 last0, .list tg rows]], VO.arr 24 2 [[.int .i64 0, .nils]], pobj 3 1 pgs, .arr 31 3 [[_, _, _]]]) rfl rfl ?_
            refine w_opN (v := .ptr 3 0 2) (env' := _) (wanted_t 45 (by kernel_rfl) rfl) rfl rfl (fun _ h => h) (nv_t7m rfl ?_)
            refine w_opN (env' := _) (wanted_t 45 (by kernel_rfl) rfl) rfl rfl (fun _ h => h) (nv_t7m rfl ?_)
            first | refine w_opN (env' := _) (wanted_t 45 (by kernel_rfl) rfl) rfl rfl (fun _ h => h) (nv_t7m rfl ?_) | refine x_len (env' := _) (wanted_t 45 (by kernel_rfl) rfl) rfl (by assumption) Tryd.underlying29 rfl (nv_t7m rfl ?_)
            refine w_opN (env' := _) (wanted_t 45 (by kernel_rfl) rfl) rfl rfl (fun _ h => h) (nv_t7m rfl ?_)
            refine w_opN (env' := _) rfl rfl rfl (fun _ h => h) (nv_t7m rfl ?_)
            refine w_opN (env' := _) rfl rfl rfl (fun _ h => h) (nv_t7m rfl ?_)
            refine w_split 51 rfl (fun hg51 => ?_) (fun hg51 => ?_)
            · skip
              refine w_norm (env' := (_ :: _ :: _ :: _ :: _ :: _ :: _ :: _ :: _ :: _ :: _ :: _ :: _ :: _ :: _ :: _ :: _ :: _ :: _ :: _ :: _ :: _ :: _ :: _ :: _ :: _ :: _ :: _ :: _ :: _ :: _ :: _ :: _ :: _ :: _ :: _ :: _ :: _ :: _ :: _ :: _ :: _ :: _ :: _ :: _ :: _ :: _ :: _ :: _ :: _ :: _ :: _ :: _ :: _ :: _ :: _ :: _ :: _ :: _ :: _ :: _ :: _ :: _ :: _ :: _ :: _ :: _ :: _ :: _ :: _ :: _ :: _ :: _ :: _ :: _ :: _ :: _ :: _ :: _ :: _ :: _ :: _ :: _ :: _ :: _ :: _ :: _ :: _ :: _ :: _ :: _ :: _ :: _ :: _ :: _ :: _ :: _ :: _ :: _ :: _ :: _ :: _ :: _ :: _ :: _ :: _ :: _ :: _ :: _ :: _ :: _ :: _ :: _ :: _ :: _ :: _ :: _ :: _ :: _ :: _ :: _ :: _ :: _ :: _ :: _ :: _ :: _ :: _ :: _ :: _ :: _ :: _ :: _ :: _ :: _ :: _ :: _ :: _ :: _ :: _ :: _ :: _ :: _ :: _ :: _ :: _ :: _ :: _ :: _ :: _ :: _ :: _ :: _ :: _ :: _ :: _ :: _ :: _ :: _ :: _ :: _ :: _ :: _ :: _ :: _ :: _ :: _ :: _ :: _ :: _ :: _ :: _ :: _ :: _ :: _ :: _ :: _ :: _ :: _ :: _ :: _ :: _ :: _ :: _ :: _ :: _ :: _ :: _ :: _ :: _ :: _ :: _ :: _ :: _ :: _ :: _ :: _ :: _ :: _ :: _ :: _ :: _ :: _ :: _ :: _ :: _ :: _ :: _ :: _ :: _ :: _ :: _ :: _ :: _ :: _ :: _ :: _ :: _ :: _ :: _ :: _ :: _ :: _ :: _ :: _ :: _ :: _ :: _ :: _ :: _ :: [])) (H' := [VO.arr 24 2 [[.int .i64 last0, .list tg rows]], VO.arr 24 2 [[.int .i64 0, .nils]], pobj 3 1 pgs, .arr 31 3 [[_, _, _]]]) rfl rfl ?_
              refine w_skipN (env' := _) (wanted_f 51 (by kernel_rfl) rfl) rfl (nv_t7m rfl ?_)
              refine w_skipN (env' := _) (wanted_f 51 (by kernel_rfl) rfl) rfl (nv_t7m rfl ?_)
              refine w_skipN (env' := _) (wanted_f 51 (by kernel_rfl) rfl) rfl (nv_t7m rfl ?_)
              refine w_opN (env' := _) rfl rfl rfl (fun _ h => h) (nv_t7m rfl ?_)
              refine w_opN (env' := _) rfl rfl rfl (fun _ h => h) (nv_t7m rfl ?_)
              refine w_skipN (env' := _) (wanted_f 56 (by kernel_rfl) rfl) rfl (nv_t7m rfl ?_)
              refine w_skipN (env' := _) (wanted_f 56 (by kernel_rfl) rfl) rfl (nv_t7m rfl ?_)
              refine w_skipN (env' := _) (wanted_f 56 (by kernel_rfl) rfl) rfl (nv_t7m rfl ?_)
              refine w_skipN (env' := _) (wanted_f 56 (by kernel_rfl) rfl) rfl (nv_t7m rfl ?_)
              refine w_skipN (env' := _) (wanted_f 56 (by kernel_rfl) rfl) rfl (nv_t7m rfl ?_)
              refine w_skipN (env' := _) (wanted_f 56 (by kernel_rfl) rfl) rfl (nv_t7m rfl ?_)
              refine w_skipN (env' := _) (wanted_f 56 (by kernel_rfl) rfl) rfl (nv_t7m rfl ?_)
              refine w_opN (env' := _) rfl rfl rfl (fun _ h => h) (nv_t7m rfl ?_)
              refine w_end rfl ?_
              refine vc_true rfl ?_
              refine vc_seq ?_
              refine w_region ?_
              refine w_opN (v := .agg [_, _]) (env' := _) rfl rfl rfl (fun _ h => h) (nv_t7m rfl ?_)
              refine w_op0N (H2 := [VO.arr 24 2 [[.int .i64 last0, .list tg rows]], VO.arr 24 2 [[.int .i64 0, .nils]], pobj 3 1 pgs, .arr 31 3 [[_, _, _]]]) rfl rfl rfl (fun _ h => h) ?_
              refine w_opN (env' := _) rfl rfl rfl (fun _ h => h) (nv_t7m rfl ?_)
              refine w_end rfl ?_
              refine vc_ret ?_
              refine r_then ?_
              refine r_block ?_
              refine r_then ?_
              refine r_then ?_
              refine r_block ?_
              refine r_then ?_
              refine r_fn rfl ?_
              -- return 3
              have hk : okP [.int .i64 pg, .int .i64 a, b] = false := okP_f (by have := of_decide_eq_true hg51; omega)
              have hbad := scan_bad hI.inv hri hk
              show retv _ _ = some (withR last0 rows (lrows l) (lrows st) last)
              rw [withR, if_pos hval, hbad]
              rfl
            · skip
              refine w_norm (env' := (_ :: _ :: _ :: _ :: _ :: _ :: _ :: _ :: _ :: _ :: _ :: _ :: _ :: _ :: _ :: _ :: _ :: _ :: _ :: _ :: _ :: _ :: _ :: _ :: _ :: _ :: _ :: _ :: _ :: _ :: _ :: _ :: _ :: _ :: _ :: _ :: _ :: _ :: _ :: _ :: _ :: _ :: _ :: _ :: _ :: _ :: _ :: _ :: _ :: _ :: _ :: _ :: _ :: _ :: _ :: _ :: _ :: _ :: _ :: _ :: _ :: _ :: _ :: _ :: _ :: _ :: _ :: _ :: _ :: _ :: _ :: _ :: _ :: _ :: _ :: _ :: _ :: _ :: _ :: _ :: _ :: _ :: _ :: _ :: _ :: _ :: _ :: _ :: _ :: _ :: _ :: _ :: _ :: _ :: _ :: _ :: _ :: _ :: _ :: _ :: _ :: _ :: _ :: _ :: _ :: _ :: _ :: _ :: _ :: _ :: _ :: _ :: _ :: _ :: _ :: _ :: _ :: _ :: _ :: _ :: _ :: _ :: _ :: _ :: _ :: _ :: _ :: _ :: _ :: _ :: _ :: _ :: _ :: _ :: _ :: _ :: _ :: _ :: _ :: _ :: _ :: _ :: _ :: _ :: _ :: _ :: _ :: _ :: _ :: _ :: _ :: _ :: _ :: _ :: _ :: _ :: _ :: _ :: _ :: _ :: _ :: _ :: _ :: _ :: _ :: _ :: _ :: _ :: _ :: _ :: _ :: _ :: _ :: _ :: _ :: _ :: _ :: _ :: _ :: _ :: _ :: _ :: _ :: _ :: _ :: _ :: _ :: _ :: _ :: _ :: _ :: _ :: _ :: _ :: _ :: _ :: _ :: _ :: _ :: _ :: _ :: _ :: _ :: _ :: _ :: _ :: _ :: _ :: _ :: _ :: _ :: _ :: _ :: _ :: _ :: _ :: _ :: _ :: _ :: _ :: _ :: _ :: _ :: _ :: _ :: _ :: _ :: _ :: _ :: _ :: [])) (H' := [VO.arr 24 2 [[.int .i64 last0, .list tg rows]], VO.arr 24 2 [[.int .i64 0, .nils]], pobj 3 1 pgs, .arr 31 3 [[_, _, _]]]) rfl rfl ?_
              refine w_opN (v := .ptr 3 0 1) (env' := _) (wanted_t 51 (by kernel_rfl) rfl) rfl rfl (fun _ h => h) (nv_t7m rfl ?_)
              refine w_opN (env' := _) (wanted_t 51 (by kernel_rfl) rfl) rfl rfl (fun _ h => h) (nv_t7m rfl ?_)
              refine w_opN (env' := _) (wanted_t 51 (by kernel_rfl) rfl) rfl rfl (fun _ h => h) (nv_t7m rfl ?_)
              refine w_opN (env' := _) rfl rfl rfl (fun _ h => h) (nv_t7m rfl ?_)
              refine w_opN (env' := _) rfl rfl rfl (fun _ h => h) (nv_t7m rfl ?_)
              refine w_split 56 rfl (fun hg56 => ?_) (fun hg56 => ?_)
              · skip
                refine w_norm (env' := (_ :: _ :: _ :: _ :: _ :: _ :: _ :: _ :: _ :: _ :: _ :: _ :: _ :: _ :: _ :: _ :: _ :: _ :: _ :: _ :: _ :: _ :: _ :: _ :: _ :: _ :: _ :: _ :: _ :: _ :: _ :: _ :: _ :: _ :: _ :: _ :: _ :: _ :: _ :: _ :: _ :: _ :: _ :: _ :: _ :: _ :: _ :: _ :: _ :: _ :: _ :: _ :: _ :: _ :: _ :: _ :: _ :: _ :: _ :: _ :: _ :: _ :: _ :: _ :: _ :: _ :: _ :: _ :: _ :: _ :: _ :: _ :: _ :: _ :: _ :: _ :: _ :: _ :: _ :: _ :: _ :: _ :: _ :: _ :: _ :: _ :: _ :: _ :: _ :: _ :: _ :: _ :: _ :: _ :: _ :: _ :: _ :: _ :: _ :: _ :: _ :: _ :: _ :: _ :: _ :: _ :: _ :: _ :: _ :: _ :: _ :: _ :: _ :: _ :: _ :: _ :: _ :: _ :: _ :: _ :: _ :: _ :: _ :: _ :: _ :: _ :: _ :: _ :: _ :: _ :: _ :: _ :: _ :: _ :: _ :: _ :: _ :: _ :: _ :: _ :: _ :: _ :: _ :: _ :: _ :: _ :: _ :: _ :: _ :: _ :: _ :: _ :: _ :: _ :: _ :: _ :: _ :: _ :: _ :: _ :: _ :: _ :: _ :: _ :: _ :: _ :: _ :: _ :: _ :: _ :: _ :: _ :: _ :: _ :: _ :: _ :: _ :: _ :: _ :: _ :: _ :: _ :: _ :: _ :: _ :: _ :: _ :: _ :: _ :: _ :: _ :: _ :: _ :: _ :: _ :: _ :: _ :: _ :: _ :: _ :: _ :: _ :: _ :: _ :: _ :: _ :: _ :: _ :: _ :: _ :: _ :: _ :: _ :: _ :: _ :: _ :: _ :: _ :: _ :: _ :: _ :: _ :: _ :: _ :: _ :: _ :: _ :: _ :: _ :: _ :: [])) (H' := [VO.arr 24 2 [[.int .i64 last0, .list tg rows]], VO.arr 24 2 [[.int .i64 0, .nils]], pobj 3 1 pgs, .arr 31 3 [[_, _, _]]]) rfl rfl ?_
                refine w_skipN (env' := _) (wanted_f 56 (by kernel_rfl) rfl) rfl (nv_t7m rfl ?_)
                refine w_skipN (env' := _) (wanted_f 56 (by kernel_rfl) rfl) rfl (nv_t7m rfl ?_)
                refine w_skipN (env' := _) (wanted_f 56 (by kernel_rfl) rfl) rfl (nv_t7m rfl ?_)
                refine w_skipN (env' := _) (wanted_f 56 (by kernel_rfl) rfl) rfl (nv_t7m rfl ?_)
                refine w_skipN (env' := _) (wanted_f 56 (by kernel_rfl) rfl) rfl (nv_t7m rfl ?_)
                refine w_skipN (env' := _) (wanted_f 56 (by kernel_rfl) rfl) rfl (nv_t7m rfl ?_)
                refine w_skipN (env' := _) (wanted_f 56 (by kernel_rfl) rfl) rfl (nv_t7m rfl ?_)
                refine w_opN (env' := _) rfl rfl rfl (fun _ h => h) (nv_t7m rfl ?_)
                refine w_end rfl ?_
                refine vc_true rfl ?_
                refine vc_seq ?_
                refine w_region ?_
                refine w_opN (v := .agg [_, _]) (env' := _) rfl rfl rfl (fun _ h => h) (nv_t7m rfl ?_)
                refine w_op0N (H2 := [VO.arr 24 2 [[.int .i64 last0, .list tg rows]], VO.arr 24 2 [[.int .i64 0, .nils]], pobj 3 1 pgs, .arr 31 3 [[_, _, _]]]) rfl rfl rfl (fun _ h => h) ?_
                refine w_opN (env' := _) rfl rfl rfl (fun _ h => h) (nv_t7m rfl ?_)
                refine w_end rfl ?_
                refine vc_ret ?_
                refine r_then ?_
                refine r_block ?_
                refine r_then ?_
                refine r_then ?_
                refine r_block ?_
                refine r_then ?_
                refine r_fn rfl ?_
                -- return 4
                have hk : okP [.int .i64 pg, .int .i64 a, b] = false := okP_f (by have := of_decide_eq_true hg56; omega)
                have hbad := scan_bad hI.inv hri hk
                show retv _ _ = some (withR last0 rows (lrows l) (lrows st) last)
                rw [withR, if_pos hval, hbad]
                rfl
              · skip
                refine w_norm (env' := (_ :: _ :: _ :: _ :: _ :: _ :: _ :: _ :: _ :: _ :: _ :: _ :: _ :: _ :: _ :: _ :: _ :: _ :: _ :: _ :: _ :: _ :: _ :: _ :: _ :: _ :: _ :: _ :: _ :: _ :: _ :: _ :: _ :: _ :: _ :: _ :: _ :: _ :: _ :: _ :: _ :: _ :: _ :: _ :: _ :: _ :: _ :: _ :: _ :: _ :: _ :: _ :: _ :: _ :: _ :: _ :: _ :: _ :: _ :: _ :: _ :: _ :: _ :: _ :: _ :: _ :: _ :: _ :: _ :: _ :: _ :: _ :: _ :: _ :: _ :: _ :: _ :: _ :: _ :: _ :: _ :: _ :: _ :: _ :: _ :: _ :: _ :: _ :: _ :: _ :: _ :: _ :: _ :: _ :: _ :: _ :: _ :: _ :: _ :: _ :: _ :: _ :: _ :: _ :: _ :: _ :: _ :: _ :: _ :: _ :: _ :: _ :: _ :: _ :: _ :: _ :: _ :: _ :: _ :: _ :: _ :: _ :: _ :: _ :: _ :: _ :: _ :: _ :: _ :: _ :: _ :: _ :: _ :: _ :: _ :: _ :: _ :: _ :: _ :: _ :: _ :: _ :: _ :: _ :: _ :: _ :: _ :: _ :: _ :: _ :: _ :: _ :: _ :: _ :: _ :: _ :: _ :: _ :: _ :: _ :: _ :: _ :: _ :: _ :: _ :: _ :: _ :: _ :: _ :: _ :: _ :: _ :: _ :: _ :: _ :: _ :: _ :: _ :: _ :: _ :: _ :: _ :: _ :: _ :: _ :: _ :: _ :: _ :: _ :: _ :: _ :: _ :: _ :: _ :: _ :: _ :: _ :: _ :: _ :: _ :: _ :: _ :: _ :: _ :: _ :: _ :: _ :: _ :: _ :: _ :: _ :: _ :: _ :: _ :: _ :: _ :: _ :: _ :: _ :: _ :: _ :: _ :: _ :: _ :: _ :: _ :: _ :: _ :: _ :: _ :: [])) (H' := [VO.arr 24 2 [[.int .i64 last0, .list tg rows]], VO.arr 24 2 [[.int .i64 0, .nils]], pobj 3 1 pgs, .arr 31 3 [[_, _, _]]]) rfl rfl ?_
                refine w_opN (v := .ptr 3 0 2) (env' := _) (wanted_t 56 (by kernel_rfl) rfl) rfl rfl (fun _ h => h) (nv_t7m rfl ?_)
                refine w_opN (env' := _) (wanted_t 56 (by kernel_rfl) rfl) rfl rfl (fun _ h => h) (nv_t7m rfl ?_)
                first | refine w_opN (env' := _) (wanted_t 56 (by kernel_rfl) rfl) rfl rfl (fun _ h => h) (nv_t7m rfl ?_) | refine x_len (env' := _) (wanted_t 56 (by kernel_rfl) rfl) rfl (by assumption) Tryd.underlying29 rfl (nv_t7m rfl ?_)
                refine w_opN (v := .ptr 3 0 1) (env' := _) (wanted_t 56 (by kernel_rfl) rfl) rfl rfl (fun _ h => h) (nv_t7m rfl ?_)
                refine w_opN (env' := _) (wanted_t 56 (by kernel_rfl) rfl) rfl rfl (fun _ h => h) (nv_t7m rfl ?_)
                refine w_opH (v := .int .i64 (128 - a)) (env' := _) (H2 := [VO.arr 24 2 [[.int .i64 last0, .list tg rows]], VO.arr 24 2 [[.int .i64 0, .nils]], pobj 3 1 pgs, .arr 31 3 [[_, _, _]]]) (wanted_t 56 (by kernel_rfl) rfl) (int_eq (i64_small (by have := of_decide_eq_false hg45; have := of_decide_eq_false hg56; omega) (by have := of_decide_eq_false hg45; omega))) rfl (rfl) (fun _ h => h) (nv_t7m rfl ?_)
                refine w_opN (env' := _) (wanted_t 56 (by kernel_rfl) rfl) rfl rfl (fun _ h => h) (nv_t7m rfl ?_)
                refine w_opN (env' := _) rfl rfl rfl (fun _ h => h) (nv_t7m rfl ?_)
                refine w_end rfl ?_
                refine vc_cond rfl (fun hc64 => ?_) (fun hc64 => ?_)
                · skip
                  refine vc_seq ?_
                  refine w_region ?_
                  refine w_opN (v := .agg [_, _]) (env' := _) rfl rfl rfl (fun _ h => h) (nv_t7m rfl ?_)
                  refine w_op0N (H2 := [VO.arr 24 2 [[.int .i64 last0, .list tg rows]], VO.arr 24 2 [[.int .i64 0, .nils]], pobj 3 1 pgs, .arr 31 3 [[_, _, _]]]) rfl rfl rfl (fun _ h => h) ?_
                  refine w_opN (env' := _) rfl rfl rfl (fun _ h => h) (nv_t7m rfl ?_)
                  refine w_end rfl ?_
                  refine vc_ret ?_
                  refine r_then ?_
                  refine r_block ?_
                  refine r_then ?_
                  refine r_then ?_
                  refine r_block ?_
                  refine r_then ?_
                  refine r_fn rfl ?_
                  -- return 5
                  have hk : okP [.int .i64 pg, .int .i64 a, b] = false := okP_f (by have := of_decide_eq_true hc64; omega)
                  have hbad := scan_bad hI.inv hri hk
                  show retv _ _ = some (withR last0 rows (lrows l) (lrows st) last)
                  rw [withR, if_pos hval, hbad]
                  rfl
                · skip
                  have hk : okP [.int .i64 pg, .int .i64 a, b] = true := okP_t (by have := of_decide_eq_false hg35; have := of_decide_eq_false hg40; have := of_decide_eq_false hg45; have := of_decide_eq_false hg51; have := of_decide_eq_false hg56; have := of_decide_eq_false hc64; omega)
                  have hkb := okP_bounds hk
                  refine vc_skip ?_
                  refine n_then ?_
                  refine vc_seq ?_
                  refine vc_seq ?_
                  refine w_regionD (by kernel_rfl) ?_
                  refine d_opH (env' := _) (H2 := [VO.arr 24 2 [[.int .i64 last0, .list tg rows]], VO.arr 24 2 [[.int .i64 0, .nils]], pobj 3 1 pgs, .arr 31 3 [[_, _, _]]]) rfl rfl (.inr rfl) rfl rfl (fun _ h => h) (nd_t7m rfl ?_)
                  refine d_opH (env' := _) (H2 := [VO.arr 24 2 [[.int .i64 last0, .list tg rows]], VO.arr 24 2 [[.int .i64 0, .nils]], pobj 3 1 pgs, .arr 31 3 [[_, _, _]]]) rfl rfl (.inr rfl) rfl rfl (fun _ h => h) (nd_t7m rfl ?_)
                  refine d_opH (env' := _) (H2 := [VO.arr 24 2 [[.int .i64 last0, .list tg rows]], VO.arr 24 2 [[.int .i64 0, .nils]], pobj 3 1 pgs, .arr 31 3 [[_, _, _]]]) rfl rfl (.inr rfl) rfl rfl (fun _ h => h) (nd_t7m rfl ?_)
                  refine d_split 68 rfl (fun hg68 => ?_) (fun hg68 => ?_)
                  · skip
                    have hi0 : 0 < i := by have := of_decide_eq_true hg68; omega
                    have hrq : (lrows l)[i - 1]? = some (lrows l)[i - 1] := List.getElem?_eq_getElem (by omega)
                    obtain ⟨qpg, qa, qb, hqx, hLq, hq1, hq2⟩ := hpl _ (List.getElem_mem (show i - 1 < (lrows l).length by omega))
                    rw [hqx] at hrq
                    have hkq := okP_bounds (hI.inv.ok (i - 1) _ (by omega) hrq)
                    obtain ⟨q', hq3, hpne, hplast⟩ := hI.last hi0
                    rw [hrq] at hq3
                    cases hq3
                    replace hplast : pgs[pgs.length - 1]? = some [.int .i64 qpg] := hplast
                    have hpl1 := hI.inv.len
                    refine d_norm (env' := (_ :: _ :: _ :: _ :: _ :: _ :: _ :: _ :: _ :: _ :: _ :: _ :: _ :: _ :: _ :: _ :: _ :: _ :: _ :: _ :: _ :: _ :: _ :: _ :: _ :: _ :: _ :: _ :: _ :: _ :: _ :: _ :: _ :: _ :: _ :: _ :: _ :: _ :: _ :: _ :: _ :: _ :: _ :: _ :: _ :: _ :: _ :: _ :: _ :: _ :: _ :: _ :: _ :: _ :: _ :: _ :: _ :: _ :: _ :: _ :: _ :: _ :: _ :: _ :: _ :: _ :: _ :: _ :: _ :: _ :: _ :: _ :: _ :: _ :: _ :: _ :: _ :: _ :: _ :: _ :: _ :: _ :: _ :: _ :: _ :: _ :: _ :: _ :: _ :: _ :: _ :: _ :: _ :: _ :: _ :: _ :: _ :: _ :: _ :: _ :: _ :: _ :: _ :: _ :: _ :: _ :: _ :: _ :: _ :: _ :: _ :: _ :: _ :: _ :: _ :: _ :: _ :: _ :: _ :: _ :: _ :: _ :: _ :: _ :: _ :: _ :: _ :: _ :: _ :: _ :: _ :: _ :: _ :: _ :: _ :: _ :: _ :: _ :: _ :: _ :: _ :: _ :: _ :: _ :: _ :: _ :: _ :: _ :: _ :: _ :: _ :: _ :: _ :: _ :: _ :: _ :: _ :: _ :: _ :: _ :: _ :: _ :: _ :: _ :: _ :: _ :: _ :: _ :: _ :: _ :: _ :: _ :: _ :: _ :: _ :: _ :: _ :: _ :: _ :: _ :: _ :: _ :: _ :: _ :: _ :: _ :: _ :: _ :: _ :: _ :: _ :: _ :: _ :: _ :: _ :: _ :: _ :: _ :: _ :: _ :: _ :: _ :: _ :: _ :: _ :: _ :: _ :: _ :: _ :: _ :: _ :: _ :: _ :: _ :: _ :: _ :: _ :: _ :: _ :: _ :: _ :: _ :: _ :: _ :: _ :: _ :: _ :: _ :: _ :: _ :: [])) (H' := [VO.arr 24 2 [[.int .i64 last0, .list tg rows]], VO.arr 24 2 [[.int .i64 0, .nils]], pobj 3 1 pgs, .arr 31 3 [[_, _, _]]]) rfl rfl ?_
                    refine d_opH (env' := _) (H2 := [VO.arr 24 2 [[.int .i64 last0, .list tg rows]], VO.arr 24 2 [[.int .i64 0, .nils]], pobj 3 1 pgs, .arr 31 3 [[_, _, _]]]) (wanted_t 68 (by kernel_rfl) rfl) rfl (.inr rfl) rfl rfl (fun _ h => h) (nd_t7m rfl ?_)
                    refine d_opH (env' := _) (H2 := [VO.arr 24 2 [[.int .i64 last0, .list tg rows]], VO.arr 24 2 [[.int .i64 0, .nils]], pobj 3 1 pgs, .arr 31 3 [[_, _, _]]]) (wanted_t 68 (by kernel_rfl) rfl) rfl (.inr rfl) rfl rfl (fun _ h => h) (nd_t7m rfl ?_)
                    refine d_opH (v := .int .i64 ((i - 1 : Nat) : Int)) (env' := _) (H2 := [VO.arr 24 2 [[.int .i64 last0, .list tg rows]], VO.arr 24 2 [[.int .i64 0, .nils]], pobj 3 1 pgs, .arr 31 3 [[_, _, _]]]) (wanted_t 68 (by kernel_rfl) rfl) (int_eq (wrap_pred hi0 (by omega))) (.inr rfl) rfl (rfl) (fun _ h => h) (nd_t7m rfl ?_)
                    first | refine d_opH (v := .iptr _ [_, _, _]) (env' := _) (H2 := [VO.arr 24 2 [[.int .i64 last0, .list tg rows]], VO.arr 24 2 [[.int .i64 0, .nils]], pobj 3 1 pgs, .arr 31 3 [[_, _, _]]]) (wanted_t 68 (by kernel_rfl) rfl) rfl (.inr rfl) rfl rfl (fun _ h => h) (nd_t7m rfl ?_) | (refine y_index (wanted_t 68 (by kernel_rfl) rfl) rfl (by assumption) rfl el25 (by omega) (by assumption) rfl (fun bo => ?_); refine nd_t7m rfl ?_)
                    refine d_opH (v := .iptr _ [_, _, _]) (env' := _) (H2 := [VO.arr 24 2 [[.int .i64 last0, .list tg rows]], VO.arr 24 2 [[.int .i64 0, .nils]], pobj 3 1 pgs, .arr 31 3 [[_, _, _]]]) (wanted_t 68 (by kernel_rfl) rfl) rfl (.inr rfl) rfl rfl (fun _ h => h) (nd_t7m rfl ?_)
                    refine d_opH (env' := _) (H2 := [VO.arr 24 2 [[.int .i64 last0, .list tg rows]], VO.arr 24 2 [[.int .i64 0, .nils]], pobj 3 1 pgs, .arr 31 3 [[_, _, _]]]) (wanted_t 68 (by kernel_rfl) rfl) rfl (.inr rfl) rfl rfl (fun _ h => h) (nd_t7m rfl ?_)
                    refine d_opH (v := .ptr 3 0 0) (env' := _) (H2 := [VO.arr 24 2 [[.int .i64 last0, .list tg rows]], VO.arr 24 2 [[.int .i64 0, .nils]], pobj 3 1 pgs, .arr 31 3 [[_, _, _]]]) (wanted_t 68 (by kernel_rfl) rfl) rfl (.inr rfl) rfl rfl (fun _ h => h) (nd_t7m rfl ?_)
                    refine d_opH (env' := _) (H2 := [VO.arr 24 2 [[.int .i64 last0, .list tg rows]], VO.arr 24 2 [[.int .i64 0, .nils]], pobj 3 1 pgs, .arr 31 3 [[_, _, _]]]) (wanted_t 68 (by kernel_rfl) rfl) rfl (.inr rfl) rfl rfl (fun _ h => h) (nd_t7m rfl ?_)
                    refine d_opH (env' := _) (H2 := [VO.arr 24 2 [[.int .i64 last0, .list tg rows]], VO.arr 24 2 [[.int .i64 0, .nils]], pobj 3 1 pgs, .arr 31 3 [[_, _, _]]]) (wanted_t 68 (by kernel_rfl) rfl) rfl (.inr rfl) rfl rfl (fun _ h => h) (nd_t7m rfl ?_)
                    refine d_opH (env' := _) (H2 := [VO.arr 24 2 [[.int .i64 last0, .list tg rows]], VO.arr 24 2 [[.int .i64 0, .nils]], pobj 3 1 pgs, .arr 31 3 [[_, _, _]]]) (wanted_t 68 (by kernel_rfl) rfl) rfl (.inr rfl) rfl rfl (fun _ h => h) (nd_t7m rfl ?_)
                    refine d_split 78 rfl (fun hg78 => ?_) (fun hg78 => ?_)
                    · skip
                      refine d_norm (env' := (_ :: _ :: _ :: _ :: _ :: _ :: _ :: _ :: _ :: _ :: _ :: _ :: _ :: _ :: _ :: _ :: _ :: _ :: _ :: _ :: _ :: _ :: _ :: _ :: _ :: _ :: _ :: _ :: _ :: _ :: _ :: _ :: _ :: _ :: _ :: _ :: _ :: _ :: _ :: _ :: _ :: _ :: _ :: _ :: _ :: _ :: _ :: _ :: _ :: _ :: _ :: _ :: _ :: _ :: _ :: _ :: _ :: _ :: _ :: _ :: _ :: _ :: _ :: _ :: _ :: _ :: _ :: _ :: _ :: _ :: _ :: _ :: _ :: _ :: _ :: _ :: _ :: _ :: _ :: _ :: _ :: _ :: _ :: _ :: _ :: _ :: _ :: _ :: _ :: _ :: _ :: _ :: _ :: _ :: _ :: _ :: _ :: _ :: _ :: _ :: _ :: _ :: _ :: _ :: _ :: _ :: _ :: _ :: _ :: _ :: _ :: _ :: _ :: _ :: _ :: _ :: _ :: _ :: _ :: _ :: _ :: _ :: _ :: _ :: _ :: _ :: _ :: _ :: _ :: _ :: _ :: _ :: _ :: _ :: _ :: _ :: _ :: _ :: _ :: _ :: _ :: _ :: _ :: _ :: _ :: _ :: _ :: _ :: _ :: _ :: _ :: _ :: _ :: _ :: _ :: _ :: _ :: _ :: _ :: _ :: _ :: _ :: _ :: _ :: _ :: _ :: _ :: _ :: _ :: _ :: _ :: _ :: _ :: _ :: _ :: _ :: _ :: _ :: _ :: _ :: _ :: _ :: _ :: _ :: _ :: _ :: _ :: _ :: _ :: _ :: _ :: _ :: _ :: _ :: _ :: _ :: _ :: _ :: _ :: _ :: _ :: _ :: _ :: _ :: _ :: _ :: _ :: _ :: _ :: _ :: _ :: _ :: _ :: _ :: _ :: _ :: _ :: _ :: _ :: _ :: _ :: _ :: _ :: _ :: _ :: _ :: _ :: _ :: _ :: _ :: [])) (H' := [VO.arr 24 2 [[.int .i64 last0, .list tg rows]], VO.arr 24 2 [[.int .i64 0, .nils]], pobj 3 1 pgs, .arr 31 3 [[_, _, _]]]) rfl rfl ?_
                      refine d_skipN (env' := _) (wanted_f 78 (by kernel_rfl) rfl) rfl (nd_t7m rfl ?_)
                      refine d_skipN (env' := _) (wanted_f 78 (by kernel_rfl) rfl) rfl (nd_t7m rfl ?_)
                      refine d_skipN (env' := _) (wanted_f 78 (by kernel_rfl) rfl) rfl (nd_t7m rfl ?_)
                      refine d_skipN (env' := _) (wanted_f 78 (by kernel_rfl) rfl) rfl (nd_t7m rfl ?_)
                      refine d_skipN (env' := _) (wanted_f 78 (by kernel_rfl) rfl) rfl (nd_t7m rfl ?_)
                      refine d_skipN (env' := _) (wanted_f 78 (by kernel_rfl) rfl) rfl (nd_t7m rfl ?_)
                      refine d_skipN (env' := _) (wanted_f 78 (by kernel_rfl) rfl) rfl (nd_t7m rfl ?_)
                      refine d_skipN (env' := _) (wanted_f 78 (by kernel_rfl) rfl) rfl (nd_t7m rfl ?_)
                      refine d_skipN (env' := _) (wanted_f 78 (by kernel_rfl) rfl) rfl (nd_t7m rfl ?_)
                      refine d_skipN (env' := _) (wanted_f 78 (by kernel_rfl) rfl) rfl (nd_t7m rfl ?_)
                      refine d_skipN (env' := _) (wanted_k 88 (by kernel_rfl) rfl) rfl (nd_t7m rfl ?_)
                      refine d_skipN (env' := _) (wanted_k 88 (by kernel_rfl) rfl) rfl (nd_t7m rfl ?_)
                      refine d_skipN (env' := _) (wanted_k 88 (by kernel_rfl) rfl) rfl (nd_t7m rfl ?_)
                      refine d_skipN (env' := _) (wanted_k 88 (by kernel_rfl) rfl) rfl (nd_t7m rfl ?_)
                      refine d_skipN (env' := _) (wanted_k 88 (by kernel_rfl) rfl) rfl (nd_t7m rfl ?_)
                      refine d_skipN (env' := _) (wanted_k 88 (by kernel_rfl) rfl) rfl (nd_t7m rfl ?_)
                      refine d_skipN (env' := _) (wanted_k 88 (by kernel_rfl) rfl) rfl (nd_t7m rfl ?_)
                      refine d_skipN (env' := _) (wanted_k 88 (by kernel_rfl) rfl) rfl (nd_t7m rfl ?_)
                      refine d_skipN (env' := _) (wanted_k 88 (by kernel_rfl) rfl) rfl (nd_t7m rfl ?_)
                      refine d_skipN (env' := _) (wanted_k 88 (by kernel_rfl) rfl) rfl (nd_t7m rfl ?_)
                      refine d_skipN (env' := _) (wanted_k 88 (by kernel_rfl) rfl) rfl (nd_t7m rfl ?_)
                      refine d_skipN (env' := _) (wanted_k 88 (by kernel_rfl) rfl) rfl (nd_t7m rfl ?_)
                      refine d_skipN (env' := _) (wanted_k 88 (by kernel_rfl) rfl) rfl (nd_t7m rfl ?_)
                      refine d_skipN (env' := _) (wanted_k 88 (by kernel_rfl) rfl) rfl (nd_t7m rfl ?_)
                      refine d_skipN (env' := _) (wanted_k 88 (by kernel_rfl) rfl) rfl (nd_t7m rfl ?_)
                      refine d_skipN (env' := _) (wanted_k 88 (by kernel_rfl) rfl) rfl (nd_t7m rfl ?_)
                      refine d_skipN (env' := _) (wanted_k 88 (by kernel_rfl) rfl) rfl (nd_t7m rfl ?_)
                      refine d_skipN (env' := _) (wanted_f 78 (by kernel_rfl) rfl) rfl (nd_t7m rfl ?_)
                      refine d_opH (env' := _) (H2 := [VO.arr 24 2 [[.int .i64 last0, .list tg rows]], VO.arr 24 2 [[.int .i64 0, .nils]], pobj 3 1 pgs, .arr 31 3 [[_, _, _]]]) (wanted_t 68 (by kernel_rfl) rfl) rfl (.inr rfl) rfl rfl (fun _ h => h) (nd_t7m rfl ?_)
                      refine d_opH (env' := _) (H2 := [VO.arr 24 2 [[.int .i64 last0, .list tg rows]], VO.arr 24 2 [[.int .i64 0, .nils]], pobj 3 1 pgs, .arr 31 3 [[_, _, _]]]) rfl rfl (.inr rfl) rfl rfl (fun _ h => h) (nd_t7m rfl ?_)
                      refine d_end rfl ?_
                      refine vc_true rfl ?_
                      refine vc_seq ?_
                      refine w_region ?_
                      refine w_opN (v := .agg [_, _]) (env' := _) rfl rfl rfl (fun _ h => h) (nv_t7m rfl ?_)
                      refine w_op0N (H2 := [VO.arr 24 2 [[.int .i64 last0, .list tg rows]], VO.arr 24 2 [[.int .i64 0, .nils]], pobj 3 1 pgs, .arr 31 3 [[_, _, _]]]) rfl rfl rfl (fun _ h => h) ?_
                      refine w_opN (env' := _) rfl rfl rfl (fun _ h => h) (nv_t7m rfl ?_)
                      refine w_end rfl ?_
                      refine vc_ret ?_
                      refine r_then ?_
                      refine r_block ?_
                      refine r_then ?_
                      refine r_then ?_
                      refine r_block ?_
                      refine r_then ?_
                      refine r_fn rfl ?_
                      -- return 6
                      have hbad := scan_bad2 hI.inv hri hk hi0 hrq (by have := of_decide_eq_true hg78; simp only [pPg]; omega) (.inl (of_decide_eq_true hg78))
                      show retv _ _ = some (withR last0 rows (lrows l) (lrows st) last)
                      rw [withR, if_pos hval, hbad]
                      rfl
                    · skip
                      refine d_norm (env' := (_ :: _ :: _ :: _ :: _ :: _ :: _ :: _ :: _ :: _ :: _ :: _ :: _ :: _ :: _ :: _ :: _ :: _ :: _ :: _ :: _ :: _ :: _ :: _ :: _ :: _ :: _ :: _ :: _ :: _ :: _ :: _ :: _ :: _ :: _ :: _ :: _ :: _ :: _ :: _ :: _ :: _ :: _ :: _ :: _ :: _ :: _ :: _ :: _ :: _ :: _ :: _ :: _ :: _ :: _ :: _ :: _ :: _ :: _ :: _ :: _ :: _ :: _ :: _ :: _ :: _ :: _ :: _ :: _ :: _ :: _ :: _ :: _ :: _ :: _ :: _ :: _ :: _ :: _ :: _ :: _ :: _ :: _ :: _ :: _ :: _ :: _ :: _ :: _ :: _ :: _ :: _ :: _ :: _ :: _ :: _ :: _ :: _ :: _ :: _ :: _ :: _ :: _ :: _ :: _ :: _ :: _ :: _ :: _ :: _ :: _ :: _ :: _ :: _ :: _ :: _ :: _ :: _ :: _ :: _ :: _ :: _ :: _ :: _ :: _ :: _ :: _ :: _ :: _ :: _ :: _ :: _ :: _ :: _ :: _ :: _ :: _ :: _ :: _ :: _ :: _ :: _ :: _ :: _ :: _ :: _ :: _ :: _ :: _ :: _ :: _ :: _ :: _ :: _ :: _ :: _ :: _ :: _ :: _ :: _ :: _ :: _ :: _ :: _ :: _ :: _ :: _ :: _ :: _ :: _ :: _ :: _ :: _ :: _ :: _ :: _ :: _ :: _ :: _ :: _ :: _ :: _ :: _ :: _ :: _ :: _ :: _ :: _ :: _ :: _ :: _ :: _ :: _ :: _ :: _ :: _ :: _ :: _ :: _ :: _ :: _ :: _ :: _ :: _ :: _ :: _ :: _ :: _ :: _ :: _ :: _ :: _ :: _ :: _ :: _ :: _ :: _ :: _ :: _ :: _ :: _ :: _ :: _ :: _ :: _ :: _ :: _ :: _ :: _ :: _ :: [])) (H' := [VO.arr 24 2 [[.int .i64 last0, .list tg rows]], VO.arr 24 2 [[.int .i64 0, .nils]], pobj 3 1 pgs, .arr 31 3 [[_, _, _]]]) rfl rfl ?_
                      refine d_opH (env' := _) (H2 := [VO.arr 24 2 [[.int .i64 last0, .list tg rows]], VO.arr 24 2 [[.int .i64 0, .nils]], pobj 3 1 pgs, .arr 31 3 [[_, _, _]]]) (wanted_t 78 (by kernel_rfl) rfl) rfl (.inr rfl) rfl rfl (fun _ h => h) (nd_t7m rfl ?_)
                      refine d_opH (env' := _) (H2 := [VO.arr 24 2 [[.int .i64 last0, .list tg rows]], VO.arr 24 2 [[.int .i64 0, .nils]], pobj 3 1 pgs, .arr 31 3 [[_, _, _]]]) (wanted_t 78 (by kernel_rfl) rfl) rfl (.inr rfl) rfl rfl (fun _ h => h) (nd_t7m rfl ?_)
                      refine d_opH (v := .int .i64 ((i - 1 : Nat) : Int)) (env' := _) (H2 := [VO.arr 24 2 [[.int .i64 last0, .list tg rows]], VO.arr 24 2 [[.int .i64 0, .nils]], pobj 3 1 pgs, .arr 31 3 [[_, _, _]]]) (wanted_t 78 (by kernel_rfl) rfl) (int_eq (wrap_pred hi0 (by omega))) (.inr rfl) rfl (rfl) (fun _ h => h) (nd_t7m rfl ?_)
                      first | refine d_opH (v := .iptr _ [_, _, _]) (env' := _) (H2 := [VO.arr 24 2 [[.int .i64 last0, .list tg rows]], VO.arr 24 2 [[.int .i64 0, .nils]], pobj 3 1 pgs, .arr 31 3 [[_, _, _]]]) (wanted_t 78 (by kernel_rfl) rfl) rfl (.inr rfl) rfl rfl (fun _ h => h) (nd_t7m rfl ?_) | (refine y_index (wanted_t 78 (by kernel_rfl) rfl) rfl (by assumption) rfl el25 (by omega) (by assumption) rfl (fun bo => ?_); refine nd_t7m rfl ?_)
                      refine d_opH (v := .iptr _ [_, _, _]) (env' := _) (H2 := [VO.arr 24 2 [[.int .i64 last0, .list tg rows]], VO.arr 24 2 [[.int .i64 0, .nils]], pobj 3 1 pgs, .arr 31 3 [[_, _, _]]]) (wanted_t 78 (by kernel_rfl) rfl) rfl (.inr rfl) rfl rfl (fun _ h => h) (nd_t7m rfl ?_)
                      refine d_opH (env' := _) (H2 := [VO.arr 24 2 [[.int .i64 last0, .list tg rows]], VO.arr 24 2 [[.int .i64 0, .nils]], pobj 3 1 pgs, .arr 31 3 [[_, _, _]]]) (wanted_t 78 (by kernel_rfl) rfl) rfl (.inr rfl) rfl rfl (fun _ h => h) (nd_t7m rfl ?_)
                      refine d_opH (v := .ptr 3 0 0) (env' := _) (H2 := [VO.arr 24 2 [[.int .i64 last0, .list tg rows]], VO.arr 24 2 [[.int .i64 0, .nils]], pobj 3 1 pgs, .arr 31 3 [[_, _, _]]]) (wanted_t 78 (by kernel_rfl) rfl) rfl (.inr rfl) rfl rfl (fun _ h => h) (nd_t7m rfl ?_)
                      refine d_opH (env' := _) (H2 := [VO.arr 24 2 [[.int .i64 last0, .list tg rows]], VO.arr 24 2 [[.int .i64 0, .nils]], pobj 3 1 pgs, .arr 31 3 [[_, _, _]]]) (wanted_t 78 (by kernel_rfl) rfl) rfl (.inr rfl) rfl rfl (fun _ h => h) (nd_t7m rfl ?_)
                      refine d_opH (env' := _) (H2 := [VO.arr 24 2 [[.int .i64 last0, .list tg rows]], VO.arr 24 2 [[.int .i64 0, .nils]], pobj 3 1 pgs, .arr 31 3 [[_, _, _]]]) (wanted_t 78 (by kernel_rfl) rfl) rfl (.inr rfl) rfl rfl (fun _ h => h) (nd_t7m rfl ?_)
                      refine d_opH (env' := _) (H2 := [VO.arr 24 2 [[.int .i64 last0, .list tg rows]], VO.arr 24 2 [[.int .i64 0, .nils]], pobj 3 1 pgs, .arr 31 3 [[_, _, _]]]) (wanted_t 78 (by kernel_rfl) rfl) rfl (.inr rfl) rfl rfl (fun _ h => h) (nd_t7m rfl ?_)
                      refine d_split 88 rfl (fun hg88 => ?_) (fun hg88 => ?_)
                      · skip
                        refine d_norm (env' := (_ :: _ :: _ :: _ :: _ :: _ :: _ :: _ :: _ :: _ :: _ :: _ :: _ :: _ :: _ :: _ :: _ :: _ :: _ :: _ :: _ :: _ :: _ :: _ :: _ :: _ :: _ :: _ :: _ :: _ :: _ :: _ :: _ :: _ :: _ :: _ :: _ :: _ :: _ :: _ :: _ :: _ :: _ :: _ :: _ :: _ :: _ :: _ :: _ :: _ :: _ :: _ :: _ :: _ :: _ :: _ :: _ :: _ :: _ :: _ :: _ :: _ :: _ :: _ :: _ :: _ :: _ :: _ :: _ :: _ :: _ :: _ :: _ :: _ :: _ :: _ :: _ :: _ :: _ :: _ :: _ :: _ :: _ :: _ :: _ :: _ :: _ :: _ :: _ :: _ :: _ :: _ :: _ :: _ :: _ :: _ :: _ :: _ :: _ :: _ :: _ :: _ :: _ :: _ :: _ :: _ :: _ :: _ :: _ :: _ :: _ :: _ :: _ :: _ :: _ :: _ :: _ :: _ :: _ :: _ :: _ :: _ :: _ :: _ :: _ :: _ :: _ :: _ :: _ :: _ :: _ :: _ :: _ :: _ :: _ :: _ :: _ :: _ :: _ :: _ :: _ :: _ :: _ :: _ :: _ :: _ :: _ :: _ :: _ :: _ :: _ :: _ :: _ :: _ :: _ :: _ :: _ :: _ :: _ :: _ :: _ :: _ :: _ :: _ :: _ :: _ :: _ :: _ :: _ :: _ :: _ :: _ :: _ :: _ :: _ :: _ :: _ :: _ :: _ :: _ :: _ :: _ :: _ :: _ :: _ :: _ :: _ :: _ :: _ :: _ :: _ :: _ :: _ :: _ :: _ :: _ :: _ :: _ :: _ :: _ :: _ :: _ :: _ :: _ :: _ :: _ :: _ :: _ :: _ :: _ :: _ :: _ :: _ :: _ :: _ :: _ :: _ :: _ :: _ :: _ :: _ :: _ :: _ :: _ :: _ :: _ :: _ :: _ :: _ :: _ :: [])) (H' := [VO.arr 24 2 [[.int .i64 last0, .list tg rows]], VO.arr 24 2 [[.int .i64 0, .nils]], pobj 3 1 pgs, .arr 31 3 [[_, _, _]]]) rfl rfl ?_
                        refine d_opH (env' := _) (H2 := [VO.arr 24 2 [[.int .i64 last0, .list tg rows]], VO.arr 24 2 [[.int .i64 0, .nils]], pobj 3 1 pgs, .arr 31 3 [[_, _, _]]]) (wanted_t 88 (by kernel_rfl) rfl) rfl (.inr rfl) rfl rfl (fun _ h => h) (nd_t7m rfl ?_)
                        refine d_opH (env' := _) (H2 := [VO.arr 24 2 [[.int .i64 last0, .list tg rows]], VO.arr 24 2 [[.int .i64 0, .nils]], pobj 3 1 pgs, .arr 31 3 [[_, _, _]]]) (wanted_t 88 (by kernel_rfl) rfl) rfl (.inr rfl) rfl rfl (fun _ h => h) (nd_t7m rfl ?_)
                        refine d_opH (v := .int .i64 ((i - 1 : Nat) : Int)) (env' := _) (H2 := [VO.arr 24 2 [[.int .i64 last0, .list tg rows]], VO.arr 24 2 [[.int .i64 0, .nils]], pobj 3 1 pgs, .arr 31 3 [[_, _, _]]]) (wanted_t 88 (by kernel_rfl) rfl) (int_eq (wrap_pred hi0 (by omega))) (.inr rfl) rfl (rfl) (fun _ h => h) (nd_t7m rfl ?_)
                        first | refine d_opH (v := .iptr _ [_, _, _]) (env' := _) (H2 := [VO.arr 24 2 [[.int .i64 last0, .list tg rows]], VO.arr 24 2 [[.int .i64 0, .nils]], pobj 3 1 pgs, .arr 31 3 [[_, _, _]]]) (wanted_t 88 (by kernel_rfl) rfl) rfl (.inr rfl) rfl rfl (fun _ h => h) (nd_t7m rfl ?_) | (refine y_index (wanted_t 88 (by kernel_rfl) rfl) rfl (by assumption) rfl el25 (by omega) (by assumption) rfl (fun bo => ?_); refine nd_t7m rfl ?_)
                        refine d_opH (v := .iptr _ [_, _]) (env' := _) (H2 := [VO.arr 24 2 [[.int .i64 last0, .list tg rows]], VO.arr 24 2 [[.int .i64 0, .nils]], pobj 3 1 pgs, .arr 31 3 [[_, _, _]]]) (wanted_t 88 (by kernel_rfl) rfl) rfl (.inr rfl) rfl rfl (fun _ h => h) (nd_t7m rfl ?_)
                        refine d_opH (env' := _) (H2 := [VO.arr 24 2 [[.int .i64 last0, .list tg rows]], VO.arr 24 2 [[.int .i64 0, .nils]], pobj 3 1 pgs, .arr 31 3 [[_, _, _]]]) (wanted_t 88 (by kernel_rfl) rfl) rfl (.inr rfl) rfl rfl (fun _ h => h) (nd_t7m rfl ?_)
                        refine d_opH (env' := _) (H2 := [VO.arr 24 2 [[.int .i64 last0, .list tg rows]], VO.arr 24 2 [[.int .i64 0, .nils]], pobj 3 1 pgs, .arr 31 3 [[_, _, _]]]) (wanted_t 88 (by kernel_rfl) rfl) rfl (.inr rfl) rfl rfl (fun _ h => h) (nd_t7m rfl ?_)
                        refine d_opH (env' := _) (H2 := [VO.arr 24 2 [[.int .i64 last0, .list tg rows]], VO.arr 24 2 [[.int .i64 0, .nils]], pobj 3 1 pgs, .arr 31 3 [[_, _, _]]]) (wanted_t 88 (by kernel_rfl) rfl) rfl (.inr rfl) rfl rfl (fun _ h => h) (nd_t7m rfl ?_)
                        refine d_opH (v := .int .i64 ((i - 1 : Nat) : Int)) (env' := _) (H2 := [VO.arr 24 2 [[.int .i64 last0, .list tg rows]], VO.arr 24 2 [[.int .i64 0, .nils]], pobj 3 1 pgs, .arr 31 3 [[_, _, _]]]) (wanted_t 88 (by kernel_rfl) rfl) (int_eq (wrap_pred hi0 (by omega))) (.inr rfl) rfl (rfl) (fun _ h => h) (nd_t7m rfl ?_)
                        first | refine d_opH (v := .iptr _ [_, _, _]) (env' := _) (H2 := [VO.arr 24 2 [[.int .i64 last0, .list tg rows]], VO.arr 24 2 [[.int .i64 0, .nils]], pobj 3 1 pgs, .arr 31 3 [[_, _, _]]]) (wanted_t 88 (by kernel_rfl) rfl) rfl (.inr rfl) rfl rfl (fun _ h => h) (nd_t7m rfl ?_) | (refine y_index (wanted_t 88 (by kernel_rfl) rfl) rfl (by assumption) rfl el25 (by omega) (by assumption) rfl (fun bo => ?_); refine nd_t7m rfl ?_)
                        refine d_opH (v := .iptr _ [_]) (env' := _) (H2 := [VO.arr 24 2 [[.int .i64 last0, .list tg rows]], VO.arr 24 2 [[.int .i64 0, .nils]], pobj 3 1 pgs, .arr 31 3 [[_, _, _]]]) (wanted_t 88 (by kernel_rfl) rfl) rfl (.inr rfl) rfl rfl (fun _ h => h) (nd_t7m rfl ?_)
                        refine d_opH (env' := _) (H2 := [VO.arr 24 2 [[.int .i64 last0, .list tg rows]], VO.arr 24 2 [[.int .i64 0, .nils]], pobj 3 1 pgs, .arr 31 3 [[_, _, _]]]) (wanted_t 88 (by kernel_rfl) rfl) rfl (.inr rfl) rfl rfl (fun _ h => h) (nd_t7m rfl ?_)
                        first | refine d_opH (env' := _) (H2 := [VO.arr 24 2 [[.int .i64 last0, .list tg rows]], VO.arr 24 2 [[.int .i64 0, .nils]], pobj 3 1 pgs, .arr 31 3 [[_, _, _]]]) (wanted_t 88 (by kernel_rfl) rfl) rfl (.inr rfl) rfl rfl (fun _ h => h) (nd_t7m rfl ?_) | refine y_len (env' := _) (wanted_t 88 (by kernel_rfl) rfl) rfl (by assumption) Tryd.underlying29 rfl (nd_t7m rfl ?_)
                        refine d_opH (v := .int .i64 (qa + ((lrows qb).length : Int))) (env' := _) (H2 := [VO.arr 24 2 [[.int .i64 last0, .list tg rows]], VO.arr 24 2 [[.int .i64 0, .nils]], pobj 3 1 pgs, .arr 31 3 [[_, _, _]]]) (wanted_t 88 (by kernel_rfl) rfl) (int_eq (i64_small (by omega) (by omega))) (.inr rfl) rfl (rfl) (fun _ h => h) (nd_t7m rfl ?_)
                        refine d_opH (v := .ptr 3 0 1) (env' := _) (H2 := [VO.arr 24 2 [[.int .i64 last0, .list tg rows]], VO.arr 24 2 [[.int .i64 0, .nils]], pobj 3 1 pgs, .arr 31 3 [[_, _, _]]]) (wanted_t 88 (by kernel_rfl) rfl) rfl (.inr rfl) rfl rfl (fun _ h => h) (nd_t7m rfl ?_)
                        refine d_opH (env' := _) (H2 := [VO.arr 24 2 [[.int .i64 last0, .list tg rows]], VO.arr 24 2 [[.int .i64 0, .nils]], pobj 3 1 pgs, .arr 31 3 [[_, _, _]]]) (wanted_t 88 (by kernel_rfl) rfl) rfl (.inr rfl) rfl rfl (fun _ h => h) (nd_t7m rfl ?_)
                        refine d_opH (env' := _) (H2 := [VO.arr 24 2 [[.int .i64 last0, .list tg rows]], VO.arr 24 2 [[.int .i64 0, .nils]], pobj 3 1 pgs, .arr 31 3 [[_, _, _]]]) (wanted_t 88 (by kernel_rfl) rfl) rfl (.inr rfl) rfl rfl (fun _ h => h) (nd_t7m rfl ?_)
                        refine d_opH (env' := _) (H2 := [VO.arr 24 2 [[.int .i64 last0, .list tg rows]], VO.arr 24 2 [[.int .i64 0, .nils]], pobj 3 1 pgs, .arr 31 3 [[_, _, _]]]) (wanted_t 78 (by kernel_rfl) rfl) rfl (.inr rfl) rfl rfl (fun _ h => h) (nd_t7m rfl ?_)
                        refine d_opH (env' := _) (H2 := [VO.arr 24 2 [[.int .i64 last0, .list tg rows]], VO.arr 24 2 [[.int .i64 0, .nils]], pobj 3 1 pgs, .arr 31 3 [[_, _, _]]]) (wanted_t 68 (by kernel_rfl) rfl) rfl (.inr rfl) rfl rfl (fun _ h => h) (nd_t7m rfl ?_)
                        refine d_opH (env' := _) (H2 := [VO.arr 24 2 [[.int .i64 last0, .list tg rows]], VO.arr 24 2 [[.int .i64 0, .nils]], pobj 3 1 pgs, .arr 31 3 [[_, _, _]]]) rfl rfl (.inr rfl) rfl rfl (fun _ h => h) (nd_t7m rfl ?_)
                        refine d_end rfl ?_
                        refine vc_cond rfl (fun hc108 => ?_) (fun hc108 => ?_)
                        · skip
                          refine vc_seq ?_
                          refine w_region ?_
                          refine w_opN (v := .agg [_, _]) (env' := _) rfl rfl rfl (fun _ h => h) (nv_t7m rfl ?_)
                          refine w_op0N (H2 := [VO.arr 24 2 [[.int .i64 last0, .list tg rows]], VO.arr 24 2 [[.int .i64 0, .nils]], pobj 3 1 pgs, .arr 31 3 [[_, _, _]]]) rfl rfl rfl (fun _ h => h) ?_
                          refine w_opN (env' := _) rfl rfl rfl (fun _ h => h) (nv_t7m rfl ?_)
                          refine w_end rfl ?_
                          refine vc_ret ?_
                          refine r_then ?_
                          refine r_block ?_
                          refine r_then ?_
                          refine r_then ?_
                          refine r_block ?_
                          refine r_then ?_
                          refine r_fn rfl ?_
                          -- return 7
                          have hbad := scan_bad2 hI.inv hri hk hi0 hrq (by simp only [pPg]; simp at hg88; omega) (.inr (of_decide_eq_true hc108))
                          show retv _ _ = some (withR last0 rows (lrows l) (lrows st) last)
                          rw [withR, if_pos hval, hbad]
                          rfl
                        · skip
                          refine vc_skip ?_
                          refine n_then ?_
                          refine vc_seq ?_
                          refine w_regionD (by kernel_rfl) ?_
                          refine d_opH (env' := _) (H2 := [VO.arr 24 2 [[.int .i64 last0, .list tg rows]], VO.arr 24 2 [[.int .i64 0, .nils]], pobj 3 1 pgs, .arr 31 3 [[_, _, _]]]) rfl rfl (.inr rfl) rfl rfl (fun _ h => h) (nd_t7m rfl ?_)
                          refine d_opH (v := .int .i64 ((pgs.length : Nat) : Int)) (env' := _) (H2 := [VO.arr 24 2 [[.int .i64 last0, .list tg rows]], VO.arr 24 2 [[.int .i64 0, .nils]], pobj 3 1 pgs, .arr 31 3 [[_, _, _]]]) rfl (pval_len Tryd.underlying26) (.inr rfl) rfl (rfl) (fun _ h => h) (nd_t7m rfl ?_)
                          refine d_opH (env' := _) (H2 := [VO.arr 24 2 [[.int .i64 last0, .list tg rows]], VO.arr 24 2 [[.int .i64 0, .nils]], pobj 3 1 pgs, .arr 31 3 [[_, _, _]]]) rfl rfl (.inr rfl) rfl rfl (fun _ h => h) (nd_t7m rfl ?_)
                          refine d_opH (env' := _) (H2 := [VO.arr 24 2 [[.int .i64 last0, .list tg rows]], VO.arr 24 2 [[.int .i64 0, .nils]], pobj 3 1 pgs, .arr 31 3 [[_, _, _]]]) rfl rfl (.inr rfl) rfl rfl (fun _ h => h) (nd_t7m rfl ?_)
                          refine d_split 113 rfl (fun hg113 => ?_) (fun hg113 => ?_)
                          · skip
                            simp at hg113
                            exact absurd hg113 hpne
                          · skip
                            have hlp0 : 0 < pgs.length := List.length_pos_iff.2 hpne
                            refine d_norm (env' := (_ :: _ :: _ :: _ :: _ :: _ :: _ :: _ :: _ :: _ :: _ :: _ :: _ :: _ :: _ :: _ :: _ :: _ :: _ :: _ :: _ :: _ :: _ :: _ :: _ :: _ :: _ :: _ :: _ :: _ :: _ :: _ :: _ :: _ :: _ :: _ :: _ :: _ :: _ :: _ :: _ :: _ :: _ :: _ :: _ :: _ :: _ :: _ :: _ :: _ :: _ :: _ :: _ :: _ :: _ :: _ :: _ :: _ :: _ :: _ :: _ :: _ :: _ :: _ :: _ :: _ :: _ :: _ :: _ :: _ :: _ :: _ :: _ :: _ :: _ :: _ :: _ :: _ :: _ :: _ :: _ :: _ :: _ :: _ :: _ :: _ :: _ :: _ :: _ :: _ :: _ :: _ :: _ :: _ :: _ :: _ :: _ :: _ :: _ :: _ :: _ :: _ :: _ :: _ :: _ :: _ :: _ :: _ :: _ :: _ :: _ :: _ :: _ :: _ :: _ :: _ :: _ :: _ :: _ :: _ :: _ :: _ :: _ :: _ :: _ :: _ :: _ :: _ :: _ :: _ :: _ :: _ :: _ :: _ :: _ :: _ :: _ :: _ :: _ :: _ :: _ :: _ :: _ :: _ :: _ :: _ :: _ :: _ :: _ :: _ :: _ :: _ :: _ :: _ :: _ :: _ :: _ :: _ :: _ :: _ :: _ :: _ :: _ :: _ :: _ :: _ :: _ :: _ :: _ :: _ :: _ :: _ :: _ :: _ :: _ :: _ :: _ :: _ :: _ :: _ :: _ :: _ :: _ :: _ :: _ :: _ :: _ :: _ :: _ :: _ :: _ :: _ :: _ :: _ :: _ :: _ :: _ :: _ :: _ :: _ :: _ :: _ :: _ :: _ :: _ :: _ :: _ :: _ :: _ :: _ :: _ :: _ :: _ :: _ :: _ :: _ :: _ :: _ :: _ :: _ :: _ :: _ :: _ :: _ :: _ :: _ :: _ :: _ :: _ :: _ :: [])) (H' := [VO.arr 24 2 [[.int .i64 last0, .list tg rows]], VO.arr 24 2 [[.int .i64 0, .nils]], pobj 3 1 pgs, .arr 31 3 [[_, _, _]]]) rfl rfl ?_
                            refine d_opH (env' := _) (H2 := [VO.arr 24 2 [[.int .i64 last0, .list tg rows]], VO.arr 24 2 [[.int .i64 0, .nils]], pobj 3 1 pgs, .arr 31 3 [[_, _, _]]]) (wanted_t 113 (by kernel_rfl) rfl) rfl (.inr rfl) rfl rfl (fun _ h => h) (nd_t7m rfl ?_)
                            refine d_opH (env' := _) (H2 := [VO.arr 24 2 [[.int .i64 last0, .list tg rows]], VO.arr 24 2 [[.int .i64 0, .nils]], pobj 3 1 pgs, .arr 31 3 [[_, _, _]]]) (wanted_t 113 (by kernel_rfl) rfl) rfl (.inr rfl) rfl rfl (fun _ h => h) (nd_t7m rfl ?_)
                            refine d_opH (v := .int .i64 ((pgs.length : Nat) : Int)) (env' := _) (H2 := [VO.arr 24 2 [[.int .i64 last0, .list tg rows]], VO.arr 24 2 [[.int .i64 0, .nils]], pobj 3 1 pgs, .arr 31 3 [[_, _, _]]]) (wanted_t 113 (by kernel_rfl) rfl) (pval_len Tryd.underlying26) (.inr rfl) rfl (rfl) (fun _ h => h) (nd_t7m rfl ?_)
                            refine d_opH (v := .int .i64 ((pgs.length - 1 : Nat) : Int)) (env' := _) (H2 := [VO.arr 24 2 [[.int .i64 last0, .list tg rows]], VO.arr 24 2 [[.int .i64 0, .nils]], pobj 3 1 pgs, .arr 31 3 [[_, _, _]]]) (wanted_t 113 (by kernel_rfl) rfl) (int_eq (wrap_pred hlp0 (by omega))) (.inr rfl) rfl (rfl) (fun _ h => h) (nd_t7m rfl ?_)
                            refine d_opH (v := .ptr 2 (pgs.length - 1) 0) (env' := _) (H2 := [VO.arr 24 2 [[.int .i64 last0, .list tg rows]], VO.arr 24 2 [[.int .i64 0, .nils]], pobj 3 1 pgs, .arr 31 3 [[_, _, _]]]) (wanted_t 113 (by kernel_rfl) rfl) ((by rw [show pval 2 pgs = .row false 2 0 pgs.length from pval_row hpne]; exact g_index0 (H := [VO.arr 24 2 [[.int .i64 last0, .list tg rows]], VO.arr 24 2 [[.int .i64 0, .nils]], pobj 3 1 pgs, VO.arr 31 3 [[.int .i64 pg, .int .i64 a, b]]]) el26 (show _ = some (VO.arr 3 1 pgs) from congrArg some (pobj_arr hpne)) (by omega) (by omega))) (.inr rfl) rfl (rfl) (fun _ h => h) (nd_t7m rfl ?_)
                            refine d_opH (v := .int .i64 qpg) (env' := _) (H2 := [VO.arr 24 2 [[.int .i64 last0, .list tg rows]], VO.arr 24 2 [[.int .i64 0, .nils]], pobj 3 1 pgs, .arr 31 3 [[_, _, _]]]) (wanted_t 113 (by kernel_rfl) rfl) (g_load (H := [VO.arr 24 2 [[.int .i64 last0, .list tg rows]], VO.arr 24 2 [[.int .i64 0, .nils]], pobj 3 1 pgs, VO.arr 31 3 [[.int .i64 pg, .int .i64 a, b]]]) (show _ = some (VO.arr 3 1 pgs) from congrArg some (pobj_arr hpne)) hplast rfl) (.inr rfl) rfl (rfl) (fun _ h => h) (nd_t7m rfl ?_)
                            refine d_opH (v := .ptr 3 0 0) (env' := _) (H2 := [VO.arr 24 2 [[.int .i64 last0, .list tg rows]], VO.arr 24 2 [[.int .i64 0, .nils]], pobj 3 1 pgs, .arr 31 3 [[_, _, _]]]) (wanted_t 113 (by kernel_rfl) rfl) rfl (.inr rfl) rfl rfl (fun _ h => h) (nd_t7m rfl ?_)
                            refine d_opH (env' := _) (H2 := [VO.arr 24 2 [[.int .i64 last0, .list tg rows]], VO.arr 24 2 [[.int .i64 0, .nils]], pobj 3 1 pgs, .arr 31 3 [[_, _, _]]]) (wanted_t 113 (by kernel_rfl) rfl) rfl (.inr rfl) rfl rfl (fun _ h => h) (nd_t7m rfl ?_)
                            refine d_opH (env' := _) (H2 := [VO.arr 24 2 [[.int .i64 last0, .list tg rows]], VO.arr 24 2 [[.int .i64 0, .nils]], pobj 3 1 pgs, .arr 31 3 [[_, _, _]]]) (wanted_t 113 (by kernel_rfl) rfl) rfl (.inr rfl) rfl rfl (fun _ h => h) (nd_t7m rfl ?_)
                            refine d_opH (env' := _) (H2 := [VO.arr 24 2 [[.int .i64 last0, .list tg rows]], VO.arr 24 2 [[.int .i64 0, .nils]], pobj 3 1 pgs, .arr 31 3 [[_, _, _]]]) rfl rfl (.inr rfl) rfl rfl (fun _ h => h) (nd_t7m rfl ?_)
                            refine d_end rfl ?_
                            refine vc_cond rfl (fun hc123 => ?_) (fun hc123 => ?_)
                            · skip
                              simp at hg88 hc123
                              omega
                            · skip
                              refine vc_skip ?_
                              refine n_block ?_
                              refine n_then ?_
                              refine w_region ?_
                              refine w_opN (env' := _) rfl rfl rfl (fun _ h => h) (nv_t7m rfl ?_)
                              refine w_opN (env' := _) rfl rfl rfl (fun _ h => h) (nv_t7m rfl ?_)
                              refine w_opN (env' := _) rfl rfl rfl (fun _ h => h) (nv_t7m rfl ?_)
                              refine w_end rfl ?_
                              refine hY0 ⟨(i + 1, pgs), hI.same hri hk hi0 hrq (by simp only [pPg]; simp at hg88; omega) (by have := of_decide_eq_false hc108; simp only [pAt, pBy]; omega)⟩ (by have := hI.inv.le; simp only; omega) _ _ [0, 1, 2] ⟨(by first | exact .inr rfl | exact .inr (IsL.ren1 (by assumption))), (by first | exact .inr rfl | exact .inr (IsL.ren1 (by assumption))), (by first | exact .inr rfl | exact .inr (IsL.ren1 (by assumption))), (by first | exact .inr rfl | exact .inr (IsL.ren1 (by assumption))), (by first | exact .inr rfl | exact .inr (IsL.ren1 (by assumption))), .inl rfl, .inl rfl, .inl rfl, (by first | exact .inr rfl | exact .inr (IsL.ren1 (by assumption))), .inl rfl, (.inr (pval_ren rfl)), (.inr ?_), .inl rfl, .inl rfl, .inl rfl, .inl rfl, .inl rfl, .inl rfl, (by first | exact .inr rfl | exact .inr (IsL.ren1 (by assumption))), (by first | exact .inr rfl | exact .inr (IsL.ren1 (by assumption))), (by first | exact .inr rfl | exact .inr (IsL.ren1 (by assumption))), .inl rfl, .inl rfl, .inl rfl, .inl rfl, .inl rfl, .inl rfl, .inl rfl, .inl rfl, .inl rfl, .inl rfl, .inl rfl, .inl rfl, .inl rfl, .inl rfl, .inl rfl, .inl rfl, .inl rfl, .inl rfl, .inl rfl, .inl rfl, .inl rfl, .inl rfl, .inl rfl, .inl rfl, .inl rfl, .inl rfl, .inl rfl, .inl rfl, .inl rfl, .inl rfl, .inl rfl, .inl rfl, .inl rfl, .inl rfl, .inl rfl, .inl rfl, .inl rfl, .inl rfl, .inl rfl, .inl rfl, .inl rfl, .inl rfl, .inl rfl, .inl rfl, .inl rfl, .inl rfl, .inl rfl, .inl rfl, .inl rfl, .inl rfl, .inl rfl, .inl rfl, .inl rfl, .inl rfl, .inl rfl, .inl rfl, .inl rfl, .inl rfl, .inl rfl, .inl rfl, .inl rfl, .inl rfl, .inl rfl, .inl rfl, .inl rfl, .inl rfl, .inl rfl, .inl rfl, .inl rfl, .inl rfl, .inl rfl, .inl rfl, .inl rfl, .inl rfl, .inl rfl, .inl rfl, .inl rfl, .inl rfl, .inl rfl, .inl rfl, .inl rfl, .inl rfl, .inl rfl, .inl rfl, .inl rfl, .inl rfl, .inl rfl, .inl rfl, .inl rfl, .inl rfl, .inl rfl, .inl rfl, .inl rfl, .inl rfl, .inl rfl, .inl rfl, .inl rfl, .inl rfl, .inl rfl, .inl rfl, .inl rfl, .inl rfl, .inl rfl, .inl rfl, .inl rfl, .inl rfl, .inl rfl, .inl rfl, .inl rfl, .inl rfl, .inl rfl, .inl rfl, .inl rfl, .inl rfl, .inl rfl, .inl rfl, .inl rfl, .inl rfl, .inl rfl, .inl rfl, .inl rfl, .inl rfl, .inl rfl, .inl rfl, .inl rfl, .inl rfl, .inl rfl, .inl rfl, .inl rfl, .inl rfl, .inl rfl, .inl rfl, .inl rfl, .inl rfl, .inl rfl, .inl rfl, .inl rfl, .inl rfl, .inl rfl, .inl rfl, .inl rfl, .inl rfl, .inl rfl, .inl rfl, .inl rfl, .inl rfl, .inl rfl, .inl rfl, .inl rfl, .inl rfl, .inl rfl, .inl rfl, .inl rfl, .inl rfl, .inl rfl, .inl rfl, .inl rfl, .inl rfl, .inl rfl, .inl rfl, .inl rfl, .inl rfl, .inl rfl, .inl rfl, .inl rfl, .inl rfl, .inl rfl, .inl rfl, .inl rfl, .inl rfl, .inl rfl, .inl rfl, .inl rfl, .inl rfl, .inl rfl, .inl rfl, .inl rfl, .inl rfl, .inl rfl, .inl rfl, .inl rfl, .inl rfl, .inl rfl, .inl rfl, .inl rfl, .inl rfl, .inl rfl, .inl rfl, .inl rfl, .inl rfl, .inl rfl, .inl rfl, .inl rfl, .inl rfl, .inl rfl, .inl rfl, .inl rfl, .inl rfl, .inl rfl, .inl rfl, .inl rfl, .inl rfl, .inl rfl, .inl rfl, .inl rfl, .inl rfl, .inl rfl, .inl rfl, .inl rfl, trivial⟩ (by decide) (fun _ h => absurd h (by omega)) ⟨.inr ⟨_, rfl, ren_arr rfl⟩, .inr ⟨_, rfl, ren_arr rfl⟩, pobj_ren hI.inv.val rfl, trivial⟩
                              exact congrArg some (int_succ (by omega)).symm
                      · skip
                        refine d_norm (env' := (_ :: _ :: _ :: _ :: _ :: _ :: _ :: _ :: _ :: _ :: _ :: _ :: _ :: _ :: _ :: _ :: _ :: _ :: _ :: _ :: _ :: _ :: _ :: _ :: _ :: _ :: _ :: _ :: _ :: _ :: _ :: _ :: _ :: _ :: _ :: _ :: _ :: _ :: _ :: _ :: _ :: _ :: _ :: _ :: _ :: _ :: _ :: _ :: _ :: _ :: _ :: _ :: _ :: _ :: _ :: _ :: _ :: _ :: _ :: _ :: _ :: _ :: _ :: _ :: _ :: _ :: _ :: _ :: _ :: _ :: _ :: _ :: _ :: _ :: _ :: _ :: _ :: _ :: _ :: _ :: _ :: _ :: _ :: _ :: _ :: _ :: _ :: _ :: _ :: _ :: _ :: _ :: _ :: _ :: _ :: _ :: _ :: _ :: _ :: _ :: _ :: _ :: _ :: _ :: _ :: _ :: _ :: _ :: _ :: _ :: _ :: _ :: _ :: _ :: _ :: _ :: _ :: _ :: _ :: _ :: _ :: _ :: _ :: _ :: _ :: _ :: _ :: _ :: _ :: _ :: _ :: _ :: _ :: _ :: _ :: _ :: _ :: _ :: _ :: _ :: _ :: _ :: _ :: _ :: _ :: _ :: _ :: _ :: _ :: _ :: _ :: _ :: _ :: _ :: _ :: _ :: _ :: _ :: _ :: _ :: _ :: _ :: _ :: _ :: _ :: _ :: _ :: _ :: _ :: _ :: _ :: _ :: _ :: _ :: _ :: _ :: _ :: _ :: _ :: _ :: _ :: _ :: _ :: _ :: _ :: _ :: _ :: _ :: _ :: _ :: _ :: _ :: _ :: _ :: _ :: _ :: _ :: _ :: _ :: _ :: _ :: _ :: _ :: _ :: _ :: _ :: _ :: _ :: _ :: _ :: _ :: _ :: _ :: _ :: _ :: _ :: _ :: _ :: _ :: _ :: _ :: _ :: _ :: _ :: _ :: _ :: _ :: _ :: _ :: _ :: [])) (H' := [VO.arr 24 2 [[.int .i64 last0, .list tg rows]], VO.arr 24 2 [[.int .i64 0, .nils]], pobj 3 1 pgs, .arr 31 3 [[_, _, _]]]) rfl rfl ?_
                        refine d_skipN (env' := _) (wanted_f 88 (by kernel_rfl) rfl) rfl (nd_t7m rfl ?_)
                        refine d_skipN (env' := _) (wanted_f 88 (by kernel_rfl) rfl) rfl (nd_t7m rfl ?_)
                        refine d_skipN (env' := _) (wanted_f 88 (by kernel_rfl) rfl) rfl (nd_t7m rfl ?_)
                        refine d_skipN (env' := _) (wanted_f 88 (by kernel_rfl) rfl) rfl (nd_t7m rfl ?_)
                        refine d_skipN (env' := _) (wanted_f 88 (by kernel_rfl) rfl) rfl (nd_t7m rfl ?_)
                        refine d_skipN (env' := _) (wanted_f 88 (by kernel_rfl) rfl) rfl (nd_t7m rfl ?_)
                        refine d_skipN (env' := _) (wanted_f 88 (by kernel_rfl) rfl) rfl (nd_t7m rfl ?_)
                        refine d_skipN (env' := _) (wanted_f 88 (by kernel_rfl) rfl) rfl (nd_t7m rfl ?_)
                        refine d_skipN (env' := _) (wanted_f 88 (by kernel_rfl) rfl) rfl (nd_t7m rfl ?_)
                        refine d_skipN (env' := _) (wanted_f 88 (by kernel_rfl) rfl) rfl (nd_t7m rfl ?_)
                        refine d_skipN (env' := _) (wanted_f 88 (by kernel_rfl) rfl) rfl (nd_t7m rfl ?_)
                        refine d_skipN (env' := _) (wanted_f 88 (by kernel_rfl) rfl) rfl (nd_t7m rfl ?_)
                        refine d_skipN (env' := _) (wanted_f 88 (by kernel_rfl) rfl) rfl (nd_t7m rfl ?_)
                        refine d_skipN (env' := _) (wanted_f 88 (by kernel_rfl) rfl) rfl (nd_t7m rfl ?_)
                        refine d_skipN (env' := _) (wanted_f 88 (by kernel_rfl) rfl) rfl (nd_t7m rfl ?_)
                        refine d_skipN (env' := _) (wanted_f 88 (by kernel_rfl) rfl) rfl (nd_t7m rfl ?_)
                        refine d_skipN (env' := _) (wanted_f 88 (by kernel_rfl) rfl) rfl (nd_t7m rfl ?_)
                        refine d_opH (env' := _) (H2 := [VO.arr 24 2 [[.int .i64 last0, .list tg rows]], VO.arr 24 2 [[.int .i64 0, .nils]], pobj 3 1 pgs, .arr 31 3 [[_, _, _]]]) (wanted_t 78 (by kernel_rfl) rfl) rfl (.inr rfl) rfl rfl (fun _ h => h) (nd_t7m rfl ?_)
                        refine d_opH (env' := _) (H2 := [VO.arr 24 2 [[.int .i64 last0, .list tg rows]], VO.arr 24 2 [[.int .i64 0, .nils]], pobj 3 1 pgs, .arr 31 3 [[_, _, _]]]) (wanted_t 68 (by kernel_rfl) rfl) rfl (.inr rfl) rfl rfl (fun _ h => h) (nd_t7m rfl ?_)
                        refine d_opH (env' := _) (H2 := [VO.arr 24 2 [[.int .i64 last0, .list tg rows]], VO.arr 24 2 [[.int .i64 0, .nils]], pobj 3 1 pgs, .arr 31 3 [[_, _, _]]]) rfl rfl (.inr rfl) rfl rfl (fun _ h => h) (nd_t7m rfl ?_)
                        refine d_end rfl ?_
                        refine vc_false rfl ?_
                        refine vc_skip ?_
                        refine n_then ?_
                        refine vc_seq ?_
                        refine w_regionD (by kernel_rfl) ?_
                        refine d_opH (env' := _) (H2 := [VO.arr 24 2 [[.int .i64 last0, .list tg rows]], VO.arr 24 2 [[.int .i64 0, .nils]], pobj 3 1 pgs, .arr 31 3 [[_, _, _]]]) rfl rfl (.inr rfl) rfl rfl (fun _ h => h) (nd_t7m rfl ?_)
                        refine d_opH (v := .int .i64 ((pgs.length : Nat) : Int)) (env' := _) (H2 := [VO.arr 24 2 [[.int .i64 last0, .list tg rows]], VO.arr 24 2 [[.int .i64 0, .nils]], pobj 3 1 pgs, .arr 31 3 [[_, _, _]]]) rfl (pval_len Tryd.underlying26) (.inr rfl) rfl (rfl) (fun _ h => h) (nd_t7m rfl ?_)
                        refine d_opH (env' := _) (H2 := [VO.arr 24 2 [[.int .i64 last0, .list tg rows]], VO.arr 24 2 [[.int .i64 0, .nils]], pobj 3 1 pgs, .arr 31 3 [[_, _, _]]]) rfl rfl (.inr rfl) rfl rfl (fun _ h => h) (nd_t7m rfl ?_)
                        refine d_opH (env' := _) (H2 := [VO.arr 24 2 [[.int .i64 last0, .list tg rows]], VO.arr 24 2 [[.int .i64 0, .nils]], pobj 3 1 pgs, .arr 31 3 [[_, _, _]]]) rfl rfl (.inr rfl) rfl rfl (fun _ h => h) (nd_t7m rfl ?_)
                        refine d_split 113 rfl (fun hg113 => ?_) (fun hg113 => ?_)
                        · skip
                          simp at hg113
                          exact absurd hg113 hpne
                        · skip
                          have hlp0 : 0 < pgs.length := List.length_pos_iff.2 hpne
                          refine d_norm (env' := (_ :: _ :: _ :: _ :: _ :: _ :: _ :: _ :: _ :: _ :: _ :: _ :: _ :: _ :: _ :: _ :: _ :: _ :: _ :: _ :: _ :: _ :: _ :: _ :: _ :: _ :: _ :: _ :: _ :: _ :: _ :: _ :: _ :: _ :: _ :: _ :: _ :: _ :: _ :: _ :: _ :: _ :: _ :: _ :: _ :: _ :: _ :: _ :: _ :: _ :: _ :: _ :: _ :: _ :: _ :: _ :: _ :: _ :: _ :: _ :: _ :: _ :: _ :: _ :: _ :: _ :: _ :: _ :: _ :: _ :: _ :: _ :: _ :: _ :: _ :: _ :: _ :: _ :: _ :: _ :: _ :: _ :: _ :: _ :: _ :: _ :: _ :: _ :: _ :: _ :: _ :: _ :: _ :: _ :: _ :: _ :: _ :: _ :: _ :: _ :: _ :: _ :: _ :: _ :: _ :: _ :: _ :: _ :: _ :: _ :: _ :: _ :: _ :: _ :: _ :: _ :: _ :: _ :: _ :: _ :: _ :: _ :: _ :: _ :: _ :: _ :: _ :: _ :: _ :: _ :: _ :: _ :: _ :: _ :: _ :: _ :: _ :: _ :: _ :: _ :: _ :: _ :: _ :: _ :: _ :: _ :: _ :: _ :: _ :: _ :: _ :: _ :: _ :: _ :: _ :: _ :: _ :: _ :: _ :: _ :: _ :: _ :: _ :: _ :: _ :: _ :: _ :: _ :: _ :: _ :: _ :: _ :: _ :: _ :: _ :: _ :: _ :: _ :: _ :: _ :: _ :: _ :: _ :: _ :: _ :: _ :: _ :: _ :: _ :: _ :: _ :: _ :: _ :: _ :: _ :: _ :: _ :: _ :: _ :: _ :: _ :: _ :: _ :: _ :: _ :: _ :: _ :: _ :: _ :: _ :: _ :: _ :: _ :: _ :: _ :: _ :: _ :: _ :: _ :: _ :: _ :: _ :: _ :: _ :: _ :: _ :: _ :: _ :: _ :: _ :: [])) (H' := [VO.arr 24 2 [[.int .i64 last0, .list tg rows]], VO.arr 24 2 [[.int .i64 0, .nils]], pobj 3 1 pgs, .arr 31 3 [[_, _, _]]]) rfl rfl ?_
                          refine d_opH (env' := _) (H2 := [VO.arr 24 2 [[.int .i64 last0, .list tg rows]], VO.arr 24 2 [[.int .i64 0, .nils]], pobj 3 1 pgs, .arr 31 3 [[_, _, _]]]) (wanted_t 113 (by kernel_rfl) rfl) rfl (.inr rfl) rfl rfl (fun _ h => h) (nd_t7m rfl ?_)
                          refine d_opH (env' := _) (H2 := [VO.arr 24 2 [[.int .i64 last0, .list tg rows]], VO.arr 24 2 [[.int .i64 0, .nils]], pobj 3 1 pgs, .arr 31 3 [[_, _, _]]]) (wanted_t 113 (by kernel_rfl) rfl) rfl (.inr rfl) rfl rfl (fun _ h => h) (nd_t7m rfl ?_)
                          refine d_opH (v := .int .i64 ((pgs.length : Nat) : Int)) (env' := _) (H2 := [VO.arr 24 2 [[.int .i64 last0, .list tg rows]], VO.arr 24 2 [[.int .i64 0, .nils]], pobj 3 1 pgs, .arr 31 3 [[_, _, _]]]) (wanted_t 113 (by kernel_rfl) rfl) (pval_len Tryd.underlying26) (.inr rfl) rfl (rfl) (fun _ h => h) (nd_t7m rfl ?_)
                          refine d_opH (v := .int .i64 ((pgs.length - 1 : Nat) : Int)) (env' := _) (H2 := [VO.arr 24 2 [[.int .i64 last0, .list tg rows]], VO.arr 24 2 [[.int .i64 0, .nils]], pobj 3 1 pgs, .arr 31 3 [[_, _, _]]]) (wanted_t 113 (by kernel_rfl) rfl) (int_eq (wrap_pred hlp0 (by omega))) (.inr rfl) rfl (rfl) (fun _ h => h) (nd_t7m rfl ?_)
                          refine d_opH (v := .ptr 2 (pgs.length - 1) 0) (env' := _) (H2 := [VO.arr 24 2 [[.int .i64 last0, .list tg rows]], VO.arr 24 2 [[.int .i64 0, .nils]], pobj 3 1 pgs, .arr 31 3 [[_, _, _]]]) (wanted_t 113 (by kernel_rfl) rfl) ((by rw [show pval 2 pgs = .row false 2 0 pgs.length from pval_row hpne]; exact g_index0 (H := [VO.arr 24 2 [[.int .i64 last0, .list tg rows]], VO.arr 24 2 [[.int .i64 0, .nils]], pobj 3 1 pgs, VO.arr 31 3 [[.int .i64 pg, .int .i64 a, b]]]) el26 (show _ = some (VO.arr 3 1 pgs) from congrArg some (pobj_arr hpne)) (by omega) (by omega))) (.inr rfl) rfl (rfl) (fun _ h => h) (nd_t7m rfl ?_)
                          refine d_opH (v := .int .i64 qpg) (env' := _) (H2 := [VO.arr 24 2 [[.int .i64 last0, .list tg rows]], VO.arr 24 2 [[.int .i64 0, .nils]], pobj 3 1 pgs, .arr 31 3 [[_, _, _]]]) (wanted_t 113 (by kernel_rfl) rfl) (g_load (H := [VO.arr 24 2 [[.int .i64 last0, .list tg rows]], VO.arr 24 2 [[.int .i64 0, .nils]], pobj 3 1 pgs, VO.arr 31 3 [[.int .i64 pg, .int .i64 a, b]]]) (show _ = some (VO.arr 3 1 pgs) from congrArg some (pobj_arr hpne)) hplast rfl) (.inr rfl) rfl (rfl) (fun _ h => h) (nd_t7m rfl ?_)
                          refine d_opH (v := .ptr 3 0 0) (env' := _) (H2 := [VO.arr 24 2 [[.int .i64 last0, .list tg rows]], VO.arr 24 2 [[.int .i64 0, .nils]], pobj 3 1 pgs, .arr 31 3 [[_, _, _]]]) (wanted_t 113 (by kernel_rfl) rfl) rfl (.inr rfl) rfl rfl (fun _ h => h) (nd_t7m rfl ?_)
                          refine d_opH (env' := _) (H2 := [VO.arr 24 2 [[.int .i64 last0, .list tg rows]], VO.arr 24 2 [[.int .i64 0, .nils]], pobj 3 1 pgs, .arr 31 3 [[_, _, _]]]) (wanted_t 113 (by kernel_rfl) rfl) rfl (.inr rfl) rfl rfl (fun _ h => h) (nd_t7m rfl ?_)
                          refine d_opH (env' := _) (H2 := [VO.arr 24 2 [[.int .i64 last0, .list tg rows]], VO.arr 24 2 [[.int .i64 0, .nils]], pobj 3 1 pgs, .arr 31 3 [[_, _, _]]]) (wanted_t 113 (by kernel_rfl) rfl) rfl (.inr rfl) rfl rfl (fun _ h => h) (nd_t7m rfl ?_)
                          refine d_opH (env' := _) (H2 := [VO.arr 24 2 [[.int .i64 last0, .list tg rows]], VO.arr 24 2 [[.int .i64 0, .nils]], pobj 3 1 pgs, .arr 31 3 [[_, _, _]]]) rfl rfl (.inr rfl) rfl rfl (fun _ h => h) (nd_t7m rfl ?_)
                          refine d_end rfl ?_
                          refine vc_cond rfl (fun hc123 => ?_) (fun hc123 => ?_)
                          · skip
                            refine w_region ?_
                            refine w_opN (env' := _) rfl rfl rfl (fun _ h => h) (nv_t7m rfl ?_)
                            refine w_opN (v := .ptr 3 0 0) (env' := _) rfl rfl rfl (fun _ h => h) (nv_t7m rfl ?_)
                            refine w_opN (env' := _) rfl rfl rfl (fun _ h => h) (nv_t7m rfl ?_)
                            refine w_opN (env' := _) rfl rfl rfl (fun _ h => h) (nv_t7m rfl ?_)
                            refine w_opH (v := .row false 4 0 (pgs.length + 1)) (env' := _) (H2 := [VO.arr 24 2 [[.int .i64 last0, .list tg rows]], VO.arr 24 2 [[.int .i64 0, .nils]], .dead, _, .arr 3 1 (pgs ++ [[.int .i64 pg]])]) rfl (acc_append (H := [VO.arr 24 2 [[.int .i64 last0, .list tg rows]], VO.arr 24 2 [[.int .i64 0, .nils]], pobj 3 1 pgs, VO.arr 31 3 [[.int .i64 pg, .int .i64 a, b]]]) (pgs := pgs) (news := [[.int .i64 pg]]) (x := .list .tight [[.int .i64 pg]]) (L := 2) (sz := 1) rfl el26 Tryd.underlying26 rfl zc3 by3 rfl rfl (by decide) (by decide) rfl rfl (by simp) rfl (by have := hI.inv.len; simp; omega)) rfl (rfl) (fun _ h => h) (nv_t7m rfl ?_)
                            refine w_opN (env' := _) rfl rfl rfl (fun _ h => h) (nv_t7m rfl ?_)
                            refine w_endB rfl ?_
                            refine n_then ?_
                            refine w_region ?_
                            refine w_opN (env' := _) rfl rfl rfl (fun _ h => h) (nv_t7m rfl ?_)
                            refine w_opN (env' := _) rfl rfl rfl (fun _ h => h) (nv_t7m rfl ?_)
                            refine w_opN (env' := _) rfl rfl rfl (fun _ h => h) (nv_t7m rfl ?_)
                            refine w_end rfl ?_
                            refine hY0 ⟨(i + 1, pgs ++ [[.int .i64 pg]]), hI.new hri hk (.inr ⟨_, hrq, by have := of_decide_eq_false hg78; simp only [pPg]; simp at hg88; omega⟩)⟩ (by have := hI.inv.le; simp only; omega) _ _ [0, 1, 4] ⟨(.inr rfl), (by first | exact .inr rfl | exact .inr (IsL.ren1 (by assumption))), (by first | exact .inr rfl | exact .inr (IsL.ren1 (by assumption))), (by first | exact .inr rfl | exact .inr (IsL.ren1 (by assumption))), (by first | exact .inr rfl | exact .inr (IsL.ren1 (by assumption))), .inl rfl, .inl rfl, .inl rfl, (by first | exact .inr rfl | exact .inr (IsL.ren1 (by assumption))), .inl rfl, (.inr (pval_snoc rfl)), (.inr ?_), .inl rfl, .inl rfl, .inl rfl, .inl rfl, .inl rfl, .inl rfl, (by first | exact .inr rfl | exact .inr (IsL.ren1 (by assumption))), (by first | exact .inr rfl | exact .inr (IsL.ren1 (by assumption))), (by first | exact .inr rfl | exact .inr (IsL.ren1 (by assumption))), .inl rfl, .inl rfl, .inl rfl, .inl rfl, .inl rfl, .inl rfl, .inl rfl, .inl rfl, .inl rfl, .inl rfl, .inl rfl, .inl rfl, .inl rfl, .inl rfl, .inl rfl, .inl rfl, .inl rfl, .inl rfl, .inl rfl, .inl rfl, .inl rfl, .inl rfl, .inl rfl, .inl rfl, .inl rfl, .inl rfl, .inl rfl, .inl rfl, .inl rfl, .inl rfl, .inl rfl, .inl rfl, .inl rfl, .inl rfl, .inl rfl, .inl rfl, .inl rfl, .inl rfl, .inl rfl, .inl rfl, .inl rfl, .inl rfl, .inl rfl, .inl rfl, .inl rfl, .inl rfl, .inl rfl, .inl rfl, .inl rfl, .inl rfl, .inl rfl, .inl rfl, .inl rfl, .inl rfl, .inl rfl, .inl rfl, .inl rfl, .inl rfl, .inl rfl, .inl rfl, .inl rfl, .inl rfl, .inl rfl, .inl rfl, .inl rfl, .inl rfl, .inl rfl, .inl rfl, .inl rfl, .inl rfl, .inl rfl, .inl rfl, .inl rfl, .inl rfl, .inl rfl, .inl rfl, .inl rfl, .inl rfl, .inl rfl, .inl rfl, .inl rfl, .inl rfl, .inl rfl, .inl rfl, .inl rfl, .inl rfl, .inl rfl, .inl rfl, .inl rfl, .inl rfl, .inl rfl, .inl rfl, .inl rfl, .inl rfl, .inl rfl, .inl rfl, .inl rfl, .inl rfl, .inl rfl, .inl rfl, .inl rfl, .inl rfl, .inl rfl, .inl rfl, .inl rfl, .inl rfl, .inl rfl, .inl rfl, .inl rfl, .inl rfl, .inl rfl, .inl rfl, .inl rfl, .inl rfl, .inl rfl, .inl rfl, .inl rfl, .inl rfl, .inl rfl, .inl rfl, .inl rfl, .inl rfl, .inl rfl, .inl rfl, .inl rfl, .inl rfl, .inl rfl, .inl rfl, .inl rfl, .inl rfl, .inl rfl, .inl rfl, .inl rfl, .inl rfl, .inl rfl, .inl rfl, .inl rfl, .inl rfl, .inl rfl, .inl rfl, .inl rfl, .inl rfl, .inl rfl, .inl rfl, .inl rfl, .inl rfl, .inl rfl, .inl rfl, .inl rfl, .inl rfl, .inl rfl, .inl rfl, .inl rfl, .inl rfl, .inl rfl, .inl rfl, .inl rfl, .inl rfl, .inl rfl, .inl rfl, .inl rfl, .inl rfl, .inl rfl, .inl rfl, .inl rfl, .inl rfl, .inl rfl, .inl rfl, .inl rfl, .inl rfl, .inl rfl, .inl rfl, .inl rfl, .inl rfl, .inl rfl, .inl rfl, .inl rfl, .inl rfl, .inl rfl, .inl rfl, .inl rfl, .inl rfl, .inl rfl, .inl rfl, .inl rfl, .inl rfl, .inl rfl, .inl rfl, .inl rfl, .inl rfl, .inl rfl, .inl rfl, .inl rfl, .inl rfl, .inl rfl, .inl rfl, .inl rfl, .inl rfl, .inl rfl, .inl rfl, .inl rfl, .inl rfl, .inl rfl, .inl rfl, .inl rfl, .inl rfl, .inl rfl, .inl rfl, .inl rfl, trivial⟩ (by decide) (fun _ h => absurd h (by omega)) ⟨.inr ⟨_, rfl, ren_arr rfl⟩, .inr ⟨_, rfl, ren_arr rfl⟩, .inr ⟨_, rfl, pobj_snoc (scan_new hI.inv hri hk (.inr ⟨_, hrq, by have := of_decide_eq_false hg78; simp only [pPg]; simp at hg88; omega⟩)).val⟩, trivial⟩
                            exact congrArg some (int_succ (by omega)).symm
                          · skip
                            simp at hg88 hc123
                            omega
                  · skip
                    refine d_norm (env' := (_ :: _ :: _ :: _ :: _ :: _ :: _ :: _ :: _ :: _ :: _ :: _ :: _ :: _ :: _ :: _ :: _ :: _ :: _ :: _ :: _ :: _ :: _ :: _ :: _ :: _ :: _ :: _ :: _ :: _ :: _ :: _ :: _ :: _ :: _ :: _ :: _ :: _ :: _ :: _ :: _ :: _ :: _ :: _ :: _ :: _ :: _ :: _ :: _ :: _ :: _ :: _ :: _ :: _ :: _ :: _ :: _ :: _ :: _ :: _ :: _ :: _ :: _ :: _ :: _ :: _ :: _ :: _ :: _ :: _ :: _ :: _ :: _ :: _ :: _ :: _ :: _ :: _ :: _ :: _ :: _ :: _ :: _ :: _ :: _ :: _ :: _ :: _ :: _ :: _ :: _ :: _ :: _ :: _ :: _ :: _ :: _ :: _ :: _ :: _ :: _ :: _ :: _ :: _ :: _ :: _ :: _ :: _ :: _ :: _ :: _ :: _ :: _ :: _ :: _ :: _ :: _ :: _ :: _ :: _ :: _ :: _ :: _ :: _ :: _ :: _ :: _ :: _ :: _ :: _ :: _ :: _ :: _ :: _ :: _ :: _ :: _ :: _ :: _ :: _ :: _ :: _ :: _ :: _ :: _ :: _ :: _ :: _ :: _ :: _ :: _ :: _ :: _ :: _ :: _ :: _ :: _ :: _ :: _ :: _ :: _ :: _ :: _ :: _ :: _ :: _ :: _ :: _ :: _ :: _ :: _ :: _ :: _ :: _ :: _ :: _ :: _ :: _ :: _ :: _ :: _ :: _ :: _ :: _ :: _ :: _ :: _ :: _ :: _ :: _ :: _ :: _ :: _ :: _ :: _ :: _ :: _ :: _ :: _ :: _ :: _ :: _ :: _ :: _ :: _ :: _ :: _ :: _ :: _ :: _ :: _ :: _ :: _ :: _ :: _ :: _ :: _ :: _ :: _ :: _ :: _ :: _ :: _ :: _ :: _ :: _ :: _ :: _ :: _ :: _ :: [])) (H' := [VO.arr 24 2 [[.int .i64 last0, .list tg rows]], VO.arr 24 2 [[.int .i64 0, .nils]], pobj 3 1 pgs, .arr 31 3 [[_, _, _]]]) rfl rfl ?_
                    refine d_skipN (env' := _) (wanted_f 68 (by kernel_rfl) rfl) rfl (nd_t7m rfl ?_)
                    refine d_skipN (env' := _) (wanted_f 68 (by kernel_rfl) rfl) rfl (nd_t7m rfl ?_)
                    refine d_skipN (env' := _) (wanted_f 68 (by kernel_rfl) rfl) rfl (nd_t7m rfl ?_)
                    refine d_skipN (env' := _) (wanted_f 68 (by kernel_rfl) rfl) rfl (nd_t7m rfl ?_)
                    refine d_skipN (env' := _) (wanted_f 68 (by kernel_rfl) rfl) rfl (nd_t7m rfl ?_)
                    refine d_skipN (env' := _) (wanted_f 68 (by kernel_rfl) rfl) rfl (nd_t7m rfl ?_)
                    refine d_skipN (env' := _) (wanted_f 68 (by kernel_rfl) rfl) rfl (nd_t7m rfl ?_)
                    refine d_skipN (env' := _) (wanted_f 68 (by kernel_rfl) rfl) rfl (nd_t7m rfl ?_)
                    refine d_skipN (env' := _) (wanted_f 68 (by kernel_rfl) rfl) rfl (nd_t7m rfl ?_)
                    refine d_skipN (env' := _) (wanted_f 68 (by kernel_rfl) rfl) rfl (nd_t7m rfl ?_)
                    refine d_skipN (env' := _) (wanted_k 78 (by kernel_rfl) rfl) rfl (nd_t7m rfl ?_)
                    refine d_skipN (env' := _) (wanted_k 78 (by kernel_rfl) rfl) rfl (nd_t7m rfl ?_)
                    refine d_skipN (env' := _) (wanted_k 78 (by kernel_rfl) rfl) rfl (nd_t7m rfl ?_)
                    refine d_skipN (env' := _) (wanted_k 78 (by kernel_rfl) rfl) rfl (nd_t7m rfl ?_)
                    refine d_skipN (env' := _) (wanted_k 78 (by kernel_rfl) rfl) rfl (nd_t7m rfl ?_)
                    refine d_skipN (env' := _) (wanted_k 78 (by kernel_rfl) rfl) rfl (nd_t7m rfl ?_)
                    refine d_skipN (env' := _) (wanted_k 78 (by kernel_rfl) rfl) rfl (nd_t7m rfl ?_)
                    refine d_skipN (env' := _) (wanted_k 78 (by kernel_rfl) rfl) rfl (nd_t7m rfl ?_)
                    refine d_skipN (env' := _) (wanted_k 78 (by kernel_rfl) rfl) rfl (nd_t7m rfl ?_)
                    refine d_skipN (env' := _) (wanted_k 78 (by kernel_rfl) rfl) rfl (nd_t7m rfl ?_)
                    refine d_skipN (env' := _) (wanted_k 88 (by kernel_rfl) rfl) rfl (nd_t7m rfl ?_)
                    refine d_skipN (env' := _) (wanted_k 88 (by kernel_rfl) rfl) rfl (nd_t7m rfl ?_)
                    refine d_skipN (env' := _) (wanted_k 88 (by kernel_rfl) rfl) rfl (nd_t7m rfl ?_)
                    refine d_skipN (env' := _) (wanted_k 88 (by kernel_rfl) rfl) rfl (nd_t7m rfl ?_)
                    refine d_skipN (env' := _) (wanted_k 88 (by kernel_rfl) rfl) rfl (nd_t7m rfl ?_)
                    refine d_skipN (env' := _) (wanted_k 88 (by kernel_rfl) rfl) rfl (nd_t7m rfl ?_)
                    refine d_skipN (env' := _) (wanted_k 88 (by kernel_rfl) rfl) rfl (nd_t7m rfl ?_)
                    refine d_skipN (env' := _) (wanted_k 88 (by kernel_rfl) rfl) rfl (nd_t7m rfl ?_)
                    refine d_skipN (env' := _) (wanted_k 88 (by kernel_rfl) rfl) rfl (nd_t7m rfl ?_)
                    refine d_skipN (env' := _) (wanted_k 88 (by kernel_rfl) rfl) rfl (nd_t7m rfl ?_)
                    refine d_skipN (env' := _) (wanted_k 88 (by kernel_rfl) rfl) rfl (nd_t7m rfl ?_)
                    refine d_skipN (env' := _) (wanted_k 88 (by kernel_rfl) rfl) rfl (nd_t7m rfl ?_)
                    refine d_skipN (env' := _) (wanted_k 88 (by kernel_rfl) rfl) rfl (nd_t7m rfl ?_)
                    refine d_skipN (env' := _) (wanted_k 88 (by kernel_rfl) rfl) rfl (nd_t7m rfl ?_)
                    refine d_skipN (env' := _) (wanted_k 88 (by kernel_rfl) rfl) rfl (nd_t7m rfl ?_)
                    refine d_skipN (env' := _) (wanted_k 88 (by kernel_rfl) rfl) rfl (nd_t7m rfl ?_)
                    refine d_skipN (env' := _) (wanted_k 88 (by kernel_rfl) rfl) rfl (nd_t7m rfl ?_)
                    refine d_skipN (env' := _) (wanted_k 78 (by kernel_rfl) rfl) rfl (nd_t7m rfl ?_)
                    refine d_skipN (env' := _) (wanted_f 68 (by kernel_rfl) rfl) rfl (nd_t7m rfl ?_)
                    refine d_opH (env' := _) (H2 := [VO.arr 24 2 [[.int .i64 last0, .list tg rows]], VO.arr 24 2 [[.int .i64 0, .nils]], pobj 3 1 pgs, .arr 31 3 [[_, _, _]]]) rfl rfl (.inr rfl) rfl rfl (fun _ h => h) (nd_t7m rfl ?_)
                    refine d_end rfl ?_
                    refine vc_false rfl ?_
                    refine vc_skip ?_
                    refine n_then ?_
                    refine vc_seq ?_
                    refine w_regionD (by kernel_rfl) ?_
                    refine d_opH (env' := _) (H2 := [VO.arr 24 2 [[.int .i64 last0, .list tg rows]], VO.arr 24 2 [[.int .i64 0, .nils]], pobj 3 1 pgs, .arr 31 3 [[_, _, _]]]) rfl rfl (.inr rfl) rfl rfl (fun _ h => h) (nd_t7m rfl ?_)
                    refine d_opH (v := .int .i64 ((pgs.length : Nat) : Int)) (env' := _) (H2 := [VO.arr 24 2 [[.int .i64 last0, .list tg rows]], VO.arr 24 2 [[.int .i64 0, .nils]], pobj 3 1 pgs, .arr 31 3 [[_, _, _]]]) rfl (pval_len Tryd.underlying26) (.inr rfl) rfl (rfl) (fun _ h => h) (nd_t7m rfl ?_)
                    refine d_opH (env' := _) (H2 := [VO.arr 24 2 [[.int .i64 last0, .list tg rows]], VO.arr 24 2 [[.int .i64 0, .nils]], pobj 3 1 pgs, .arr 31 3 [[_, _, _]]]) rfl rfl (.inr rfl) rfl rfl (fun _ h => h) (nd_t7m rfl ?_)
                    refine d_opH (env' := _) (H2 := [VO.arr 24 2 [[.int .i64 last0, .list tg rows]], VO.arr 24 2 [[.int .i64 0, .nils]], pobj 3 1 pgs, .arr 31 3 [[_, _, _]]]) rfl rfl (.inr rfl) rfl rfl (fun _ h => h) (nd_t7m rfl ?_)
                    refine d_split 113 rfl (fun hg113 => ?_) (fun hg113 => ?_)
                    · skip
                      refine d_norm (env' := (_ :: _ :: _ :: _ :: _ :: _ :: _ :: _ :: _ :: _ :: _ :: _ :: _ :: _ :: _ :: _ :: _ :: _ :: _ :: _ :: _ :: _ :: _ :: _ :: _ :: _ :: _ :: _ :: _ :: _ :: _ :: _ :: _ :: _ :: _ :: _ :: _ :: _ :: _ :: _ :: _ :: _ :: _ :: _ :: _ :: _ :: _ :: _ :: _ :: _ :: _ :: _ :: _ :: _ :: _ :: _ :: _ :: _ :: _ :: _ :: _ :: _ :: _ :: _ :: _ :: _ :: _ :: _ :: _ :: _ :: _ :: _ :: _ :: _ :: _ :: _ :: _ :: _ :: _ :: _ :: _ :: _ :: _ :: _ :: _ :: _ :: _ :: _ :: _ :: _ :: _ :: _ :: _ :: _ :: _ :: _ :: _ :: _ :: _ :: _ :: _ :: _ :: _ :: _ :: _ :: _ :: _ :: _ :: _ :: _ :: _ :: _ :: _ :: _ :: _ :: _ :: _ :: _ :: _ :: _ :: _ :: _ :: _ :: _ :: _ :: _ :: _ :: _ :: _ :: _ :: _ :: _ :: _ :: _ :: _ :: _ :: _ :: _ :: _ :: _ :: _ :: _ :: _ :: _ :: _ :: _ :: _ :: _ :: _ :: _ :: _ :: _ :: _ :: _ :: _ :: _ :: _ :: _ :: _ :: _ :: _ :: _ :: _ :: _ :: _ :: _ :: _ :: _ :: _ :: _ :: _ :: _ :: _ :: _ :: _ :: _ :: _ :: _ :: _ :: _ :: _ :: _ :: _ :: _ :: _ :: _ :: _ :: _ :: _ :: _ :: _ :: _ :: _ :: _ :: _ :: _ :: _ :: _ :: _ :: _ :: _ :: _ :: _ :: _ :: _ :: _ :: _ :: _ :: _ :: _ :: _ :: _ :: _ :: _ :: _ :: _ :: _ :: _ :: _ :: _ :: _ :: _ :: _ :: _ :: _ :: _ :: _ :: _ :: _ :: _ :: [])) (H' := [VO.arr 24 2 [[.int .i64 last0, .list tg rows]], VO.arr 24 2 [[.int .i64 0, .nils]], pobj 3 1 pgs, .arr 31 3 [[_, _, _]]]) rfl rfl ?_
                      refine d_skipN (env' := _) (wanted_f 113 (by kernel_rfl) rfl) rfl (nd_t7m rfl ?_)
                      refine d_skipN (env' := _) (wanted_f 113 (by kernel_rfl) rfl) rfl (nd_t7m rfl ?_)
                      refine d_skipN (env' := _) (wanted_f 113 (by kernel_rfl) rfl) rfl (nd_t7m rfl ?_)
                      refine d_skipN (env' := _) (wanted_f 113 (by kernel_rfl) rfl) rfl (nd_t7m rfl ?_)
                      refine d_skipN (env' := _) (wanted_f 113 (by kernel_rfl) rfl) rfl (nd_t7m rfl ?_)
                      refine d_skipN (env' := _) (wanted_f 113 (by kernel_rfl) rfl) rfl (nd_t7m rfl ?_)
                      refine d_skipN (env' := _) (wanted_f 113 (by kernel_rfl) rfl) rfl (nd_t7m rfl ?_)
                      refine d_skipN (env' := _) (wanted_f 113 (by kernel_rfl) rfl) rfl (nd_t7m rfl ?_)
                      refine d_skipN (env' := _) (wanted_f 113 (by kernel_rfl) rfl) rfl (nd_t7m rfl ?_)
                      refine d_opH (env' := _) (H2 := [VO.arr 24 2 [[.int .i64 last0, .list tg rows]], VO.arr 24 2 [[.int .i64 0, .nils]], pobj 3 1 pgs, .arr 31 3 [[_, _, _]]]) rfl rfl (.inr rfl) rfl rfl (fun _ h => h) (nd_t7m rfl ?_)
                      refine d_end rfl ?_
                      refine vc_true rfl ?_
                      refine w_region ?_
                      refine w_opN (env' := _) rfl rfl rfl (fun _ h => h) (nv_t7m rfl ?_)
                      refine w_opN (v := .ptr 3 0 0) (env' := _) rfl rfl rfl (fun _ h => h) (nv_t7m rfl ?_)
                      refine w_opN (env' := _) rfl rfl rfl (fun _ h => h) (nv_t7m rfl ?_)
                      refine w_opN (env' := _) rfl rfl rfl (fun _ h => h) (nv_t7m rfl ?_)
                      refine w_opH (v := .row false 4 0 (pgs.length + 1)) (env' := _) (H2 := [VO.arr 24 2 [[.int .i64 last0, .list tg rows]], VO.arr 24 2 [[.int .i64 0, .nils]], .dead, _, .arr 3 1 (pgs ++ [[.int .i64 pg]])]) rfl (acc_append (H := [VO.arr 24 2 [[.int .i64 last0, .list tg rows]], VO.arr 24 2 [[.int .i64 0, .nils]], pobj 3 1 pgs, VO.arr 31 3 [[.int .i64 pg, .int .i64 a, b]]]) (pgs := pgs) (news := [[.int .i64 pg]]) (x := .list .tight [[.int .i64 pg]]) (L := 2) (sz := 1) rfl el26 Tryd.underlying26 rfl zc3 by3 rfl rfl (by decide) (by decide) rfl rfl (by simp) rfl (by have := hI.inv.len; simp; omega)) rfl (rfl) (fun _ h => h) (nv_t7m rfl ?_)
                      refine w_opN (env' := _) rfl rfl rfl (fun _ h => h) (nv_t7m rfl ?_)
                      refine w_endB rfl ?_
                      refine n_then ?_
                      refine w_region ?_
                      refine w_opN (env' := _) rfl rfl rfl (fun _ h => h) (nv_t7m rfl ?_)
                      refine w_opN (env' := _) rfl rfl rfl (fun _ h => h) (nv_t7m rfl ?_)
                      refine w_opN (env' := _) rfl rfl rfl (fun _ h => h) (nv_t7m rfl ?_)
                      refine w_end rfl ?_
                      refine hY0 ⟨(i + 1, pgs ++ [[.int .i64 pg]]), hI.new hri hk (.inl (by have := of_decide_eq_false hg68; omega))⟩ (by have := hI.inv.le; simp only; omega) _ _ [0, 1, 4] ⟨(.inr rfl), (by first | exact .inr rfl | exact .inr (IsL.ren1 (by assumption))), (by first | exact .inr rfl | exact .inr (IsL.ren1 (by assumption))), (by first | exact .inr rfl | exact .inr (IsL.ren1 (by assumption))), (by first | exact .inr rfl | exact .inr (IsL.ren1 (by assumption))), .inl rfl, .inl rfl, .inl rfl, (by first | exact .inr rfl | exact .inr (IsL.ren1 (by assumption))), .inl rfl, (.inr (pval_snoc rfl)), (.inr ?_), .inl rfl, .inl rfl, .inl rfl, .inl rfl, .inl rfl, .inl rfl, (by first | exact .inr rfl | exact .inr (IsL.ren1 (by assumption))), (by first | exact .inr rfl | exact .inr (IsL.ren1 (by assumption))), (by first | exact .inr rfl | exact .inr (IsL.ren1 (by assumption))), .inl rfl, .inl rfl, .inl rfl, .inl rfl, .inl rfl, .inl rfl, .inl rfl, .inl rfl, .inl rfl, .inl rfl, .inl rfl, .inl rfl, .inl rfl, .inl rfl, .inl rfl, .inl rfl, .inl rfl, .inl rfl, .inl rfl, .inl rfl, .inl rfl, .inl rfl, .inl rfl, .inl rfl, .inl rfl, .inl rfl, .inl rfl, .inl rfl, .inl rfl, .inl rfl, .inl rfl, .inl rfl, .inl rfl, .inl rfl, .inl rfl, .inl rfl, .inl rfl, .inl rfl, .inl rfl, .inl rfl, .inl rfl, .inl rfl, .inl rfl, .inl rfl, .inl rfl, .inl rfl, .inl rfl, .inl rfl, .inl rfl, .inl rfl, .inl rfl, .inl rfl, .inl rfl, .inl rfl, .inl rfl, .inl rfl, .inl rfl, .inl rfl, .inl rfl, .inl rfl, .inl rfl, .inl rfl, .inl rfl, .inl rfl, .inl rfl, .inl rfl, .inl rfl, .inl rfl, .inl rfl, .inl rfl, .inl rfl, .inl rfl, .inl rfl, .inl rfl, .inl rfl, .inl rfl, .inl rfl, .inl rfl, .inl rfl, .inl rfl, .inl rfl, .inl rfl, .inl rfl, .inl rfl, .inl rfl, .inl rfl, .inl rfl, .inl rfl, .inl rfl, .inl rfl, .inl rfl, .inl rfl, .inl rfl, .inl rfl, .inl rfl, .inl rfl, .inl rfl, .inl rfl, .inl rfl, .inl rfl, .inl rfl, .inl rfl, .inl rfl, .inl rfl, .inl rfl, .inl rfl, .inl rfl, .inl rfl, .inl rfl, .inl rfl, .inl rfl, .inl rfl, .inl rfl, .inl rfl, .inl rfl, .inl rfl, .inl rfl, .inl rfl, .inl rfl, .inl rfl, .inl rfl, .inl rfl, .inl rfl, .inl rfl, .inl rfl, .inl rfl, .inl rfl, .inl rfl, .inl rfl, .inl rfl, .inl rfl, .inl rfl, .inl rfl, .inl rfl, .inl rfl, .inl rfl, .inl rfl, .inl rfl, .inl rfl, .inl rfl, .inl rfl, .inl rfl, .inl rfl, .inl rfl, .inl rfl, .inl rfl, .inl rfl, .inl rfl, .inl rfl, .inl rfl, .inl rfl, .inl rfl, .inl rfl, .inl rfl, .inl rfl, .inl rfl, .inl rfl, .inl rfl, .inl rfl, .inl rfl, .inl rfl, .inl rfl, .inl rfl, .inl rfl, .inl rfl, .inl rfl, .inl rfl, .inl rfl, .inl rfl, .inl rfl, .inl rfl, .inl rfl, .inl rfl, .inl rfl, .inl rfl, .inl rfl, .inl rfl, .inl rfl, .inl rfl, .inl rfl, .inl rfl, .inl rfl, .inl rfl, .inl rfl, .inl rfl, .inl rfl, .inl rfl, .inl rfl, .inl rfl, .inl rfl, .inl rfl, .inl rfl, .inl rfl, .inl rfl, .inl rfl, .inl rfl, .inl rfl, .inl rfl, .inl rfl, .inl rfl, .inl rfl, .inl rfl, .inl rfl, .inl rfl, .inl rfl, .inl rfl, .inl rfl, .inl rfl, .inl rfl, trivial⟩ (by decide) (fun _ h => absurd h (by omega)) ⟨.inr ⟨_, rfl, ren_arr rfl⟩, .inr ⟨_, rfl, ren_arr rfl⟩, .inr ⟨_, rfl, pobj_snoc (scan_new hI.inv hri hk (.inl (by have := of_decide_eq_false hg68; omega))).val⟩, trivial⟩
                      exact congrArg some (int_succ (by omega)).symm
                    · skip
                      have : pgs = [] := hI.zero (by have := of_decide_eq_false hg68; omega)
                      rw [this] at hg113
                      cases hg113
    · skip
      have hge : ¬ i < (lrows l).length := by simpa using hc25
      have hsc := scan_end hI.inv (by omega)
      obtain ⟨hok, hpg⟩ := scan_ok _ _ _ hsc
      have hpl1 := hI.inv.len
      have hile := hI.inv.le
      refine vc_exit ?_
      refine x_then ?_
      refine x_then ?_
      refine x_same ?_
      refine n_then ?_
      refine vc_seq ?_
      refine vc_seq ?_
      refine w_region ?_
      clear hY0 Y0
      refine w_opN (env' := _) rfl rfl rfl (fun _ h => h) (nv_t7m rfl ?_)
      first | refine w_opN (env' := _) rfl rfl rfl (fun _ h => h) (nv_t7m rfl ?_) | refine x_len (env' := _) rfl rfl (by assumption) Tryd.underlying26 rfl (nv_t7m rfl ?_)
      refine w_opN (env' := _) rfl rfl rfl (fun _ h => h) (nv_t7m rfl ?_)
      refine w_opH (v := .int .i64 ((pgs.length : Nat) : Int)) (env' := _) (H2 := [VO.arr 24 2 [[.int .i64 last0, .list tg rows]], VO.arr 24 2 [[.int .i64 0, .nils]], pobj 3 1 pgs]) rfl (pval_len Tryd.underlying26) rfl (rfl) (fun _ h => h) (nv_t7m rfl ?_)
      refine w_opN (env' := _) rfl rfl rfl (fun _ h => h) (nv_t7m rfl ?_)
      refine w_opN (env' := _) rfl rfl rfl (fun _ h => h) (nv_t7m rfl ?_)
      refine w_split 134 rfl (fun hg134 => ?_) (fun hg134 => ?_)
      · skip
        refine w_norm (env' := (_ :: _ :: _ :: _ :: _ :: _ :: _ :: _ :: _ :: _ :: _ :: _ :: _ :: _ :: _ :: _ :: _ :: _ :: _ :: _ :: _ :: _ :: _ :: _ :: _ :: _ :: _ :: _ :: _ :: _ :: _ :: _ :: _ :: _ :: _ :: _ :: _ :: _ :: _ :: _ :: _ :: _ :: _ :: _ :: _ :: _ :: _ :: _ :: _ :: _ :: _ :: _ :: _ :: _ :: _ :: _ :: _ :: _ :: _ :: _ :: _ :: _ :: _ :: _ :: _ :: _ :: _ :: _ :: _ :: _ :: _ :: _ :: _ :: _ :: _ :: _ :: _ :: _ :: _ :: _ :: _ :: _ :: _ :: _ :: _ :: _ :: _ :: _ :: _ :: _ :: _ :: _ :: _ :: _ :: _ :: _ :: _ :: _ :: _ :: _ :: _ :: _ :: _ :: _ :: _ :: _ :: _ :: _ :: _ :: _ :: _ :: _ :: _ :: _ :: _ :: _ :: _ :: _ :: _ :: _ :: _ :: _ :: _ :: _ :: _ :: _ :: _ :: _ :: _ :: _ :: _ :: _ :: _ :: _ :: _ :: _ :: _ :: _ :: _ :: _ :: _ :: _ :: _ :: _ :: _ :: _ :: _ :: _ :: _ :: _ :: _ :: _ :: _ :: _ :: _ :: _ :: _ :: _ :: _ :: _ :: _ :: _ :: _ :: _ :: _ :: _ :: _ :: _ :: _ :: _ :: _ :: _ :: _ :: _ :: _ :: _ :: _ :: _ :: _ :: _ :: _ :: _ :: _ :: _ :: _ :: _ :: _ :: _ :: _ :: _ :: _ :: _ :: _ :: _ :: _ :: _ :: _ :: _ :: _ :: _ :: _ :: _ :: _ :: _ :: _ :: _ :: _ :: _ :: _ :: _ :: _ :: _ :: _ :: _ :: _ :: _ :: _ :: _ :: _ :: _ :: _ :: _ :: _ :: _ :: _ :: _ :: _ :: _ :: _ :: _ :: [])) (H' := [VO.arr 24 2 [[.int .i64 last0, .list tg rows]], VO.arr 24 2 [[.int .i64 0, .nils]], pobj 3 1 pgs]) rfl rfl ?_
        refine w_skipN (env' := _) (wanted_f 134 (by kernel_rfl) rfl) rfl (nv_t7m rfl ?_)
        refine w_skipN (env' := _) (wanted_f 134 (by kernel_rfl) rfl) rfl (nv_t7m rfl ?_)
        refine w_skipN (env' := _) (wanted_f 134 (by kernel_rfl) rfl) rfl (nv_t7m rfl ?_)
        refine w_skipN (env' := _) (wanted_f 134 (by kernel_rfl) rfl) rfl (nv_t7m rfl ?_)
        refine w_opN (env' := _) rfl rfl rfl (fun _ h => h) (nv_t7m rfl ?_)
        refine w_opN (env' := _) rfl rfl rfl (fun _ h => h) (nv_t7m rfl ?_)
        refine w_skipN (env' := _) (wanted_f 140 (by kernel_rfl) rfl) rfl (nv_t7m rfl ?_)
        refine w_skipN (env' := _) (wanted_f 140 (by kernel_rfl) rfl) rfl (nv_t7m rfl ?_)
        refine w_opN (env' := _) rfl rfl rfl (fun _ h => h) (nv_t7m rfl ?_)
        refine w_end rfl ?_
        refine vc_true rfl ?_
        refine vc_seq ?_
        refine w_region ?_
        refine w_opN (v := .agg [_, _]) (env' := _) rfl rfl rfl (fun _ h => h) (nv_t7m rfl ?_)
        refine w_op0N (H2 := [VO.arr 24 2 [[.int .i64 last0, .list tg rows]], VO.arr 24 2 [[.int .i64 0, .nils]], pobj 3 1 pgs]) rfl rfl rfl (fun _ h => h) ?_
        refine w_opN (env' := _) rfl rfl rfl (fun _ h => h) (nv_t7m rfl ?_)
        refine w_end rfl ?_
        refine vc_ret ?_
        refine r_then ?_
        refine r_fn rfl ?_
        -- return 8
        have hbad : badW last0 last pgs (lrows st) = true := by simp only [badW, hg134, Bool.true_or]
        show retv _ _ = some (withR last0 rows (lrows l) (lrows st) last)
        rw [withR, if_pos hval, hsc]
        simp only [hbad, if_true]
        rfl
      · skip
        refine w_norm (env' := (_ :: _ :: _ :: _ :: _ :: _ :: _ :: _ :: _ :: _ :: _ :: _ :: _ :: _ :: _ :: _ :: _ :: _ :: _ :: _ :: _ :: _ :: _ :: _ :: _ :: _ :: _ :: _ :: _ :: _ :: _ :: _ :: _ :: _ :: _ :: _ :: _ :: _ :: _ :: _ :: _ :: _ :: _ :: _ :: _ :: _ :: _ :: _ :: _ :: _ :: _ :: _ :: _ :: _ :: _ :: _ :: _ :: _ :: _ :: _ :: _ :: _ :: _ :: _ :: _ :: _ :: _ :: _ :: _ :: _ :: _ :: _ :: _ :: _ :: _ :: _ :: _ :: _ :: _ :: _ :: _ :: _ :: _ :: _ :: _ :: _ :: _ :: _ :: _ :: _ :: _ :: _ :: _ :: _ :: _ :: _ :: _ :: _ :: _ :: _ :: _ :: _ :: _ :: _ :: _ :: _ :: _ :: _ :: _ :: _ :: _ :: _ :: _ :: _ :: _ :: _ :: _ :: _ :: _ :: _ :: _ :: _ :: _ :: _ :: _ :: _ :: _ :: _ :: _ :: _ :: _ :: _ :: _ :: _ :: _ :: _ :: _ :: _ :: _ :: _ :: _ :: _ :: _ :: _ :: _ :: _ :: _ :: _ :: _ :: _ :: _ :: _ :: _ :: _ :: _ :: _ :: _ :: _ :: _ :: _ :: _ :: _ :: _ :: _ :: _ :: _ :: _ :: _ :: _ :: _ :: _ :: _ :: _ :: _ :: _ :: _ :: _ :: _ :: _ :: _ :: _ :: _ :: _ :: _ :: _ :: _ :: _ :: _ :: _ :: _ :: _ :: _ :: _ :: _ :: _ :: _ :: _ :: _ :: _ :: _ :: _ :: _ :: _ :: _ :: _ :: _ :: _ :: _ :: _ :: _ :: _ :: _ :: _ :: _ :: _ :: _ :: _ :: _ :: _ :: _ :: _ :: _ :: _ :: _ :: _ :: _ :: _ :: _ :: _ :: _ :: [])) (H' := [VO.arr 24 2 [[.int .i64 last0, .list tg rows]], VO.arr 24 2 [[.int .i64 0, .nils]], pobj 3 1 pgs]) rfl rfl ?_
        refine w_opN (env' := _) (wanted_t 134 (by kernel_rfl) rfl) rfl rfl (fun _ h => h) (nv_t7m rfl ?_)
        refine w_opN (v := .ptr 0 0 0) (env' := _) (wanted_t 134 (by kernel_rfl) rfl) rfl rfl (fun _ h => h) (nv_t7m rfl ?_)
        refine w_opN (env' := _) (wanted_t 134 (by kernel_rfl) rfl) rfl rfl (fun _ h => h) (nv_t7m rfl ?_)
        refine w_opN (env' := _) (wanted_t 134 (by kernel_rfl) rfl) rfl rfl (fun _ h => h) (nv_t7m rfl ?_)
        refine w_opN (env' := _) rfl rfl rfl (fun _ h => h) (nv_t7m rfl ?_)
        refine w_opN (env' := _) rfl rfl rfl (fun _ h => h) (nv_t7m rfl ?_)
        refine w_split 140 rfl (fun hg140 => ?_) (fun hg140 => ?_)
        · skip
          refine w_norm (env' := (_ :: _ :: _ :: _ :: _ :: _ :: _ :: _ :: _ :: _ :: _ :: _ :: _ :: _ :: _ :: _ :: _ :: _ :: _ :: _ :: _ :: _ :: _ :: _ :: _ :: _ :: _ :: _ :: _ :: _ :: _ :: _ :: _ :: _ :: _ :: _ :: _ :: _ :: _ :: _ :: _ :: _ :: _ :: _ :: _ :: _ :: _ :: _ :: _ :: _ :: _ :: _ :: _ :: _ :: _ :: _ :: _ :: _ :: _ :: _ :: _ :: _ :: _ :: _ :: _ :: _ :: _ :: _ :: _ :: _ :: _ :: _ :: _ :: _ :: _ :: _ :: _ :: _ :: _ :: _ :: _ :: _ :: _ :: _ :: _ :: _ :: _ :: _ :: _ :: _ :: _ :: _ :: _ :: _ :: _ :: _ :: _ :: _ :: _ :: _ :: _ :: _ :: _ :: _ :: _ :: _ :: _ :: _ :: _ :: _ :: _ :: _ :: _ :: _ :: _ :: _ :: _ :: _ :: _ :: _ :: _ :: _ :: _ :: _ :: _ :: _ :: _ :: _ :: _ :: _ :: _ :: _ :: _ :: _ :: _ :: _ :: _ :: _ :: _ :: _ :: _ :: _ :: _ :: _ :: _ :: _ :: _ :: _ :: _ :: _ :: _ :: _ :: _ :: _ :: _ :: _ :: _ :: _ :: _ :: _ :: _ :: _ :: _ :: _ :: _ :: _ :: _ :: _ :: _ :: _ :: _ :: _ :: _ :: _ :: _ :: _ :: _ :: _ :: _ :: _ :: _ :: _ :: _ :: _ :: _ :: _ :: _ :: _ :: _ :: _ :: _ :: _ :: _ :: _ :: _ :: _ :: _ :: _ :: _ :: _ :: _ :: _ :: _ :: _ :: _ :: _ :: _ :: _ :: _ :: _ :: _ :: _ :: _ :: _ :: _ :: _ :: _ :: _ :: _ :: _ :: _ :: _ :: _ :: _ :: _ :: _ :: _ :: _ :: _ :: _ :: [])) (H' := [VO.arr 24 2 [[.int .i64 last0, .list tg rows]], VO.arr 24 2 [[.int .i64 0, .nils]], pobj 3 1 pgs]) rfl rfl ?_
          refine w_skipN (env' := _) (wanted_f 140 (by kernel_rfl) rfl) rfl (nv_t7m rfl ?_)
          refine w_skipN (env' := _) (wanted_f 140 (by kernel_rfl) rfl) rfl (nv_t7m rfl ?_)
          refine w_opN (env' := _) rfl rfl rfl (fun _ h => h) (nv_t7m rfl ?_)
          refine w_end rfl ?_
          refine vc_true rfl ?_
          refine vc_seq ?_
          refine w_region ?_
          refine w_opN (v := .agg [_, _]) (env' := _) rfl rfl rfl (fun _ h => h) (nv_t7m rfl ?_)
          refine w_op0N (H2 := [VO.arr 24 2 [[.int .i64 last0, .list tg rows]], VO.arr 24 2 [[.int .i64 0, .nils]], pobj 3 1 pgs]) rfl rfl rfl (fun _ h => h) ?_
          refine w_opN (env' := _) rfl rfl rfl (fun _ h => h) (nv_t7m rfl ?_)
          refine w_end rfl ?_
          refine vc_ret ?_
          refine r_then ?_
          refine r_fn rfl ?_
          -- return 9
          have hbad : badW last0 last pgs (lrows st) = true := by simp only [badW, hg140, Bool.or_true, Bool.true_or]
          show retv _ _ = some (withR last0 rows (lrows l) (lrows st) last)
          rw [withR, if_pos hval, hsc]
          simp only [hbad, if_true]
          rfl
        · skip
          refine w_norm (env' := (_ :: _ :: _ :: _ :: _ :: _ :: _ :: _ :: _ :: _ :: _ :: _ :: _ :: _ :: _ :: _ :: _ :: _ :: _ :: _ :: _ :: _ :: _ :: _ :: _ :: _ :: _ :: _ :: _ :: _ :: _ :: _ :: _ :: _ :: _ :: _ :: _ :: _ :: _ :: _ :: _ :: _ :: _ :: _ :: _ :: _ :: _ :: _ :: _ :: _ :: _ :: _ :: _ :: _ :: _ :: _ :: _ :: _ :: _ :: _ :: _ :: _ :: _ :: _ :: _ :: _ :: _ :: _ :: _ :: _ :: _ :: _ :: _ :: _ :: _ :: _ :: _ :: _ :: _ :: _ :: _ :: _ :: _ :: _ :: _ :: _ :: _ :: _ :: _ :: _ :: _ :: _ :: _ :: _ :: _ :: _ :: _ :: _ :: _ :: _ :: _ :: _ :: _ :: _ :: _ :: _ :: _ :: _ :: _ :: _ :: _ :: _ :: _ :: _ :: _ :: _ :: _ :: _ :: _ :: _ :: _ :: _ :: _ :: _ :: _ :: _ :: _ :: _ :: _ :: _ :: _ :: _ :: _ :: _ :: _ :: _ :: _ :: _ :: _ :: _ :: _ :: _ :: _ :: _ :: _ :: _ :: _ :: _ :: _ :: _ :: _ :: _ :: _ :: _ :: _ :: _ :: _ :: _ :: _ :: _ :: _ :: _ :: _ :: _ :: _ :: _ :: _ :: _ :: _ :: _ :: _ :: _ :: _ :: _ :: _ :: _ :: _ :: _ :: _ :: _ :: _ :: _ :: _ :: _ :: _ :: _ :: _ :: _ :: _ :: _ :: _ :: _ :: _ :: _ :: _ :: _ :: _ :: _ :: _ :: _ :: _ :: _ :: _ :: _ :: _ :: _ :: _ :: _ :: _ :: _ :: _ :: _ :: _ :: _ :: _ :: _ :: _ :: _ :: _ :: _ :: _ :: _ :: _ :: _ :: _ :: _ :: _ :: _ :: _ :: _ :: [])) (H' := [VO.arr 24 2 [[.int .i64 last0, .list tg rows]], VO.arr 24 2 [[.int .i64 0, .nils]], pobj 3 1 pgs]) rfl rfl ?_
          refine w_opN (env' := _) (wanted_t 140 (by kernel_rfl) rfl) rfl rfl (fun _ h => h) (nv_t7m rfl ?_)
          refine w_opN (env' := _) (wanted_t 140 (by kernel_rfl) rfl) rfl rfl (fun _ h => h) (nv_t7m rfl ?_)
          refine w_opN (env' := _) rfl rfl rfl (fun _ h => h) (nv_t7m rfl ?_)
          refine w_end rfl ?_
          refine vc_cond rfl (fun hc143 => ?_) (fun hc143 => ?_)
          · skip
            refine vc_seq ?_
            refine w_region ?_
            refine w_opN (v := .agg [_, _]) (env' := _) rfl rfl rfl (fun _ h => h) (nv_t7m rfl ?_)
            refine w_op0N (H2 := [VO.arr 24 2 [[.int .i64 last0, .list tg rows]], VO.arr 24 2 [[.int .i64 0, .nils]], pobj 3 1 pgs]) rfl rfl rfl (fun _ h => h) ?_
            refine w_opN (env' := _) rfl rfl rfl (fun _ h => h) (nv_t7m rfl ?_)
            refine w_end rfl ?_
            refine vc_ret ?_
            refine r_then ?_
            refine r_fn rfl ?_
            -- return 10
            have hbad : badW last0 last pgs (lrows st) = true := by simp only [badW, hc143, Bool.or_true, Bool.true_or]
            show retv _ _ = some (withR last0 rows (lrows l) (lrows st) last)
            rw [withR, if_pos hval, hsc]
            simp only [hbad, if_true]
            rfl
          · skip
            refine vc_skip ?_
            refine n_then ?_
            refine vc_seq ?_
            refine vc_seq ?_
            refine w_region ?_
            refine w_opN (env' := _) rfl rfl rfl (fun _ h => h) (nv_t7m rfl ?_)
            refine w_end rfl ?_
            refine vc_block ?_
            refine vc_loopX (α := { i : Nat // (∀ j r, j < i → (lrows st)[j]? = some r → badN last r = false) ∧ i ≤ (lrows st).length }) (fun i => (none :: none :: none :: none :: none :: none :: none :: none :: none :: (some .undef) :: none :: none :: none :: (some (.int .i64 (i.1 : Nat))) :: none :: none :: none :: none :: none :: none :: none :: none :: none :: none :: none :: none :: none :: none :: none :: none :: none :: none :: none :: none :: none :: none :: none :: none :: none :: none :: none :: none :: none :: none :: none :: none :: none :: none :: none :: none :: none :: none :: none :: none :: none :: none :: none :: none :: none :: none :: none :: none :: none :: none :: none :: none :: none :: none :: none :: none :: none :: none :: none :: none :: none :: none :: none :: none :: none :: none :: none :: none :: none :: none :: none :: none :: none :: none :: none :: none :: none :: none :: none :: none :: none :: none :: none :: none :: none :: none :: none :: none :: none :: none :: none :: none :: none :: none :: none :: none :: none :: none :: none :: none :: none :: none :: none :: none :: none :: none :: none :: none :: none :: none :: none :: none :: none :: none :: none :: none :: none :: none :: none :: none :: none :: none :: none :: none :: none :: none :: none :: none :: none :: none :: none :: (some .undef) :: (some .undef) :: (some .undef) :: (some .undef) :: (some .undef) :: (some .undef) :: (some .undef) :: (some .undef) :: (some .undef) :: (some .undef) :: (some .undef) :: (some .undef) :: (some .undef) :: (some .undef) :: (some .undef) :: (some .undef) :: (some .undef) :: (some .undef) :: (some .undef) :: (some .undef) :: none :: none :: none :: none :: none :: none :: none :: none :: none :: none :: none :: none :: none :: none :: none :: none :: none :: none :: none :: none :: none :: none :: none :: none :: none :: none :: none :: none :: none :: none :: none :: none :: none :: none :: none :: none :: none :: none :: none :: none :: none :: none :: none :: none :: none :: none :: none :: none :: none :: none :: none :: none :: none :: none :: none :: none :: none :: none :: none :: none :: none :: none :: none :: none :: none :: [])) (fun i => [VO.arr 24 2 [[.int .i64 last0, .list tg rows]], VO.arr 24 2 [[.int .i64 0, .nils]], pobj 3 1 pgs]) (fun i => (lrows st).length - i.1) ⟨0, fun j r h => by omega, by omega⟩ ⟨.inl rfl, .inl rfl, .inl rfl, .inl rfl, .inl rfl, .inl rfl, .inl rfl, .inl rfl, .inl rfl, .inr rfl, .inl rfl, .inl rfl, .inl rfl, .inl rfl, .inl rfl, .inl rfl, .inl rfl, .inl rfl, .inl rfl, .inl rfl, .inl rfl, .inl rfl, .inl rfl, .inl rfl, .inl rfl, .inl rfl, .inl rfl, .inl rfl, .inl rfl, .inl rfl, .inl rfl, .inl rfl, .inl rfl, .inl rfl, .inl rfl, .inl rfl, .inl rfl, .inl rfl, .inl rfl, .inl rfl, .inl rfl, .inl rfl, .inl rfl, .inl rfl, .inl rfl, .inl rfl, .inl rfl, .inl rfl, .inl rfl, .inl rfl, .inl rfl, .inl rfl, .inl rfl, .inl rfl, .inl rfl, .inl rfl, .inl rfl, .inl rfl, .inl rfl, .inl rfl, .inl rfl, .inl rfl, .inl rfl, .inl rfl, .inl rfl, .inl rfl, .inl rfl, .inl rfl, .inl rfl, .inl rfl, .inl rfl, .inl rfl, .inl rfl, .inl rfl, .inl rfl, .inl rfl, .inl rfl, .inl rfl, .inl rfl, .inl rfl, .inl rfl, .inl rfl, .inl rfl, .inl rfl, .inl rfl, .inl rfl, .inl rfl, .inl rfl, .inl rfl, .inl rfl, .inl rfl, .inl rfl, .inl rfl, .inl rfl, .inl rfl, .inl rfl, .inl rfl, .inl rfl, .inl rfl, .inl rfl, .inl rfl, .inl rfl, .inl rfl, .inl rfl, .inl rfl, .inl rfl, .inl rfl, .inl rfl, .inl rfl, .inl rfl, .inl rfl, .inl rfl, .inl rfl, .inl rfl, .inl rfl, .inl rfl, .inl rfl, .inl rfl, .inl rfl, .inl rfl, .inl rfl, .inl rfl, .inl rfl, .inl rfl, .inl rfl, .inl rfl, .inl rfl, .inl rfl, .inl rfl, .inl rfl, .inl rfl, .inl rfl, .inl rfl, .inl rfl, .inl rfl, .inl rfl, .inl rfl, .inl rfl, .inl rfl, .inl rfl, .inl rfl, .inl rfl, .inl rfl, .inl rfl, .inl rfl, .inr rfl, .inr rfl, .inr rfl, .inr rfl, .inr rfl, .inr rfl, .inr rfl, .inr rfl, .inr rfl, .inr rfl, .inr rfl, .inr rfl, .inr rfl, .inr rfl, .inr rfl, .inr rfl, .inr rfl, .inr rfl, .inr rfl, .inr rfl, .inl rfl, .inl rfl, .inl rfl, .inl rfl, .inl rfl, .inl rfl, .inl rfl, .inl rfl, .inl rfl, .inl rfl, .inl rfl, .inl rfl, .inl rfl, .inl rfl, .inl rfl, .inl rfl, .inl rfl, .inl rfl, .inl rfl, .inl rfl, .inl rfl, .inl rfl, .inl rfl, .inl rfl, .inl rfl, .inl rfl, .inl rfl, .inl rfl, .inl rfl, .inl rfl, .inl rfl, .inl rfl, .inl rfl, .inl rfl, .inl rfl, .inl rfl, .inl rfl, .inl rfl, .inl rfl, .inl rfl, .inl rfl, .inl rfl, .inl rfl, .inl rfl, .inl rfl, .inl rfl, .inl rfl, .inl rfl, .inl rfl, .inl rfl, .inl rfl, .inl rfl, .inl rfl, .inl rfl, .inl rfl, .inl rfl, .inl rfl, .inl rfl, .inl rfl, .inl rfl, .inl rfl, .inl rfl, .inl rfl, .inl rfl, .inl rfl, trivial⟩ rfl ?_
            rintro ⟨i, hn, hi⟩ Y1 hY1
            refine vc_norm (env' := (_ :: _ :: _ :: _ :: _ :: _ :: _ :: _ :: _ :: _ :: _ :: _ :: _ :: (.int .i64 (i : Int)) :: _ :: _ :: _ :: _ :: _ :: _ :: _ :: _ :: _ :: _ :: _ :: _ :: _ :: _ :: _ :: _ :: _ :: _ :: _ :: _ :: _ :: _ :: _ :: _ :: _ :: _ :: _ :: _ :: _ :: _ :: _ :: _ :: _ :: _ :: _ :: _ :: _ :: _ :: _ :: _ :: _ :: _ :: _ :: _ :: _ :: _ :: _ :: _ :: _ :: _ :: _ :: _ :: _ :: _ :: _ :: _ :: _ :: _ :: _ :: _ :: _ :: _ :: _ :: _ :: _ :: _ :: _ :: _ :: _ :: _ :: _ :: _ :: _ :: _ :: _ :: _ :: _ :: _ :: _ :: _ :: _ :: _ :: _ :: _ :: _ :: _ :: _ :: _ :: _ :: _ :: _ :: _ :: _ :: _ :: _ :: _ :: _ :: _ :: _ :: _ :: _ :: _ :: _ :: _ :: _ :: _ :: _ :: _ :: _ :: _ :: _ :: _ :: _ :: _ :: _ :: _ :: _ :: _ :: _ :: _ :: _ :: _ :: _ :: _ :: _ :: _ :: _ :: _ :: _ :: _ :: _ :: _ :: _ :: _ :: _ :: _ :: _ :: _ :: _ :: _ :: _ :: _ :: _ :: _ :: _ :: _ :: _ :: _ :: _ :: _ :: _ :: _ :: _ :: _ :: _ :: _ :: _ :: _ :: _ :: _ :: _ :: _ :: _ :: _ :: _ :: _ :: _ :: _ :: _ :: _ :: _ :: _ :: _ :: _ :: _ :: _ :: _ :: _ :: _ :: _ :: _ :: _ :: _ :: _ :: _ :: _ :: _ :: _ :: _ :: _ :: _ :: _ :: _ :: _ :: _ :: _ :: _ :: _ :: _ :: _ :: _ :: _ :: _ :: _ :: _ :: _ :: _ :: _ :: _ :: _ :: _ :: _ :: _ :: _ :: _ :: _ :: [])) (H' := [VO.arr 24 2 [[.int .i64 last0, .list tg rows]], VO.arr 24 2 [[.int .i64 0, .nils]], pobj 3 1 pgs]) rfl rfl ?_
            refine vc_seq ?_
            refine vc_seq ?_
            refine w_region ?_
            refine w_opN (env' := _) rfl rfl rfl (fun _ h => h) (nv_t7m rfl ?_)
            refine w_opN (env' := _) rfl rfl rfl (fun _ h => h) (nv_t7m rfl ?_)
            first | refine w_opN (env' := _) rfl rfl rfl (fun _ h => h) (nv_t7m rfl ?_) | refine x_len (env' := _) rfl rfl (by assumption) Tryd.underlying26 rfl (nv_t7m rfl ?_)
            refine w_opN (env' := _) rfl rfl rfl (fun _ h => h) (nv_t7m rfl ?_)
            refine w_end rfl ?_
            refine vc_cond rfl (fun hc148 => ?_) (fun hc148 => ?_)
            · skip
              have hlt : i < (lrows st).length := by simpa using hc148
              have hsi : (lrows st)[i]? = some (lrows st)[i] := List.getElem?_eq_getElem hlt
              obtain ⟨k, hkx⟩ := hps _ (List.getElem_mem hlt)
              rw [hkx] at hsi
              refine vc_skip ?_
              refine n_then ?_
              refine vc_seq ?_
              refine vc_block ?_
              refine vc_seq ?_
              refine w_region ?_
              refine w_opN (env' := _) rfl rfl rfl (fun _ h => h) (nv_t7m rfl ?_)
              refine w_opN (env' := _) rfl rfl rfl (fun _ h => h) (nv_t7m rfl ?_)
              first | refine w_opN (v := .iptr _ [_]) (env' := _) rfl rfl rfl (fun _ h => h) (nv_t7m rfl ?_) | (refine x_index rfl rfl (by assumption) rfl el26 (by omega) (by assumption) rfl (fun bo => ?_); refine nv_t7m rfl ?_)
              refine w_opN (env' := _) rfl rfl rfl (fun _ h => h) (nv_t7m rfl ?_)
              refine w_opN (env' := _) rfl rfl rfl (fun _ h => h) (nv_t7m rfl ?_)
              refine w_opN (env' := _) rfl rfl rfl (fun _ h => h) (nv_t7m rfl ?_)
              refine w_split 156 rfl (fun hg156 => ?_) (fun hg156 => ?_)
              · skip
                refine w_norm (env' := (_ :: _ :: _ :: _ :: _ :: _ :: _ :: _ :: _ :: _ :: _ :: _ :: _ :: _ :: _ :: _ :: _ :: _ :: _ :: _ :: _ :: _ :: _ :: _ :: _ :: _ :: _ :: _ :: _ :: _ :: _ :: _ :: _ :: _ :: _ :: _ :: _ :: _ :: _ :: _ :: _ :: _ :: _ :: _ :: _ :: _ :: _ :: _ :: _ :: _ :: _ :: _ :: _ :: _ :: _ :: _ :: _ :: _ :: _ :: _ :: _ :: _ :: _ :: _ :: _ :: _ :: _ :: _ :: _ :: _ :: _ :: _ :: _ :: _ :: _ :: _ :: _ :: _ :: _ :: _ :: _ :: _ :: _ :: _ :: _ :: _ :: _ :: _ :: _ :: _ :: _ :: _ :: _ :: _ :: _ :: _ :: _ :: _ :: _ :: _ :: _ :: _ :: _ :: _ :: _ :: _ :: _ :: _ :: _ :: _ :: _ :: _ :: _ :: _ :: _ :: _ :: _ :: _ :: _ :: _ :: _ :: _ :: _ :: _ :: _ :: _ :: _ :: _ :: _ :: _ :: _ :: _ :: _ :: _ :: _ :: _ :: _ :: _ :: _ :: _ :: _ :: _ :: _ :: _ :: _ :: _ :: _ :: _ :: _ :: _ :: _ :: _ :: _ :: _ :: _ :: _ :: _ :: _ :: _ :: _ :: _ :: _ :: _ :: _ :: _ :: _ :: _ :: _ :: _ :: _ :: _ :: _ :: _ :: _ :: _ :: _ :: _ :: _ :: _ :: _ :: _ :: _ :: _ :: _ :: _ :: _ :: _ :: _ :: _ :: _ :: _ :: _ :: _ :: _ :: _ :: _ :: _ :: _ :: _ :: _ :: _ :: _ :: _ :: _ :: _ :: _ :: _ :: _ :: _ :: _ :: _ :: _ :: _ :: _ :: _ :: _ :: _ :: _ :: _ :: _ :: _ :: _ :: _ :: _ :: _ :: _ :: _ :: _ :: _ :: _ :: [])) (H' := [VO.arr 24 2 [[.int .i64 last0, .list tg rows]], VO.arr 24 2 [[.int .i64 0, .nils]], pobj 3 1 pgs]) rfl rfl ?_
                refine w_skipN (env' := _) (wanted_f 156 (by kernel_rfl) rfl) rfl (nv_t7m rfl ?_)
                refine w_skipN (env' := _) (wanted_f 156 (by kernel_rfl) rfl) rfl (nv_t7m rfl ?_)
                refine w_skipN (env' := _) (wanted_f 156 (by kernel_rfl) rfl) rfl (nv_t7m rfl ?_)
                refine w_skipN (env' := _) (wanted_f 156 (by kernel_rfl) rfl) rfl (nv_t7m rfl ?_)
                refine w_skipN (env' := _) (wanted_f 156 (by kernel_rfl) rfl) rfl (nv_t7m rfl ?_)
                refine w_skipN (env' := _) (wanted_f 156 (by kernel_rfl) rfl) rfl (nv_t7m rfl ?_)
                refine w_opN (env' := _) rfl rfl rfl (fun _ h => h) (nv_t7m rfl ?_)
                refine w_end rfl ?_
                refine vc_true rfl ?_
                refine vc_seq ?_
                refine w_region ?_
                refine w_opN (v := .agg [_, _]) (env' := _) rfl rfl rfl (fun _ h => h) (nv_t7m rfl ?_)
                refine w_op0N (H2 := [VO.arr 24 2 [[.int .i64 last0, .list tg rows]], VO.arr 24 2 [[.int .i64 0, .nils]], pobj 3 1 pgs]) rfl rfl rfl (fun _ h => h) ?_
                refine w_opN (env' := _) rfl rfl rfl (fun _ h => h) (nv_t7m rfl ?_)
                refine w_end rfl ?_
                refine vc_ret ?_
                refine r_block ?_
                refine r_then ?_
                refine r_then ?_
                refine r_block ?_
                refine r_then ?_
                refine r_fn rfl ?_
                -- return 11
                have hb1 : badN last [.int .i64 k] = true := by simp only [badN, hg156]; rfl
                have hbad : badW last0 last pgs (lrows st) = true := by simp only [badW, any_yes hsi hb1, Bool.or_true]
                show retv _ _ = some (withR last0 rows (lrows l) (lrows st) last)
                rw [withR, if_pos hval, hsc]
                simp only [hbad, if_true]
                rfl
              · skip
                refine w_norm (env' := (_ :: _ :: _ :: _ :: _ :: _ :: _ :: _ :: _ :: _ :: _ :: _ :: _ :: _ :: _ :: _ :: _ :: _ :: _ :: _ :: _ :: _ :: _ :: _ :: _ :: _ :: _ :: _ :: _ :: _ :: _ :: _ :: _ :: _ :: _ :: _ :: _ :: _ :: _ :: _ :: _ :: _ :: _ :: _ :: _ :: _ :: _ :: _ :: _ :: _ :: _ :: _ :: _ :: _ :: _ :: _ :: _ :: _ :: _ :: _ :: _ :: _ :: _ :: _ :: _ :: _ :: _ :: _ :: _ :: _ :: _ :: _ :: _ :: _ :: _ :: _ :: _ :: _ :: _ :: _ :: _ :: _ :: _ :: _ :: _ :: _ :: _ :: _ :: _ :: _ :: _ :: _ :: _ :: _ :: _ :: _ :: _ :: _ :: _ :: _ :: _ :: _ :: _ :: _ :: _ :: _ :: _ :: _ :: _ :: _ :: _ :: _ :: _ :: _ :: _ :: _ :: _ :: _ :: _ :: _ :: _ :: _ :: _ :: _ :: _ :: _ :: _ :: _ :: _ :: _ :: _ :: _ :: _ :: _ :: _ :: _ :: _ :: _ :: _ :: _ :: _ :: _ :: _ :: _ :: _ :: _ :: _ :: _ :: _ :: _ :: _ :: _ :: _ :: _ :: _ :: _ :: _ :: _ :: _ :: _ :: _ :: _ :: _ :: _ :: _ :: _ :: _ :: _ :: _ :: _ :: _ :: _ :: _ :: _ :: _ :: _ :: _ :: _ :: _ :: _ :: _ :: _ :: _ :: _ :: _ :: _ :: _ :: _ :: _ :: _ :: _ :: _ :: _ :: _ :: _ :: _ :: _ :: _ :: _ :: _ :: _ :: _ :: _ :: _ :: _ :: _ :: _ :: _ :: _ :: _ :: _ :: _ :: _ :: _ :: _ :: _ :: _ :: _ :: _ :: _ :: _ :: _ :: _ :: _ :: _ :: _ :: _ :: _ :: _ :: _ :: [])) (H' := [VO.arr 24 2 [[.int .i64 last0, .list tg rows]], VO.arr 24 2 [[.int .i64 0, .nils]], pobj 3 1 pgs]) rfl rfl ?_
                refine w_opN (env' := _) (wanted_t 156 (by kernel_rfl) rfl) rfl rfl (fun _ h => h) (nv_t7m rfl ?_)
                refine w_opN (env' := _) (wanted_t 156 (by kernel_rfl) rfl) rfl rfl (fun _ h => h) (nv_t7m rfl ?_)
                first | refine w_opN (v := .iptr _ [_]) (env' := _) (wanted_t 156 (by kernel_rfl) rfl) rfl rfl (fun _ h => h) (nv_t7m rfl ?_) | (refine x_index (wanted_t 156 (by kernel_rfl) rfl) rfl (by assumption) rfl el26 (by omega) (by assumption) rfl (fun bo => ?_); refine nv_t7m rfl ?_)
                refine w_opN (env' := _) (wanted_t 156 (by kernel_rfl) rfl) rfl rfl (fun _ h => h) (nv_t7m rfl ?_)
                refine w_opN (env' := _) (wanted_t 156 (by kernel_rfl) rfl) rfl rfl (fun _ h => h) (nv_t7m rfl ?_)
                refine w_opN (env' := _) (wanted_t 156 (by kernel_rfl) rfl) rfl rfl (fun _ h => h) (nv_t7m rfl ?_)
                refine w_opN (env' := _) rfl rfl rfl (fun _ h => h) (nv_t7m rfl ?_)
                refine w_end rfl ?_
                refine vc_cond rfl (fun hc163 => ?_) (fun hc163 => ?_)
                · skip
                  refine vc_seq ?_
                  refine w_region ?_
                  refine w_opN (v := .agg [_, _]) (env' := _) rfl rfl rfl (fun _ h => h) (nv_t7m rfl ?_)
                  refine w_op0N (H2 := [VO.arr 24 2 [[.int .i64 last0, .list tg rows]], VO.arr 24 2 [[.int .i64 0, .nils]], pobj 3 1 pgs]) rfl rfl rfl (fun _ h => h) ?_
                  refine w_opN (env' := _) rfl rfl rfl (fun _ h => h) (nv_t7m rfl ?_)
                  refine w_end rfl ?_
                  refine vc_ret ?_
                  refine r_block ?_
                  refine r_then ?_
                  refine r_then ?_
                  refine r_block ?_
                  refine r_then ?_
                  refine r_fn rfl ?_
                  -- return 12
                  have hb1 : badN last [.int .i64 k] = true := by simp only [badN, hc163, Bool.or_true]
                  have hbad : badW last0 last pgs (lrows st) = true := by simp only [badW, any_yes hsi hb1, Bool.or_true]
                  show retv _ _ = some (withR last0 rows (lrows l) (lrows st) last)
                  rw [withR, if_pos hval, hsc]
                  simp only [hbad, if_true]
                  rfl
                · skip
                  refine vc_skip ?_
                  refine n_block ?_
                  refine n_then ?_
                  refine w_region ?_
                  refine w_opN (env' := _) rfl rfl rfl (fun _ h => h) (nv_t7m rfl ?_)
                  refine w_opN (env' := _) rfl rfl rfl (fun _ h => h) (nv_t7m rfl ?_)
                  refine w_opN (env' := _) rfl rfl rfl (fun _ h => h) (nv_t7m rfl ?_)
                  refine w_end rfl ?_
                  refine hY1 ⟨i + 1, upto_succ hn hsi (by simp only [badN, hg156, hc163]; rfl), hlt⟩ (by simp only; omega) _ _ ⟨.inl rfl, .inl rfl, .inl rfl, .inl rfl, .inl rfl, .inl rfl, .inl rfl, .inl rfl, .inl rfl, .inr rfl, .inl rfl, .inl rfl, .inl rfl, .inl ?_, .inl rfl, .inl rfl, .inl rfl, .inl rfl, .inl rfl, .inl rfl, .inl rfl, .inl rfl, .inl rfl, .inl rfl, .inl rfl, .inl rfl, .inl rfl, .inl rfl, .inl rfl, .inl rfl, .inl rfl, .inl rfl, .inl rfl, .inl rfl, .inl rfl, .inl rfl, .inl rfl, .inl rfl, .inl rfl, .inl rfl, .inl rfl, .inl rfl, .inl rfl, .inl rfl, .inl rfl, .inl rfl, .inl rfl, .inl rfl, .inl rfl, .inl rfl, .inl rfl, .inl rfl, .inl rfl, .inl rfl, .inl rfl, .inl rfl, .inl rfl, .inl rfl, .inl rfl, .inl rfl, .inl rfl, .inl rfl, .inl rfl, .inl rfl, .inl rfl, .inl rfl, .inl rfl, .inl rfl, .inl rfl, .inl rfl, .inl rfl, .inl rfl, .inl rfl, .inl rfl, .inl rfl, .inl rfl, .inl rfl, .inl rfl, .inl rfl, .inl rfl, .inl rfl, .inl rfl, .inl rfl, .inl rfl, .inl rfl, .inl rfl, .inl rfl, .inl rfl, .inl rfl, .inl rfl, .inl rfl, .inl rfl, .inl rfl, .inl rfl, .inl rfl, .inl rfl, .inl rfl, .inl rfl, .inl rfl, .inl rfl, .inl rfl, .inl rfl, .inl rfl, .inl rfl, .inl rfl, .inl rfl, .inl rfl, .inl rfl, .inl rfl, .inl rfl, .inl rfl, .inl rfl, .inl rfl, .inl rfl, .inl rfl, .inl rfl, .inl rfl, .inl rfl, .inl rfl, .inl rfl, .inl rfl, .inl rfl, .inl rfl, .inl rfl, .inl rfl, .inl rfl, .inl rfl, .inl rfl, .inl rfl, .inl rfl, .inl rfl, .inl rfl, .inl rfl, .inl rfl, .inl rfl, .inl rfl, .inl rfl, .inl rfl, .inl rfl, .inl rfl, .inl rfl, .inl rfl, .inl rfl, .inl rfl, .inl rfl, .inr rfl, .inr rfl, .inr rfl, .inr rfl, .inr rfl, .inr rfl, .inr rfl, .inr rfl, .inr rfl, .inr rfl, .inr rfl, .inr rfl, .inr rfl, .inr rfl, .inr rfl, .inr rfl, .inr rfl, .inr rfl, .inr rfl, .inr rfl, .inl rfl, .inl rfl, .inl rfl, .inl rfl, .inl rfl, .inl rfl, .inl rfl, .inl rfl, .inl rfl, .inl rfl, .inl rfl, .inl rfl, .inl rfl, .inl rfl, .inl rfl, .inl rfl, .inl rfl, .inl rfl, .inl rfl, .inl rfl, .inl rfl, .inl rfl, .inl rfl, .inl rfl, .inl rfl, .inl rfl, .inl rfl, .inl rfl, .inl rfl, .inl rfl, .inl rfl, .inl rfl, .inl rfl, .inl rfl, .inl rfl, .inl rfl, .inl rfl, .inl rfl, .inl rfl, .inl rfl, .inl rfl, .inl rfl, .inl rfl, .inl rfl, .inl rfl, .inl rfl, .inl rfl, .inl rfl, .inl rfl, .inl rfl, .inl rfl, .inl rfl, .inl rfl, .inl rfl, .inl rfl, .inl rfl, .inl rfl, .inl rfl, .inl rfl, .inl rfl, .inl rfl, .inl rfl, .inl rfl, .inl rfl, .inl rfl, trivial⟩ rfl
                  exact (int_succ (by omega)).symm
            · skip
              have hge : ¬ i < (lrows st).length := by simpa using hc148
              have hba := any_no hn (by omega)
              have hbad : badW last0 last pgs (lrows st) = false := by simp only [badW, hba, hg134, hg140, hc143, Bool.or_false]
              have hzl : (lrows st).length = pgs.length := by simp at hg134; omega
              refine vc_exit ?_
              refine x_then ?_
              refine x_then ?_
              refine x_same ?_
              refine n_then ?_
              refine vc_seq ?_
              refine w_region ?_
              clear hY1 Y1
              refine w_opN (v := .agg [_, _]) (env' := _) rfl rfl rfl (fun _ h => h) (nv_t7m rfl ?_)
              refine w_callS rfl rfl rfl (by kernel_rfl) rfl (t17 G _ last0 tg rows hne (by omega) hPI) ?_
              rintro _ H6 ⟨L, locs, rfl, hI6, hLl, hlocs, hpre⟩
              refine w_norm (env' := (_ :: _ :: _ :: _ :: _ :: _ :: _ :: _ :: _ :: _ :: _ :: _ :: _ :: _ :: _ :: _ :: _ :: _ :: _ :: _ :: _ :: _ :: _ :: _ :: _ :: _ :: _ :: _ :: _ :: _ :: _ :: _ :: _ :: _ :: _ :: _ :: _ :: _ :: _ :: _ :: _ :: _ :: _ :: _ :: _ :: _ :: _ :: _ :: _ :: _ :: _ :: _ :: _ :: _ :: _ :: _ :: _ :: _ :: _ :: _ :: _ :: _ :: _ :: _ :: _ :: _ :: _ :: _ :: _ :: _ :: _ :: _ :: _ :: _ :: _ :: _ :: _ :: _ :: _ :: _ :: _ :: _ :: _ :: _ :: _ :: _ :: _ :: _ :: _ :: _ :: _ :: _ :: _ :: _ :: _ :: _ :: _ :: _ :: _ :: _ :: _ :: _ :: _ :: _ :: _ :: _ :: _ :: _ :: _ :: _ :: _ :: _ :: _ :: _ :: _ :: _ :: _ :: _ :: _ :: _ :: _ :: _ :: _ :: _ :: _ :: _ :: _ :: _ :: _ :: _ :: _ :: _ :: _ :: _ :: _ :: _ :: _ :: _ :: _ :: _ :: _ :: _ :: _ :: _ :: _ :: _ :: _ :: _ :: _ :: _ :: _ :: _ :: _ :: _ :: _ :: _ :: _ :: _ :: _ :: _ :: _ :: _ :: _ :: _ :: _ :: _ :: _ :: _ :: _ :: _ :: _ :: _ :: _ :: _ :: _ :: _ :: _ :: _ :: _ :: _ :: _ :: _ :: _ :: _ :: _ :: _ :: _ :: _ :: _ :: _ :: _ :: _ :: _ :: _ :: _ :: _ :: _ :: _ :: _ :: _ :: _ :: _ :: _ :: _ :: _ :: _ :: _ :: _ :: _ :: _ :: _ :: _ :: _ :: _ :: _ :: _ :: _ :: _ :: _ :: _ :: _ :: _ :: _ :: _ :: _ :: _ :: _ :: _ :: _ :: _ :: [])) (H' := _) rfl rfl ?_
              refine w_opH (v := .ptr H6.length 0 0) (env' := _) (H2 := H6 ++ [VO.arr 24 2 [[.int .i64 0, .nils]]]) rfl (g_alloc z24 rfl rfl) rfl (rfl) (fun _ h => h) (nv_t7m rfl ?_)
              refine w_op0N (H2 := H6 ++ [VO.arr 24 2 [[.int .i64 last0, .row false L 0 rows.length]]]) rfl (g_store get_last rfl rfl sz24 ⟨rfl, by simp, by decide⟩) (set_last) (fun _ h => h) ?_
              refine w_end rfl ?_
              refine vc_seq ?_
              refine vc_seq ?_
              refine w_region ?_
              have hW0 : WInv [VO.arr 24 2 [[.int .i64 last0, .list tg rows]], VO.arr 24 2 [[.int .i64 0, .nils]], pobj 3 1 pgs] (H6 ++ [VO.arr 24 2 [[.int .i64 last0, .row false L 0 rows.length]]]) H6.length L locs last0 rows.length (shOf rows) := by
                have h6L := hI6.row
                obtain ⟨r6, e6, _, _⟩ := h6L
                have hl6 := (List.getElem?_eq_some_iff.1 e6).1
                refine ⟨hI6.app, get_last, fun k o hk => get_app (hpre k o hk), by simp [shOf], by simp at hLl ⊢; omega, hLl, hlocs, by omega, fun l hl e => ?_⟩
                subst e
                obtain ⟨j, hj⟩ := List.mem_iff_getElem?.1 hl
                have hjs : j < (shOf rows).length := by have := (List.getElem?_eq_some_iff.1 hj).1; have := hI6.len; omega
                have := (List.getElem?_eq_some_iff.1 (hI6.byt j _ _ hj (List.getElem?_eq_getElem hjs))).1
                omega
              generalize H6 ++ [VO.arr 24 2 [[.int .i64 last0, .row false L 0 rows.length]]] = H7 at hW0 ⊢
              refine w_opN (env' := _) rfl rfl rfl (fun _ h => h) (nv_t7m rfl ?_)
              refine w_end rfl ?_
              refine vc_block ?_
              refine vc_loopX (α := { x : Nat × Hp // WInv [VO.arr 24 2 [[.int .i64 last0, .list tg rows]], VO.arr 24 2 [[.int .i64 0, .nils]], pobj 3 1 pgs] x.2 H6.length L locs last0 rows.length (((lrows l).take x.1).foldl layP (shOf rows)) ∧ ShOk (((lrows l).take x.1).foldl layP (shOf rows)) }) (fun x => (none :: none :: none :: none :: none :: none :: none :: none :: none :: none :: none :: none :: none :: none :: none :: (some (.int .i64 (x.1.1 : Nat))) :: (some .undef) :: none :: none :: none :: none :: none :: none :: none :: none :: none :: none :: none :: none :: none :: none :: none :: none :: none :: none :: none :: none :: none :: none :: none :: none :: none :: none :: none :: none :: none :: none :: none :: none :: none :: none :: none :: none :: none :: none :: none :: none :: none :: none :: none :: none :: none :: none :: none :: none :: none :: none :: none :: none :: none :: none :: none :: none :: none :: none :: none :: none :: none :: none :: none :: none :: none :: none :: none :: none :: none :: none :: none :: none :: none :: none :: none :: none :: none :: none :: none :: none :: none :: none :: none :: none :: none :: none :: none :: none :: none :: none :: none :: none :: none :: none :: none :: none :: none :: none :: none :: none :: none :: none :: none :: none :: none :: none :: none :: none :: none :: none :: none :: none :: none :: none :: none :: none :: none :: none :: none :: none :: none :: none :: none :: none :: none :: none :: none :: none :: none :: none :: none :: none :: none :: none :: none :: none :: none :: none :: none :: none :: none :: none :: none :: none :: none :: none :: none :: none :: none :: none :: (some .undef) :: (some .undef) :: (some .undef) :: (some .undef) :: (some .undef) :: (some .undef) :: (some .undef) :: (some .undef) :: (some .undef) :: (some .undef) :: (some .undef) :: (some .undef) :: (some .undef) :: (some .undef) :: (some .undef) :: (some .undef) :: (some .undef) :: (some .undef) :: (some .undef) :: (some .undef) :: (some .undef) :: (some .undef) :: (some .undef) :: (some .undef) :: (some .undef) :: (some .undef) :: (some .undef) :: (some .undef) :: (some .undef) :: (some .undef) :: (some .undef) :: (some .undef) :: (some .undef) :: (some .undef) :: (some .undef) :: (some .undef) :: (some .undef) :: (some .undef) :: (some .undef) :: (some .undef) :: (some .undef) :: (some .undef) :: none :: none :: none :: none :: none :: none :: none :: none :: none :: none :: none :: none :: none :: none :: none :: none :: none :: none :: none :: none :: none :: [])) (fun x => x.1.2) (fun x => (lrows l).length - x.1.1) ⟨(0, H7), hW0, hSh⟩ ⟨.inl rfl, .inl rfl, .inl rfl, .inl rfl, .inl rfl, .inl rfl, .inl rfl, .inl rfl, .inl rfl, .inl rfl, .inl rfl, .inl rfl, .inl rfl, .inl rfl, .inl rfl, .inl rfl, .inr rfl, .inl rfl, .inl rfl, .inl rfl, .inl rfl, .inl rfl, .inl rfl, .inl rfl, .inl rfl, .inl rfl, .inl rfl, .inl rfl, .inl rfl, .inl rfl, .inl rfl, .inl rfl, .inl rfl, .inl rfl, .inl rfl, .inl rfl, .inl rfl, .inl rfl, .inl rfl, .inl rfl, .inl rfl, .inl rfl, .inl rfl, .inl rfl, .inl rfl, .inl rfl, .inl rfl, .inl rfl, .inl rfl, .inl rfl, .inl rfl, .inl rfl, .inl rfl, .inl rfl, .inl rfl, .inl rfl, .inl rfl, .inl rfl, .inl rfl, .inl rfl, .inl rfl, .inl rfl, .inl rfl, .inl rfl, .inl rfl, .inl rfl, .inl rfl, .inl rfl, .inl rfl, .inl rfl, .inl rfl, .inl rfl, .inl rfl, .inl rfl, .inl rfl, .inl rfl, .inl rfl, .inl rfl, .inl rfl, .inl rfl, .inl rfl, .inl rfl, .inl rfl, .inl rfl, .inl rfl, .inl rfl, .inl rfl, .inl rfl, .inl rfl, .inl rfl, .inl rfl, .inl rfl, .inl rfl, .inl rfl, .inl rfl, .inl rfl, .inl rfl, .inl rfl, .inl rfl, .inl rfl, .inl rfl, .inl rfl, .inl rfl, .inl rfl, .inl rfl, .inl rfl, .inl rfl, .inl rfl, .inl rfl, .inl rfl, .inl rfl, .inl rfl, .inl rfl, .inl rfl, .inl rfl, .inl rfl, .inl rfl, .inl rfl, .inl rfl, .inl rfl, .inl rfl, .inl rfl, .inl rfl, .inl rfl, .inl rfl, .inl rfl, .inl rfl, .inl rfl, .inl rfl, .inl rfl, .inl rfl, .inl rfl, .inl rfl, .inl rfl, .inl rfl, .inl rfl, .inl rfl, .inl rfl, .inl rfl, .inl rfl, .inl rfl, .inl rfl, .inl rfl, .inl rfl, .inl rfl, .inl rfl, .inl rfl, .inl rfl, .inl rfl, .inl rfl, .inl rfl, .inl rfl, .inl rfl, .inl rfl, .inl rfl, .inl rfl, .inl rfl, .inl rfl, .inl rfl, .inl rfl, .inl rfl, .inl rfl, .inl rfl, .inl rfl, .inl rfl, .inl rfl, .inl rfl, .inr rfl, .inr rfl, .inr rfl, .inr rfl, .inr rfl, .inr rfl, .inr rfl, .inr rfl, .inr rfl, .inr rfl, .inr rfl, .inr rfl, .inr rfl, .inr rfl, .inr rfl, .inr rfl, .inr rfl, .inr rfl, .inr rfl, .inr rfl, .inr rfl, .inr rfl, .inr rfl, .inr rfl, .inr rfl, .inr rfl, .inr rfl, .inr rfl, .inr rfl, .inr rfl, .inr rfl, .inr rfl, .inr rfl, .inr rfl, .inr rfl, .inr rfl, .inr rfl, .inr rfl, .inr rfl, .inr rfl, .inr rfl, .inr rfl, .inl rfl, .inl rfl, .inl rfl, .inl rfl, .inl rfl, .inl rfl, .inl rfl, .inl rfl, .inl rfl, .inl rfl, .inl rfl, .inl rfl, .inl rfl, .inl rfl, .inl rfl, .inl rfl, .inl rfl, .inl rfl, .inl rfl, .inl rfl, .inl rfl, trivial⟩ rfl ?_
              rintro ⟨⟨i, Hx⟩, hW, hShx⟩ Y2 hY2
              refine vc_norm (env' := (_ :: _ :: _ :: _ :: _ :: _ :: _ :: _ :: _ :: _ :: _ :: _ :: _ :: _ :: _ :: (.int .i64 (i : Int)) :: _ :: _ :: _ :: _ :: _ :: _ :: _ :: _ :: _ :: _ :: _ :: _ :: _ :: _ :: _ :: _ :: _ :: _ :: _ :: _ :: _ :: _ :: _ :: _ :: _ :: _ :: _ :: _ :: _ :: _ :: _ :: _ :: _ :: _ :: _ :: _ :: _ :: _ :: _ :: _ :: _ :: _ :: _ :: _ :: _ :: _ :: _ :: _ :: _ :: _ :: _ :: _ :: _ :: _ :: _ :: _ :: _ :: _ :: _ :: _ :: _ :: _ :: _ :: _ :: _ :: _ :: _ :: _ :: _ :: _ :: _ :: _ :: _ :: _ :: _ :: _ :: _ :: _ :: _ :: _ :: _ :: _ :: _ :: _ :: _ :: _ :: _ :: _ :: _ :: _ :: _ :: _ :: _ :: _ :: _ :: _ :: _ :: _ :: _ :: _ :: _ :: _ :: _ :: _ :: _ :: _ :: _ :: _ :: _ :: _ :: _ :: _ :: _ :: _ :: _ :: _ :: _ :: _ :: _ :: _ :: _ :: _ :: _ :: _ :: _ :: _ :: _ :: _ :: _ :: _ :: _ :: _ :: _ :: _ :: _ :: _ :: _ :: _ :: _ :: _ :: _ :: _ :: _ :: _ :: _ :: _ :: _ :: _ :: _ :: _ :: _ :: _ :: _ :: _ :: _ :: _ :: _ :: _ :: _ :: _ :: _ :: _ :: _ :: _ :: _ :: _ :: _ :: _ :: _ :: _ :: _ :: _ :: _ :: _ :: _ :: _ :: _ :: _ :: _ :: _ :: _ :: _ :: _ :: _ :: _ :: _ :: _ :: _ :: _ :: _ :: _ :: _ :: _ :: _ :: _ :: _ :: _ :: _ :: _ :: _ :: _ :: _ :: _ :: _ :: _ :: _ :: _ :: _ :: _ :: _ :: _ :: _ :: _ :: _ :: [])) (H' := Hx) rfl rfl ?_
              replace hW : WInv [VO.arr 24 2 [[.int .i64 last0, .list tg rows]], VO.arr 24 2 [[.int .i64 0, .nils]], pobj 3 1 pgs] Hx H6.length L locs last0 rows.length (((lrows l).take i).foldl layP (shOf rows)) := hW
              replace hShx : ShOk (((lrows l).take i).foldl layP (shOf rows)) := hShx
              refine vc_seq ?_
              refine vc_seq ?_
              refine w_region ?_
              refine w_opN (env' := _) rfl rfl rfl (fun _ h => h) (nv_t7m rfl ?_)
              refine w_opN (env' := _) rfl rfl rfl (fun _ h => h) (nv_t7m rfl ?_)
              first | refine w_opN (env' := _) rfl rfl rfl (fun _ h => h) (nv_t7m rfl ?_) | refine x_len (env' := _) rfl rfl (by assumption) Tryd.underlying25 rfl (nv_t7m rfl ?_)
              refine w_opN (env' := _) rfl rfl rfl (fun _ h => h) (nv_t7m rfl ?_)
              refine w_end rfl ?_
              refine vc_cond rfl (fun hc170 => ?_) (fun hc170 => ?_)
              · skip
                have hlt : i < (lrows l).length := by simpa using hc170
                have hri : (lrows l)[i]? = some (lrows l)[i] := List.getElem?_eq_getElem hlt
                have hki := hok _ (List.getElem_mem hlt)
                obtain ⟨pg, a, b, hx, hLb, hb1, hb2⟩ := hpl _ (List.getElem_mem hlt)
                rw [hx] at hri hki
                have hkb := okP_bounds hki
                obtain ⟨lp, s, _, hlp, hsp, _, _, _⟩ := hW.at (i := pg.toNat) (by omega)
                have h128 := (hShx s (List.mem_of_getElem? hsp))
                refine vc_skip ?_
                refine n_then ?_
                refine vc_seq ?_
                refine vc_block ?_
                refine vc_seq ?_
                refine w_region ?_
                refine w_opN (env' := _) rfl rfl rfl (fun _ h => h) (nv_t7m rfl ?_)
                refine w_end rfl ?_
                refine vc_block ?_
                refine vc_loopX (α := { x : Nat × Hp // WInv [VO.arr 24 2 [[.int .i64 last0, .list tg rows]], VO.arr 24 2 [[.int .i64 0, .nils]], pobj 3 1 pgs] x.2 H6.length L locs last0 rows.length (layK (((lrows l).take i).foldl layP (shOf rows)) pg a (lrows b) x.1) }) (fun x => (none :: none :: none :: none :: none :: none :: none :: none :: none :: none :: none :: none :: none :: none :: none :: none :: (some (.int .i64 (x.1.1 : Nat))) :: none :: none :: none :: none :: none :: none :: none :: none :: none :: none :: none :: none :: none :: none :: none :: none :: none :: none :: none :: none :: none :: none :: none :: none :: none :: none :: none :: none :: none :: none :: none :: none :: none :: none :: none :: none :: none :: none :: none :: none :: none :: none :: none :: none :: none :: none :: none :: none :: none :: none :: none :: none :: none :: none :: none :: none :: none :: none :: none :: none :: none :: none :: none :: none :: none :: none :: none :: none :: none :: none :: none :: none :: none :: none :: none :: none :: none :: none :: none :: none :: none :: none :: none :: none :: none :: none :: none :: none :: none :: none :: none :: none :: none :: none :: none :: none :: none :: none :: none :: none :: none :: none :: none :: none :: none :: none :: none :: none :: none :: none :: none :: none :: none :: none :: none :: none :: none :: none :: none :: none :: none :: none :: none :: none :: none :: none :: none :: none :: none :: none :: none :: none :: none :: none :: none :: none :: none :: none :: none :: none :: none :: none :: none :: none :: none :: none :: none :: none :: none :: none :: none :: none :: none :: none :: none :: none :: (some .undef) :: (some .undef) :: (some .undef) :: (some .undef) :: (some .undef) :: (some .undef) :: (some .undef) :: (some .undef) :: (some .undef) :: (some .undef) :: (some .undef) :: (some .undef) :: (some .undef) :: (some .undef) :: (some .undef) :: (some .undef) :: (some .undef) :: (some .undef) :: (some .undef) :: (some .undef) :: (some .undef) :: (some .undef) :: (some .undef) :: (some .undef) :: (some .undef) :: (some .undef) :: (some .undef) :: (some .undef) :: (some .undef) :: (some .undef) :: (some .undef) :: (some .undef) :: (some .undef) :: (some .undef) :: (some .undef) :: (some .undef) :: none :: none :: none :: none :: none :: none :: none :: none :: none :: none :: none :: none :: none :: none :: none :: none :: none :: none :: none :: none :: none :: [])) (fun x => x.1.2) (fun x => (lrows b).length - x.1.1) ⟨(0, Hx), by rw [layK_zero]; exact hW⟩ ⟨.inl rfl, .inl rfl, .inl rfl, .inl rfl, .inl rfl, .inl rfl, .inl rfl, .inl rfl, .inl rfl, .inl rfl, .inl rfl, .inl rfl, .inl rfl, .inl rfl, .inl rfl, .inl rfl, .inl rfl, .inl rfl, .inl rfl, .inl rfl, .inl rfl, .inl rfl, .inl rfl, .inl rfl, .inl rfl, .inl rfl, .inl rfl, .inl rfl, .inl rfl, .inl rfl, .inl rfl, .inl rfl, .inl rfl, .inl rfl, .inl rfl, .inl rfl, .inl rfl, .inl rfl, .inl rfl, .inl rfl, .inl rfl, .inl rfl, .inl rfl, .inl rfl, .inl rfl, .inl rfl, .inl rfl, .inl rfl, .inl rfl, .inl rfl, .inl rfl, .inl rfl, .inl rfl, .inl rfl, .inl rfl, .inl rfl, .inl rfl, .inl rfl, .inl rfl, .inl rfl, .inl rfl, .inl rfl, .inl rfl, .inl rfl, .inl rfl, .inl rfl, .inl rfl, .inl rfl, .inl rfl, .inl rfl, .inl rfl, .inl rfl, .inl rfl, .inl rfl, .inl rfl, .inl rfl, .inl rfl, .inl rfl, .inl rfl, .inl rfl, .inl rfl, .inl rfl, .inl rfl, .inl rfl, .inl rfl, .inl rfl, .inl rfl, .inl rfl, .inl rfl, .inl rfl, .inl rfl, .inl rfl, .inl rfl, .inl rfl, .inl rfl, .inl rfl, .inl rfl, .inl rfl, .inl rfl, .inl rfl, .inl rfl, .inl rfl, .inl rfl, .inl rfl, .inl rfl, .inl rfl, .inl rfl, .inl rfl, .inl rfl, .inl rfl, .inl rfl, .inl rfl, .inl rfl, .inl rfl, .inl rfl, .inl rfl, .inl rfl, .inl rfl, .inl rfl, .inl rfl, .inl rfl, .inl rfl, .inl rfl, .inl rfl, .inl rfl, .inl rfl, .inl rfl, .inl rfl, .inl rfl, .inl rfl, .inl rfl, .inl rfl, .inl rfl, .inl rfl, .inl rfl, .inl rfl, .inl rfl, .inl rfl, .inl rfl, .inl rfl, .inl rfl, .inl rfl, .inl rfl, .inl rfl, .inl rfl, .inl rfl, .inl rfl, .inl rfl, .inl rfl, .inl rfl, .inl rfl, .inl rfl, .inl rfl, .inl rfl, .inl rfl, .inl rfl, .inl rfl, .inl rfl, .inl rfl, .inl rfl, .inl rfl, .inl rfl, .inl rfl, .inl rfl, .inl rfl, .inl rfl, .inl rfl, .inl rfl, .inl rfl, .inl rfl, .inl rfl, .inl rfl, .inl rfl, .inr rfl, .inr rfl, .inr rfl, .inr rfl, .inr rfl, .inr rfl, .inr rfl, .inr rfl, .inr rfl, .inr rfl, .inr rfl, .inr rfl, .inr rfl, .inr rfl, .inr rfl, .inr rfl, .inr rfl, .inr rfl, .inr rfl, .inr rfl, .inr rfl, .inr rfl, .inr rfl, .inr rfl, .inr rfl, .inr rfl, .inr rfl, .inr rfl, .inr rfl, .inr rfl, .inr rfl, .inr rfl, .inr rfl, .inr rfl, .inr rfl, .inr rfl, .inl rfl, .inl rfl, .inl rfl, .inl rfl, .inl rfl, .inl rfl, .inl rfl, .inl rfl, .inl rfl, .inl rfl, .inl rfl, .inl rfl, .inl rfl, .inl rfl, .inl rfl, .inl rfl, .inl rfl, .inl rfl, .inl rfl, .inl rfl, .inl rfl, trivial⟩ rfl ?_
                rintro ⟨⟨k, Hx⟩, hK⟩ Y3 hY3
                refine vc_norm (env' := (_ :: _ :: _ :: _ :: _ :: _ :: _ :: _ :: _ :: _ :: _ :: _ :: _ :: _ :: _ :: _ :: (.int .i64 (k : Int)) :: _ :: _ :: _ :: _ :: _ :: _ :: _ :: _ :: _ :: _ :: _ :: _ :: _ :: _ :: _ :: _ :: _ :: _ :: _ :: _ :: _ :: _ :: _ :: _ :: _ :: _ :: _ :: _ :: _ :: _ :: _ :: _ :: _ :: _ :: _ :: _ :: _ :: _ :: _ :: _ :: _ :: _ :: _ :: _ :: _ :: _ :: _ :: _ :: _ :: _ :: _ :: _ :: _ :: _ :: _ :: _ :: _ :: _ :: _ :: _ :: _ :: _ :: _ :: _ :: _ :: _ :: _ :: _ :: _ :: _ :: _ :: _ :: _ :: _ :: _ :: _ :: _ :: _ :: _ :: _ :: _ :: _ :: _ :: _ :: _ :: _ :: _ :: _ :: _ :: _ :: _ :: _ :: _ :: _ :: _ :: _ :: _ :: _ :: _ :: _ :: _ :: _ :: _ :: _ :: _ :: _ :: _ :: _ :: _ :: _ :: _ :: _ :: _ :: _ :: _ :: _ :: _ :: _ :: _ :: _ :: _ :: _ :: _ :: _ :: _ :: _ :: _ :: _ :: _ :: _ :: _ :: _ :: _ :: _ :: _ :: _ :: _ :: _ :: _ :: _ :: _ :: _ :: _ :: _ :: _ :: _ :: _ :: _ :: _ :: _ :: _ :: _ :: _ :: _ :: _ :: _ :: _ :: _ :: _ :: _ :: _ :: _ :: _ :: _ :: _ :: _ :: _ :: _ :: _ :: _ :: _ :: _ :: _ :: _ :: _ :: _ :: _ :: _ :: _ :: _ :: _ :: _ :: _ :: _ :: _ :: _ :: _ :: _ :: _ :: _ :: _ :: _ :: _ :: _ :: _ :: _ :: _ :: _ :: _ :: _ :: _ :: _ :: _ :: _ :: _ :: _ :: _ :: _ :: _ :: _ :: _ :: _ :: _ :: [])) (H' := Hx) rfl rfl ?_
                replace hK : WInv [VO.arr 24 2 [[.int .i64 last0, .list tg rows]], VO.arr 24 2 [[.int .i64 0, .nils]], pobj 3 1 pgs] Hx H6.length L locs last0 rows.length (layK (((lrows l).take i).foldl layP (shOf rows)) pg a (lrows b) k) := hK
                refine vc_seq ?_
                refine vc_seq ?_
                refine w_region ?_
                refine w_opN (env' := _) rfl rfl rfl (fun _ h => h) (nv_t7m rfl ?_)
                refine w_opN (env' := _) rfl rfl rfl (fun _ h => h) (nv_t7m rfl ?_)
                refine w_opN (env' := _) rfl rfl rfl (fun _ h => h) (nv_t7m rfl ?_)
                first | refine w_opN (v := .iptr _ [_, _, _]) (env' := _) rfl rfl rfl (fun _ h => h) (nv_t7m rfl ?_) | (refine x_index rfl rfl (by assumption) rfl el25 (by omega) (by assumption) rfl (fun bo => ?_); refine nv_t7m rfl ?_)
                refine w_opN (v := .iptr _ [_]) (env' := _) rfl rfl rfl (fun _ h => h) (nv_t7m rfl ?_)
                refine w_opN (env' := _) rfl rfl rfl (fun _ h => h) (nv_t7m rfl ?_)
                first | refine w_opN (env' := _) rfl rfl rfl (fun _ h => h) (nv_t7m rfl ?_) | refine x_len (env' := _) rfl rfl (by assumption) Tryd.underlying29 rfl (nv_t7m rfl ?_)
                refine w_opN (env' := _) rfl rfl rfl (fun _ h => h) (nv_t7m rfl ?_)
                refine w_end rfl ?_
                refine vc_cond rfl (fun hc180 => ?_) (fun hc180 => ?_)
                · skip
                  have hlk : k < (lrows b).length := by simpa using hc180
                  have hrk : (lrows b)[k]? = some (lrows b)[k] := List.getElem?_eq_getElem hlk
                  obtain ⟨v, hvx⟩ := hb2 _ (List.getElem_mem hlk)
                  rw [hvx] at hrk
                  obtain ⟨lp', s', prow, hlp', hsp', hpr, hprp, hby⟩ := hK.at (i := pg.toNat) (by omega)
                  rw [hlp] at hlp'
                  cases hlp'
                  rw [layK_at hsp] at hsp'
                  cases hsp'
                  have hll2 : (lay s.1 a.toNat ((lrows b).take k)).length = 128 := by rw [lay_length (by simp; omega)]; exact h128.1
                  obtain ⟨u, hu⟩ := lay_bs h128.2 (fun q hq => hb2 q (List.mem_of_mem_take hq)) _ (List.getElem_mem (show (a + (k : Int)).toNat < (lay s.1 a.toNat ((lrows b).take k)).length by omega))
                  have hru : (lay s.1 a.toNat ((lrows b).take k))[(a + (k : Int)).toNat]? = some [.int .u8 u] := by rw [List.getElem?_eq_getElem (by omega), hu]
                  have hak : (a + (k : Int)).toNat = a.toNat + k := by omega
                  refine vc_skip ?_
                  refine n_then ?_
                  refine vc_seq ?_
                  refine vc_block ?_
                  refine w_regionD (by kernel_rfl) ?_
                  refine d_opH (v := .ptr H6.length 0 1) (env' := _) (H2 := _) rfl rfl (.inr rfl) rfl rfl (fun _ h => h) (nd_t7m rfl ?_)
                  refine d_opH (v := .row false L 0 rows.length) (env' := _) (H2 := _) rfl (g_load hK.o rfl rfl) (.inr rfl) rfl (rfl) (fun _ h => h) (nd_t7m rfl ?_)
                  refine d_opH (env' := _) (H2 := _) rfl rfl (.inr rfl) rfl rfl (fun _ h => h) (nd_t7m rfl ?_)
                  refine d_opH (env' := _) (H2 := _) rfl rfl (.inr rfl) rfl rfl (fun _ h => h) (nd_t7m rfl ?_)
                  first | refine d_opH (v := .iptr _ [_, _, _]) (env' := _) (H2 := _) rfl rfl (.inr rfl) rfl rfl (fun _ h => h) (nd_t7m rfl ?_) | (refine y_index rfl rfl (by assumption) rfl el25 (by omega) (by assumption) rfl (fun bo => ?_); refine nd_t7m rfl ?_)
                  refine d_opH (v := .iptr _ [_, _, _]) (env' := _) (H2 := _) rfl rfl (.inr rfl) rfl rfl (fun _ h => h) (nd_t7m rfl ?_)
                  refine d_opH (env' := _) (H2 := _) rfl rfl (.inr rfl) rfl rfl (fun _ h => h) (nd_t7m rfl ?_)
                  refine d_opH (v := .ptr L pg.toNat 0) (env' := _) (H2 := _) rfl (g_index0 el22 hpr (by omega) (by omega)) (.inr rfl) rfl (rfl) (fun _ h => h) (nd_t7m rfl ?_)
                  refine d_opH (env' := _) (H2 := _) rfl rfl (.inr rfl) rfl rfl (fun _ h => h) (nd_t7m rfl ?_)
                  refine d_opH (v := .row false lp 0 (lay s.1 a.toNat ((lrows b).take k)).length) (env' := _) (H2 := _) rfl (g_load hpr hprp rfl) (.inr rfl) rfl (rfl) (fun _ h => h) (nd_t7m rfl ?_)
                  refine d_opH (env' := _) (H2 := _) rfl rfl (.inr rfl) rfl rfl (fun _ h => h) (nd_t7m rfl ?_)
                  refine d_opH (env' := _) (H2 := _) rfl rfl (.inr rfl) rfl rfl (fun _ h => h) (nd_t7m rfl ?_)
                  first | refine d_opH (v := .iptr _ [_, _, _]) (env' := _) (H2 := _) rfl rfl (.inr rfl) rfl rfl (fun _ h => h) (nd_t7m rfl ?_) | (refine y_index rfl rfl (by assumption) rfl el25 (by omega) (by assumption) rfl (fun bo => ?_); refine nd_t7m rfl ?_)
                  refine d_opH (v := .iptr _ [_, _]) (env' := _) (H2 := _) rfl rfl (.inr rfl) rfl rfl (fun _ h => h) (nd_t7m rfl ?_)
                  refine d_opH (env' := _) (H2 := _) rfl rfl (.inr rfl) rfl rfl (fun _ h => h) (nd_t7m rfl ?_)
                  refine d_opH (env' := _) (H2 := _) rfl rfl (.inr rfl) rfl rfl (fun _ h => h) (nd_t7m rfl ?_)
                  refine d_opH (v := .int .i64 (a + (k : Int))) (env' := _) (H2 := _) rfl (int_eq (i64_small (by omega) (by omega))) (.inr rfl) rfl (rfl) (fun _ h => h) (nd_t7m rfl ?_)
                  refine d_opH (env' := _) (H2 := _) rfl rfl (.inr rfl) rfl rfl (fun _ h => h) (nd_t7m rfl ?_)
                  refine d_opH (env' := _) (H2 := _) rfl rfl (.inr rfl) rfl rfl (fun _ h => h) (nd_t7m rfl ?_)
                  first | refine d_opH (v := .iptr _ [_, _, _]) (env' := _) (H2 := _) rfl rfl (.inr rfl) rfl rfl (fun _ h => h) (nd_t7m rfl ?_) | (refine y_index rfl rfl (by assumption) rfl el25 (by omega) (by assumption) rfl (fun bo => ?_); refine nd_t7m rfl ?_)
                  refine d_opH (v := .iptr _ [_]) (env' := _) (H2 := _) rfl rfl (.inr rfl) rfl rfl (fun _ h => h) (nd_t7m rfl ?_)
                  refine d_opH (env' := _) (H2 := _) rfl rfl (.inr rfl) rfl rfl (fun _ h => h) (nd_t7m rfl ?_)
                  refine d_opH (env' := _) (H2 := _) rfl rfl (.inr rfl) rfl rfl (fun _ h => h) (nd_t7m rfl ?_)
                  first | refine d_opH (v := .iptr _ [_]) (env' := _) (H2 := _) rfl rfl (.inr rfl) rfl rfl (fun _ h => h) (nd_t7m rfl ?_) | (refine y_index rfl rfl (by assumption) rfl el29 (by omega) (by assumption) rfl (fun bo => ?_); refine nd_t7m rfl ?_)
                  refine d_opH (env' := _) (H2 := _) rfl rfl (.inr rfl) rfl rfl (fun _ h => h) (nd_t7m rfl ?_)
                  refine d_opH (v := .ptr lp (a + (k : Int)).toNat 0) (env' := _) (H2 := _) rfl (g_index0 el29 hby (by omega) (by omega)) (.inr rfl) rfl (rfl) (fun _ h => h) (nd_t7m rfl ?_)
                  refine d_op0 (H2 := Hx.set lp (VO.arr 5 1 ((lay s.1 a.toNat ((lrows b).take k)).set (a + (k : Int)).toNat [.int .u8 v]))) rfl (g_store hby hru rfl sz5 ⟨rfl, by simp, by decide⟩) (.inl rfl) (rfl) (fun _ h => h) ?_
                  refine d_endB rfl ?_
                  refine n_then ?_
                  refine w_region ?_
                  refine w_opN (env' := _) rfl rfl rfl (fun _ h => h) (nv_t7m rfl ?_)
                  refine w_opN (env' := _) rfl rfl rfl (fun _ h => h) (nv_t7m rfl ?_)
                  refine w_opN (env' := _) rfl rfl rfl (fun _ h => h) (nv_t7m rfl ?_)
                  refine w_end rfl ?_
                  refine hY3 ⟨(k + 1, _), by rw [hak]; exact hK.byteStep hsp hlp hrk (by omega)⟩ (by simp only; omega) _ _ ⟨.inl rfl, .inl rfl, .inl rfl, .inl rfl, .inl rfl, .inl rfl, .inl rfl, .inl rfl, .inl rfl, .inl rfl, .inl rfl, .inl rfl, .inl rfl, .inl rfl, .inl rfl, .inl rfl, .inl ?_, .inl rfl, .inl rfl, .inl rfl, .inl rfl, .inl rfl, .inl rfl, .inl rfl, .inl rfl, .inl rfl, .inl rfl, .inl rfl, .inl rfl, .inl rfl, .inl rfl, .inl rfl, .inl rfl, .inl rfl, .inl rfl, .inl rfl, .inl rfl, .inl rfl, .inl rfl, .inl rfl, .inl rfl, .inl rfl, .inl rfl, .inl rfl, .inl rfl, .inl rfl, .inl rfl, .inl rfl, .inl rfl, .inl rfl, .inl rfl, .inl rfl, .inl rfl, .inl rfl, .inl rfl, .inl rfl, .inl rfl, .inl rfl, .inl rfl, .inl rfl, .inl rfl, .inl rfl, .inl rfl, .inl rfl, .inl rfl, .inl rfl, .inl rfl, .inl rfl, .inl rfl, .inl rfl, .inl rfl, .inl rfl, .inl rfl, .inl rfl, .inl rfl, .inl rfl, .inl rfl, .inl rfl, .inl rfl, .inl rfl, .inl rfl, .inl rfl, .inl rfl, .inl rfl, .inl rfl, .inl rfl, .inl rfl, .inl rfl, .inl rfl, .inl rfl, .inl rfl, .inl rfl, .inl rfl, .inl rfl, .inl rfl, .inl rfl, .inl rfl, .inl rfl, .inl rfl, .inl rfl, .inl rfl, .inl rfl, .inl rfl, .inl rfl, .inl rfl, .inl rfl, .inl rfl, .inl rfl, .inl rfl, .inl rfl, .inl rfl, .inl rfl, .inl rfl, .inl rfl, .inl rfl, .inl rfl, .inl rfl, .inl rfl, .inl rfl, .inl rfl, .inl rfl, .inl rfl, .inl rfl, .inl rfl, .inl rfl, .inl rfl, .inl rfl, .inl rfl, .inl rfl, .inl rfl, .inl rfl, .inl rfl, .inl rfl, .inl rfl, .inl rfl, .inl rfl, .inl rfl, .inl rfl, .inl rfl, .inl rfl, .inl rfl, .inl rfl, .inl rfl, .inl rfl, .inl rfl, .inl rfl, .inl rfl, .inl rfl, .inl rfl, .inl rfl, .inl rfl, .inl rfl, .inl rfl, .inl rfl, .inl rfl, .inl rfl, .inl rfl, .inl rfl, .inl rfl, .inl rfl, .inl rfl, .inl rfl, .inl rfl, .inl rfl, .inl rfl, .inl rfl, .inl rfl, .inl rfl, .inl rfl, .inl rfl, .inl rfl, .inl rfl, .inl rfl, .inr rfl, .inr rfl, .inr rfl, .inr rfl, .inr rfl, .inr rfl, .inr rfl, .inr rfl, .inr rfl, .inr rfl, .inr rfl, .inr rfl, .inr rfl, .inr rfl, .inr rfl, .inr rfl, .inr rfl, .inr rfl, .inr rfl, .inr rfl, .inr rfl, .inr rfl, .inr rfl, .inr rfl, .inr rfl, .inr rfl, .inr rfl, .inr rfl, .inr rfl, .inr rfl, .inr rfl, .inr rfl, .inr rfl, .inr rfl, .inr rfl, .inr rfl, .inl rfl, .inl rfl, .inl rfl, .inl rfl, .inl rfl, .inl rfl, .inl rfl, .inl rfl, .inl rfl, .inl rfl, .inl rfl, .inl rfl, .inl rfl, .inl rfl, .inl rfl, .inl rfl, .inl rfl, .inl rfl, .inl rfl, .inl rfl, .inl rfl, trivial⟩ rfl
                  exact (int_succ (by omega)).symm
                · skip
                  have hgek : ¬ k < (lrows b).length := by simpa using hc180
                  rw [layK_all (by omega)] at hK
                  refine vc_exit ?_
                  refine x_then ?_
                  refine x_then ?_
                  refine x_same ?_
                  refine n_block ?_
                  refine n_then ?_
                  refine w_region ?_
                  refine w_opN (env' := _) rfl rfl rfl (fun _ h => h) (nv_t7m rfl ?_)
                  refine w_opN (env' := _) rfl rfl rfl (fun _ h => h) (nv_t7m rfl ?_)
                  refine w_opN (env' := _) rfl rfl rfl (fun _ h => h) (nv_t7m rfl ?_)
                  refine w_end rfl ?_
                  refine hY2 ⟨(i + 1, _), by rw [foldl_take hri]; exact hK, by rw [foldl_take hri]; exact hShx.lay hki (piece_val ⟨pg, a, b, rfl, hLb, hb1, hb2⟩)⟩ (by simp only; omega) _ _ ⟨.inl rfl, .inl rfl, .inl rfl, .inl rfl, .inl rfl, .inl rfl, .inl rfl, .inl rfl, .inl rfl, .inl rfl, .inl rfl, .inl rfl, .inl rfl, .inl rfl, .inl rfl, .inl ?_, .inr rfl, .inl rfl, .inl rfl, .inl rfl, .inl rfl, .inl rfl, .inl rfl, .inl rfl, .inl rfl, .inl rfl, .inl rfl, .inl rfl, .inl rfl, .inl rfl, .inl rfl, .inl rfl, .inl rfl, .inl rfl, .inl rfl, .inl rfl, .inl rfl, .inl rfl, .inl rfl, .inl rfl, .inl rfl, .inl rfl, .inl rfl, .inl rfl, .inl rfl, .inl rfl, .inl rfl, .inl rfl, .inl rfl, .inl rfl, .inl rfl, .inl rfl, .inl rfl, .inl rfl, .inl rfl, .inl rfl, .inl rfl, .inl rfl, .inl rfl, .inl rfl, .inl rfl, .inl rfl, .inl rfl, .inl rfl, .inl rfl, .inl rfl, .inl rfl, .inl rfl, .inl rfl, .inl rfl, .inl rfl, .inl rfl, .inl rfl, .inl rfl, .inl rfl, .inl rfl, .inl rfl, .inl rfl, .inl rfl, .inl rfl, .inl rfl, .inl rfl, .inl rfl, .inl rfl, .inl rfl, .inl rfl, .inl rfl, .inl rfl, .inl rfl, .inl rfl, .inl rfl, .inl rfl, .inl rfl, .inl rfl, .inl rfl, .inl rfl, .inl rfl, .inl rfl, .inl rfl, .inl rfl, .inl rfl, .inl rfl, .inl rfl, .inl rfl, .inl rfl, .inl rfl, .inl rfl, .inl rfl, .inl rfl, .inl rfl, .inl rfl, .inl rfl, .inl rfl, .inl rfl, .inl rfl, .inl rfl, .inl rfl, .inl rfl, .inl rfl, .inl rfl, .inl rfl, .inl rfl, .inl rfl, .inl rfl, .inl rfl, .inl rfl, .inl rfl, .inl rfl, .inl rfl, .inl rfl, .inl rfl, .inl rfl, .inl rfl, .inl rfl, .inl rfl, .inl rfl, .inl rfl, .inl rfl, .inl rfl, .inl rfl, .inl rfl, .inl rfl, .inl rfl, .inl rfl, .inl rfl, .inl rfl, .inl rfl, .inl rfl, .inl rfl, .inl rfl, .inl rfl, .inl rfl, .inl rfl, .inl rfl, .inl rfl, .inl rfl, .inl rfl, .inl rfl, .inl rfl, .inl rfl, .inl rfl, .inl rfl, .inl rfl, .inl rfl, .inl rfl, .inl rfl, .inl rfl, .inr rfl, .inr rfl, .inr rfl, .inr rfl, .inr rfl, .inr rfl, .inr rfl, .inr rfl, .inr rfl, .inr rfl, .inr rfl, .inr rfl, .inr rfl, .inr rfl, .inr rfl, .inr rfl, .inr rfl, .inr rfl, .inr rfl, .inr rfl, .inr rfl, .inr rfl, .inr rfl, .inr rfl, .inr rfl, .inr rfl, .inr rfl, .inr rfl, .inr rfl, .inr rfl, .inr rfl, .inr rfl, .inr rfl, .inr rfl, .inr rfl, .inr rfl, .inr rfl, .inr rfl, .inr rfl, .inr rfl, .inr rfl, .inr rfl, .inl rfl, .inl rfl, .inl rfl, .inl rfl, .inl rfl, .inl rfl, .inl rfl, .inl rfl, .inl rfl, .inl rfl, .inl rfl, .inl rfl, .inl rfl, .inl rfl, .inl rfl, .inl rfl, .inl rfl, .inl rfl, .inl rfl, .inl rfl, .inl rfl, trivial⟩ rfl
                  exact (int_succ (by omega)).symm
              · skip
                have hge : ¬ i < (lrows l).length := by simpa using hc170
                rw [foldl_all (by omega)] at hW hShx
                refine vc_exit ?_
                refine x_then ?_
                refine x_then ?_
                refine x_same ?_
                refine n_then ?_
                refine vc_seq ?_
                refine vc_seq ?_
                refine w_region ?_
                clear hY2 Y2
                refine w_opN (env' := _) rfl rfl rfl (fun _ h => h) (nv_t7m rfl ?_)
                refine w_end rfl ?_
                refine vc_block ?_
                refine vc_loopX (α := { x : Nat × Hp // WInv [VO.arr 24 2 [[.int .i64 last0, .list tg rows]], VO.arr 24 2 [[.int .i64 0, .nils]], pobj 3 1 pgs] x.2 H6.length L locs last0 rows.length (((pgs.zip (lrows st)).take x.1).foldl stampP ((lrows l).foldl layP (shOf rows))) }) (fun x => (none :: none :: none :: none :: none :: none :: none :: none :: none :: none :: none :: none :: none :: none :: none :: none :: none :: (some (.int .i64 (x.1.1 : Nat))) :: none :: none :: none :: none :: none :: none :: none :: none :: none :: none :: none :: none :: none :: none :: none :: none :: none :: none :: none :: none :: none :: none :: none :: none :: none :: none :: none :: none :: none :: none :: none :: none :: none :: none :: none :: none :: none :: none :: none :: none :: none :: none :: none :: none :: none :: none :: none :: none :: none :: none :: none :: none :: none :: none :: none :: none :: none :: none :: none :: none :: none :: none :: none :: none :: none :: none :: none :: none :: none :: none :: none :: none :: none :: none :: none :: none :: none :: none :: none :: none :: none :: none :: none :: none :: none :: none :: none :: none :: none :: none :: none :: none :: none :: none :: none :: none :: none :: none :: none :: none :: none :: none :: none :: none :: none :: none :: none :: none :: none :: none :: none :: none :: none :: none :: none :: none :: none :: none :: none :: none :: none :: none :: none :: none :: none :: none :: none :: none :: none :: none :: none :: none :: none :: none :: none :: none :: none :: none :: none :: none :: none :: none :: none :: none :: none :: none :: none :: none :: none :: none :: none :: none :: none :: none :: none :: none :: none :: none :: none :: none :: none :: none :: none :: none :: none :: none :: none :: none :: none :: none :: none :: none :: none :: none :: none :: none :: none :: none :: none :: none :: none :: none :: none :: none :: none :: none :: none :: none :: none :: none :: none :: (some .undef) :: (some .undef) :: (some .undef) :: (some .undef) :: (some .undef) :: (some .undef) :: (some .undef) :: (some .undef) :: (some .undef) :: (some .undef) :: (some .undef) :: (some .undef) :: (some .undef) :: (some .undef) :: (some .undef) :: (some .undef) :: (some .undef) :: (some .undef) :: none :: none :: none :: [])) (fun x => x.1.2) (fun x => pgs.length - x.1.1) ⟨(0, Hx), hW⟩ ⟨.inl rfl, .inl rfl, .inl rfl, .inl rfl, .inl rfl, .inl rfl, .inl rfl, .inl rfl, .inl rfl, .inl rfl, .inl rfl, .inl rfl, .inl rfl, .inl rfl, .inl rfl, .inl rfl, .inl rfl, .inl rfl, .inl rfl, .inl rfl, .inl rfl, .inl rfl, .inl rfl, .inl rfl, .inl rfl, .inl rfl, .inl rfl, .inl rfl, .inl rfl, .inl rfl, .inl rfl, .inl rfl, .inl rfl, .inl rfl, .inl rfl, .inl rfl, .inl rfl, .inl rfl, .inl rfl, .inl rfl, .inl rfl, .inl rfl, .inl rfl, .inl rfl, .inl rfl, .inl rfl, .inl rfl, .inl rfl, .inl rfl, .inl rfl, .inl rfl, .inl rfl, .inl rfl, .inl rfl, .inl rfl, .inl rfl, .inl rfl, .inl rfl, .inl rfl, .inl rfl, .inl rfl, .inl rfl, .inl rfl, .inl rfl, .inl rfl, .inl rfl, .inl rfl, .inl rfl, .inl rfl, .inl rfl, .inl rfl, .inl rfl, .inl rfl, .inl rfl, .inl rfl, .inl rfl, .inl rfl, .inl rfl, .inl rfl, .inl rfl, .inl rfl, .inl rfl, .inl rfl, .inl rfl, .inl rfl, .inl rfl, .inl rfl, .inl rfl, .inl rfl, .inl rfl, .inl rfl, .inl rfl, .inl rfl, .inl rfl, .inl rfl, .inl rfl, .inl rfl, .inl rfl, .inl rfl, .inl rfl, .inl rfl, .inl rfl, .inl rfl, .inl rfl, .inl rfl, .inl rfl, .inl rfl, .inl rfl, .inl rfl, .inl rfl, .inl rfl, .inl rfl, .inl rfl, .inl rfl, .inl rfl, .inl rfl, .inl rfl, .inl rfl, .inl rfl, .inl rfl, .inl rfl, .inl rfl, .inl rfl, .inl rfl, .inl rfl, .inl rfl, .inl rfl, .inl rfl, .inl rfl, .inl rfl, .inl rfl, .inl rfl, .inl rfl, .inl rfl, .inl rfl, .inl rfl, .inl rfl, .inl rfl, .inl rfl, .inl rfl, .inl rfl, .inl rfl, .inl rfl, .inl rfl, .inl rfl, .inl rfl, .inl rfl, .inl rfl, .inl rfl, .inl rfl, .inl rfl, .inl rfl, .inl rfl, .inl rfl, .inl rfl, .inl rfl, .inl rfl, .inl rfl, .inl rfl, .inl rfl, .inl rfl, .inl rfl, .inl rfl, .inl rfl, .inl rfl, .inl rfl, .inl rfl, .inl rfl, .inl rfl, .inl rfl, .inl rfl, .inl rfl, .inl rfl, .inl rfl, .inl rfl, .inl rfl, .inl rfl, .inl rfl, .inl rfl, .inl rfl, .inl rfl, .inl rfl, .inl rfl, .inl rfl, .inl rfl, .inl rfl, .inl rfl, .inl rfl, .inl rfl, .inl rfl, .inl rfl, .inl rfl, .inl rfl, .inl rfl, .inl rfl, .inl rfl, .inl rfl, .inl rfl, .inl rfl, .inl rfl, .inl rfl, .inl rfl, .inl rfl, .inl rfl, .inl rfl, .inl rfl, .inl rfl, .inl rfl, .inl rfl, .inr rfl, .inr rfl, .inr rfl, .inr rfl, .inr rfl, .inr rfl, .inr rfl, .inr rfl, .inr rfl, .inr rfl, .inr rfl, .inr rfl, .inr rfl, .inr rfl, .inr rfl, .inr rfl, .inr rfl, .inr rfl, .inl rfl, .inl rfl, .inl rfl, trivial⟩ rfl ?_
                rintro ⟨⟨i, Hx⟩, hW⟩ Y4 hY4
                refine vc_norm (env' := (_ :: _ :: _ :: _ :: _ :: _ :: _ :: _ :: _ :: _ :: _ :: _ :: _ :: _ :: _ :: _ :: _ :: (.int .i64 (i : Int)) :: _ :: _ :: _ :: _ :: _ :: _ :: _ :: _ :: _ :: _ :: _ :: _ :: _ :: _ :: _ :: _ :: _ :: _ :: _ :: _ :: _ :: _ :: _ :: _ :: _ :: _ :: _ :: _ :: _ :: _ :: _ :: _ :: _ :: _ :: _ :: _ :: _ :: _ :: _ :: _ :: _ :: _ :: _ :: _ :: _ :: _ :: _ :: _ :: _ :: _ :: _ :: _ :: _ :: _ :: _ :: _ :: _ :: _ :: _ :: _ :: _ :: _ :: _ :: _ :: _ :: _ :: _ :: _ :: _ :: _ :: _ :: _ :: _ :: _ :: _ :: _ :: _ :: _ :: _ :: _ :: _ :: _ :: _ :: _ :: _ :: _ :: _ :: _ :: _ :: _ :: _ :: _ :: _ :: _ :: _ :: _ :: _ :: _ :: _ :: _ :: _ :: _ :: _ :: _ :: _ :: _ :: _ :: _ :: _ :: _ :: _ :: _ :: _ :: _ :: _ :: _ :: _ :: _ :: _ :: _ :: _ :: _ :: _ :: _ :: _ :: _ :: _ :: _ :: _ :: _ :: _ :: _ :: _ :: _ :: _ :: _ :: _ :: _ :: _ :: _ :: _ :: _ :: _ :: _ :: _ :: _ :: _ :: _ :: _ :: _ :: _ :: _ :: _ :: _ :: _ :: _ :: _ :: _ :: _ :: _ :: _ :: _ :: _ :: _ :: _ :: _ :: _ :: _ :: _ :: _ :: _ :: _ :: _ :: _ :: _ :: _ :: _ :: _ :: _ :: _ :: _ :: _ :: _ :: _ :: _ :: _ :: _ :: _ :: _ :: _ :: _ :: _ :: _ :: _ :: _ :: _ :: _ :: _ :: _ :: _ :: _ :: _ :: _ :: _ :: _ :: _ :: _ :: _ :: _ :: _ :: _ :: _ :: [])) (H' := Hx) rfl rfl ?_
                replace hW : WInv [VO.arr 24 2 [[.int .i64 last0, .list tg rows]], VO.arr 24 2 [[.int .i64 0, .nils]], pobj 3 1 pgs] Hx H6.length L locs last0 rows.length (((pgs.zip (lrows st)).take i).foldl stampP ((lrows l).foldl layP (shOf rows))) := hW
                refine vc_seq ?_
                refine vc_seq ?_
                refine w_region ?_
                refine w_opN (env' := _) rfl rfl rfl (fun _ h => h) (nv_t7m rfl ?_)
                refine w_opN (env' := _) rfl rfl rfl (fun _ h => h) (nv_t7m rfl ?_)
                refine w_opH (v := .int .i64 ((pgs.length : Nat) : Int)) (env' := _) (H2 := _) rfl (pval_len Tryd.underlying26) rfl (rfl) (fun _ h => h) (nv_t7m rfl ?_)
                refine w_opN (env' := _) rfl rfl rfl (fun _ h => h) (nv_t7m rfl ?_)
                refine w_end rfl ?_
                refine vc_cond rfl (fun hc212 => ?_) (fun hc212 => ?_)
                · skip
                  have hlt : i < pgs.length := by simpa using hc212
                  have hri0 : pgs[i]? = some pgs[i] := List.getElem?_eq_getElem hlt
                  obtain ⟨r, hr, hrx⟩ := hpg _ (List.getElem_mem hlt)
                  have hkb := okP_in (hok r hr)
                  generalize pPg r = pg at hrx hkb
                  rw [hrx] at hri0
                  have hpne : pgs ≠ [] := by intro e; rw [e] at hlt; simp at hlt
                  have hlt2 : i < (lrows st).length := by omega
                  have hsi : (lrows st)[i]? = some (lrows st)[i] := List.getElem?_eq_getElem hlt2
                  obtain ⟨k, hkx⟩ := hps _ (List.getElem_mem hlt2)
                  rw [hkx] at hsi
                  have hzi : (pgs.zip (lrows st))[i]? = some ([.int .i64 pg], [.int .i64 k]) := by rw [List.getElem?_zip_eq_some]; exact ⟨hri0, hsi⟩
                  obtain ⟨lp, s, prow, hlp, hsp, hpr, hprp, hby⟩ := hW.at (i := pg.toNat) (by omega)
                  refine vc_skip ?_
                  refine n_then ?_
                  refine vc_seq ?_
                  refine vc_block ?_
                  refine w_regionD (by kernel_rfl) ?_
                  refine d_opH (v := .ptr H6.length 0 1) (env' := _) (H2 := _) rfl rfl (.inr rfl) rfl rfl (fun _ h => h) (nd_t7m rfl ?_)
                  refine d_opH (v := .row false L 0 rows.length) (env' := _) (H2 := _) rfl (g_load hW.o rfl rfl) (.inr rfl) rfl (rfl) (fun _ h => h) (nd_t7m rfl ?_)
                  refine d_opH (env' := _) (H2 := _) rfl rfl (.inr rfl) rfl rfl (fun _ h => h) (nd_t7m rfl ?_)
                  refine d_opH (env' := _) (H2 := _) rfl rfl (.inr rfl) rfl rfl (fun _ h => h) (nd_t7m rfl ?_)
                  refine d_opH (v := .ptr 2 i 0) (env' := _) (H2 := _) rfl ((by rw [show pval 2 pgs = .row false 2 0 pgs.length from pval_row hpne]; exact g_index0 el26 (hW.low 2 _ (show _ = some (VO.arr 3 1 pgs) from congrArg some (pobj_arr hpne))) (by omega) (by omega))) (.inr rfl) rfl (rfl) (fun _ h => h) (nd_t7m rfl ?_)
                  refine d_opH (v := .int .i64 pg) (env' := _) (H2 := _) rfl (g_load (hW.low 2 _ (show _ = some (VO.arr 3 1 pgs) from congrArg some (pobj_arr hpne))) hri0 rfl) (.inr rfl) rfl (rfl) (fun _ h => h) (nd_t7m rfl ?_)
                  refine d_opH (env' := _) (H2 := _) rfl rfl (.inr rfl) rfl rfl (fun _ h => h) (nd_t7m rfl ?_)
                  refine d_opH (env' := _) (H2 := _) rfl rfl (.inr rfl) rfl rfl (fun _ h => h) (nd_t7m rfl ?_)
                  first | refine d_opH (v := .iptr _ [_]) (env' := _) (H2 := _) rfl rfl (.inr rfl) rfl rfl (fun _ h => h) (nd_t7m rfl ?_) | (refine y_index rfl rfl (by assumption) rfl el26 (by omega) (by assumption) rfl (fun bo => ?_); refine nd_t7m rfl ?_)
                  refine d_opH (env' := _) (H2 := _) rfl rfl (.inr rfl) rfl rfl (fun _ h => h) (nd_t7m rfl ?_)
                  refine d_opH (v := .ptr L pg.toNat 0) (env' := _) (H2 := _) rfl (g_index0 el22 hpr (by omega) (by omega)) (.inr rfl) rfl (rfl) (fun _ h => h) (nd_t7m rfl ?_)
                  refine d_opH (env' := _) (H2 := _) rfl rfl (.inr rfl) rfl rfl (fun _ h => h) (nd_t7m rfl ?_)
                  refine d_op0 (H2 := Hx.set L (VO.arr 50 2 (prow.set pg.toNat [.row false lp 0 s.1.length, .int .i64 k]))) rfl (g_store hpr hprp rfl sz3 ⟨rfl, by simp, by decide⟩) (.inl rfl) (rfl) (fun _ h => h) ?_
                  refine d_endB rfl ?_
                  refine n_then ?_
                  refine w_region ?_
                  refine w_opN (env' := _) rfl rfl rfl (fun _ h => h) (nv_t7m rfl ?_)
                  refine w_opN (env' := _) rfl rfl rfl (fun _ h => h) (nv_t7m rfl ?_)
                  refine w_opN (env' := _) rfl rfl rfl (fun _ h => h) (nv_t7m rfl ?_)
                  refine w_end rfl ?_
                  refine hY4 ⟨(i + 1, _), by rw [foldl_take hzi]; exact hW.stampStep hpr hlp hsp⟩ (by simp only; omega) _ _ ⟨.inl rfl, .inl rfl, .inl rfl, .inl rfl, .inl rfl, .inl rfl, .inl rfl, .inl rfl, .inl rfl, .inl rfl, .inl rfl, .inl rfl, .inl rfl, .inl rfl, .inl rfl, .inl rfl, .inl rfl, .inl ?_, .inl rfl, .inl rfl, .inl rfl, .inl rfl, .inl rfl, .inl rfl, .inl rfl, .inl rfl, .inl rfl, .inl rfl, .inl rfl, .inl rfl, .inl rfl, .inl rfl, .inl rfl, .inl rfl, .inl rfl, .inl rfl, .inl rfl, .inl rfl, .inl rfl, .inl rfl, .inl rfl, .inl rfl, .inl rfl, .inl rfl, .inl rfl, .inl rfl, .inl rfl, .inl rfl, .inl rfl, .inl rfl, .inl rfl, .inl rfl, .inl rfl, .inl rfl, .inl rfl, .inl rfl, .inl rfl, .inl rfl, .inl rfl, .inl rfl, .inl rfl, .inl rfl, .inl rfl, .inl rfl, .inl rfl, .inl rfl, .inl rfl, .inl rfl, .inl rfl, .inl rfl, .inl rfl, .inl rfl, .inl rfl, .inl rfl, .inl rfl, .inl rfl, .inl rfl, .inl rfl, .inl rfl, .inl rfl, .inl rfl, .inl rfl, .inl rfl, .inl rfl, .inl rfl, .inl rfl, .inl rfl, .inl rfl, .inl rfl, .inl rfl, .inl rfl, .inl rfl, .inl rfl, .inl rfl, .inl rfl, .inl rfl, .inl rfl, .inl rfl, .inl rfl, .inl rfl, .inl rfl, .inl rfl, .inl rfl, .inl rfl, .inl rfl, .inl rfl, .inl rfl, .inl rfl, .inl rfl, .inl rfl, .inl rfl, .inl rfl, .inl rfl, .inl rfl, .inl rfl, .inl rfl, .inl rfl, .inl rfl, .inl rfl, .inl rfl, .inl rfl, .inl rfl, .inl rfl, .inl rfl, .inl rfl, .inl rfl, .inl rfl, .inl rfl, .inl rfl, .inl rfl, .inl rfl, .inl rfl, .inl rfl, .inl rfl, .inl rfl, .inl rfl, .inl rfl, .inl rfl, .inl rfl, .inl rfl, .inl rfl, .inl rfl, .inl rfl, .inl rfl, .inl rfl, .inl rfl, .inl rfl, .inl rfl, .inl rfl, .inl rfl, .inl rfl, .inl rfl, .inl rfl, .inl rfl, .inl rfl, .inl rfl, .inl rfl, .inl rfl, .inl rfl, .inl rfl, .inl rfl, .inl rfl, .inl rfl, .inl rfl, .inl rfl, .inl rfl, .inl rfl, .inl rfl, .inl rfl, .inl rfl, .inl rfl, .inl rfl, .inl rfl, .inl rfl, .inl rfl, .inl rfl, .inl rfl, .inl rfl, .inl rfl, .inl rfl, .inl rfl, .inl rfl, .inl rfl, .inl rfl, .inl rfl, .inl rfl, .inl rfl, .inl rfl, .inl rfl, .inl rfl, .inl rfl, .inl rfl, .inl rfl, .inl rfl, .inl rfl, .inl rfl, .inl rfl, .inl rfl, .inl rfl, .inl rfl, .inl rfl, .inl rfl, .inl rfl, .inl rfl, .inl rfl, .inl rfl, .inl rfl, .inl rfl, .inl rfl, .inr rfl, .inr rfl, .inr rfl, .inr rfl, .inr rfl, .inr rfl, .inr rfl, .inr rfl, .inr rfl, .inr rfl, .inr rfl, .inr rfl, .inr rfl, .inr rfl, .inr rfl, .inr rfl, .inr rfl, .inr rfl, .inl rfl, .inl rfl, .inl rfl, trivial⟩ rfl
                  exact (int_succ (by omega)).symm
                · skip
                  have hge : ¬ i < pgs.length := by simpa using hc212
                  rw [foldl_all (by simp; omega)] at hW
                  refine vc_exit ?_
                  refine x_then ?_
                  refine x_then ?_
                  refine x_same ?_
                  refine n_then ?_
                  refine vc_seq ?_
                  refine w_region ?_
                  refine w_opN (env' := _) rfl rfl rfl (fun _ h => h) (nv_t7m rfl ?_)
                  refine w_opN (v := .ptr H6.length 0 0) (env' := _) rfl rfl rfl (fun _ h => h) (nv_t7m rfl ?_)
                  refine w_op0N (H2 := Hx.set H6.length (VO.arr 24 2 [[.int .i64 last, .row false L 0 rows.length]])) rfl (g_store hW.o rfl rfl sz3 ⟨rfl, by simp, by decide⟩) (rfl) (fun _ h => h) ?_
                  refine w_end rfl ?_
                  refine vc_seq ?_
                  refine w_region ?_
                  refine w_opH (v := .agg [.int .i64 last, .row false L 0 rows.length]) (env' := _) (H2 := _) rfl (g_load (get_self hW.o) rfl rfl) rfl (rfl) (fun _ h => h) (nv_t7m rfl ?_)
                  refine w_op0N (H2 := _) rfl (g_store (get_set (hW.low 1 _ rfl) (by have := hW.lq; simp at this; omega)) rfl rfl sz24 ⟨rfl, by simp, by decide⟩) (rfl) (fun _ h => h) ?_
                  refine w_opN (env' := _) rfl rfl rfl (fun _ h => h) (nv_t7m rfl ?_)
                  refine w_end rfl ?_
                  refine vc_ret ?_
                  refine r_fn (vres_cell_tmp rfl rfl (g_vload (get_self (get_set (hW.low 1 _ rfl) (by have := hW.lq; simp at this; omega))) rfl rfl) rfl) ?_
                  -- return 13
                  have hq2 : 1 ≠ L := by have := hW.lL; simp at this; omega
                  have hl2 : 1 ∉ locs := fun h => by have := hW.ll 1 h; simp at this
                  show retv _ _ = some (withR last0 rows (lrows l) (lrows st) last)
                  rw [withR, if_pos hval, hsc]
                  simp only [hbad, Bool.false_eq_true, if_false]
                  exact ret_img ((hW.img.other hW.qL (fun h => hW.ql _ h rfl)).other hq2 hl2) hW.n (ShOk.stampAll _ _ hShx)
end Go.Vi
